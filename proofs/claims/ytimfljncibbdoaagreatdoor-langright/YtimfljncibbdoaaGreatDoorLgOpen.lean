/- An argument of steps, opened: however deep, it is a list of steps that lie in memory, their numbers Go's own. -/
import Derived.Test.YtimfljncibbdoaaGreatDoorOpenBase
import Derived.Test.YtimfljncibbdoaaGreatDoorLgPrP
import Derived.Test.YtimfljncibbdoaaGreatDoorLgRow
namespace Go.Proofs.YtimfljncibbdoaaGreatDoor.Lg
open Go.ChangeShapes Go.WideShapes Go.Deep Go.RowKit Go.ChangeMaps
set_option linter.unusedVariables false
set_option maxRecDepth 100000
/-- one step's four cells, and what lies below them -/
def OneAt (W : World) (a : Addr) (i : Nat) (x : Stp) (cs : List Value) : Prop :=
  cs.length = 4 ∧ (∀ j u, cs[j]? = some u → W.cell? (a.add (i * 4 + j)) = some u) ∧ RowAt W (fun _ => True) cs [x] ∧ numL [x]
theorem numL_app : ∀ {a b : List Stp}, numL a → numL b → numL (a ++ b)
  | [], b, _, h => h
  | ⟨_, _, _, c⟩ :: r, b, h, k => by
    rw [numL] at h
    rw [List.cons_append, numL]
    exact ⟨h.1, h.2.1, numL_app (a := r) h.2.2 k⟩
theorem rows_of {W : World} {a : Addr} : ∀ n : Nat, (∀ i, i < n → ∃ x cs, OneAt W a i x cs) → ∃ cells l, l.length = n ∧ cells.length = n * 4 ∧ (∀ j u, cells[j]? = some u → W.cell? (a.add j) = some u) ∧ RowAt W (fun _ => True) cells l ∧ numL l
  | 0, _ => ⟨[], [], rfl, rfl, by simp, .nil, by rw [numL]; trivial⟩
  | n + 1, h => by
    obtain ⟨cells, l, h1, h2, h3, h4, h5⟩ := rows_of n (fun i hi => h i (by omega))
    obtain ⟨x, cs, k1, k2, k3, k4⟩ := h n (by omega)
    refine ⟨cells ++ cs, l ++ [x], by simp [h1], by rw [List.length_append, h2, k1]; omega, fun j u hj => ?_, h4.append k3, numL_app h5 k4⟩
    rcases Nat.lt_or_ge j cells.length with hl | hl
    · rw [List.getElem?_append_left hl] at hj
      exact h3 j u hj
    · rw [List.getElem?_append_right hl] at hj
      have := k2 _ u hj
      rwa [show n * 4 + (j - cells.length) = j by omega] at this
theorem wf_bounds {n : Int} (h : (Lit.int .i64 n).wf = true) : -9223372036854775808 ≤ n ∧ n ≤ 9223372036854775807 := by
  simp [Lit.wf, IntKind.min, IntKind.max, IntKind.signed, IntKind.bits] at h
  omega
theorem open_stepsD {H : Type} {enc : TypeId × Value → H} {W : World} {b0 : Nat} {sp : Nat → Bool} {held : Bool} : ∀ (s : Nat) (x : DataW H) (pl : List MemPlace) (fuel : Nat) (v : Value), SizeOf.sizeOf x ≤ s → DataW.trod enc Tryz.prog W b0 sp held fuel 22 [v] = some (x, pl) →
    ∃ A n c l, v = .slice A n c ∧ n ≤ c ∧ StepsAt W (fun _ => True) A n l ∧ numL l := by
  intro s
  induction s with
  | zero =>
    intro x pl fuel v hs
    exfalso
    cases x <;> simp at hs
  | succ s ih =>
    intro x pl fuel v hs hf
    rcases open_slice_fields Tryz.underlying22 Tryz.underlying37 (by kernel_rfl) (by kernel_rfl) hf with ⟨h0, _⟩ | ⟨a, len, cap, m, D, Pl, hcs, hb, hl, hm, hmm, hx, hi⟩
    · refine ⟨none, 0, 0, [], by injection h0, Nat.le_refl _, ⟨rfl, [], Lies.none_, .nil⟩, by rw [numL]; trivial⟩
    · have hvv : v = .slice (some a) len cap := by injection hcs
      have hlm : len ≤ m := by rw [hmm]; split <;> omega
      have hxe : x = .slice ((List.range len).map D) ((List.range (m - len)).map fun j => D (len + j)) := by
        have := congrArg Prod.fst hx
        exact this
      have key : ∀ i, i < len → ∃ y cs, OneAt W a i y cs := fun i hil => by
        obtain ⟨ys, n, hD, _, hyl, hj⟩ := hi i (by omega)
        obtain ⟨v0, y0, c0, _, t0⟩ := hj 0 _ rfl
        obtain ⟨v1, y1, c1, _, t1⟩ := hj 1 _ rfl
        obtain ⟨v2, y2, c2, _, t2⟩ := hj 2 _ rfl
        obtain ⟨v3, y3, c3, e3, t3⟩ := hj 3 _ rfl
        obtain ⟨n0, e0, _, _⟩ := DataW.trod_int Tryz.underlying3 t0
        obtain ⟨n2, e2, _, z2⟩ := DataW.trod_int Tryz.underlying3 t2
        have ev0 : v0 = .int .i64 n0 := by injection e0
        have ev2 : v2 = .int .i64 n2 := by injection e2
        -- the block
        have hsz : SizeOf.sizeOf y3.1 ≤ s := by
          have h1 : y3.1 ∈ ys.map (·.1) := List.mem_map.2 ⟨y3, List.mem_of_getElem? e3, rfl⟩
          have h2 := List.sizeOf_lt_of_mem h1
          have h3 : D i ∈ (List.range len).map D := List.mem_map.2 ⟨i, List.mem_range.2 hil, rfl⟩
          have h4 := List.sizeOf_lt_of_mem h3
          rw [hD] at h4
          rw [hxe] at hs
          simp only [DataW.agg.sizeOf_spec, DataW.slice.sizeOf_spec] at h4 hs
          omega
        obtain ⟨B', kb, cb, blk, ev3, hkb, hst, hnb⟩ := ih y3.1 y3.2 n v3 hsz t3
        obtain ⟨hbl, bcells, hbs, hbr⟩ := hst
        -- the texts
        have hargs : ∃ A' ka ca args, v1 = .slice A' ka ca ∧ ka = List.length args ∧ ka ≤ ca ∧ Lies W (fun _ => True) 1 A' ka (strV args) := by
          rcases open_strings Tryz.underlying35 Tryz.underlying9 (by kernel_rfl) t1 with ⟨h1, _⟩ | ⟨a1, len1, cap1, ss, h1, _, hl1, _, hss, _, hcell, _⟩
          · exact ⟨none, 0, 0, [], by injection h1, rfl, Nat.le_refl _, Lies.none_⟩
          · have hge : len1 ≤ ss.length := by rw [hss]; split <;> omega
            have htl : (ss.take len1).length = len1 := by rw [List.length_take]; omega
            refine ⟨some a1, len1, cap1, (ss.take len1).map tl, by injection h1, by rw [List.length_map, htl], hl1, by rw [List.length_map, List.length_map, htl, Nat.mul_one], fun _ => ⟨a1, rfl, trivial, fun j u hu => ?_⟩⟩
            rw [strV, List.map_map, List.getElem?_map] at hu
            cases hj : (ss.take len1)[j]? with
            | none => rw [hj] at hu; cases hu
            | some t =>
              rw [hj] at hu
              have hjl : j < (ss.take len1).length := (List.getElem?_eq_some_iff.1 hj).1
              have h2 : ss[j]? = some t := by
                rw [List.getElem?_take] at hj
                split at hj
                · exact hj
                · cases hj
              have h3 := hcell j (by omega)
              rw [h3]
              rw [List.getD_eq_getElem?_getD, h2]
              exact hu
        obtain ⟨A', ka, ca, args, ev1, hka, hkc, hla⟩ := hargs
        subst ev0 ev1 ev2 ev3
        refine ⟨⟨n0, args, n2, blk⟩, [.int .i64 n0, .slice A' ka ca, .int .i64 n2, .slice B' kb cb], rfl, fun j u hu => ?_, RowAt.cons hka hkc hla hbl hkb hbs hbr .nil, by rw [numL]; exact ⟨wf_bounds z2, hnb, by rw [numL]; trivial⟩⟩
        rcases j with _ | _ | _ | _ | j
        · cases hu; exact c0
        · cases hu; exact c1
        · cases hu; exact c2
        · cases hu; exact c3
        · simp at hu
      obtain ⟨cells, l, h1, h2, h3, h4, h5⟩ := rows_of len key
      exact ⟨some a, len, cap, l, hvv, hl, ⟨h1.symm, cells, ⟨h2, fun _ => ⟨a, rfl, trivial, h3⟩⟩, h4⟩, h5⟩
theorem open_steps {H : Type} {enc : TypeId × Value → H} {W : World} {r : Reach} {b0 : Nat} {v : Value} {d : DataW H} {p : List MemPlace} (hv : Value.okWide Tryz.prog W r b0 22 v) (h : DataW.Trod enc Tryz.prog W 0 (fun _ => true) true 22 v d p) :
    ∃ A n c l, v = .slice A n c ∧ n ≤ c ∧ StepsAt W (fun _ => True) A n l ∧ numL l := by
  obtain ⟨a0, len0, cap0, rfl⟩ := okWide_slice Tryz.underlying22 hv
  obtain ⟨fuel, hf⟩ := h
  exact open_stepsD _ d p fuel _ (Nat.le_refl _) (by simpa only [Value.cells] using hf)
end Go.Proofs.YtimfljncibbdoaaGreatDoor.Lg
