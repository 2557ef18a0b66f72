/- Joined by mkmerged.py: LgRightF, LgOpen. -/
import Derived.Test.YtnheahologecfaaGreatDoorMd13
import Derived.Test.YtnheahologecfaaGreatDoorMd14
import Derived.Test.YtnheahologecfaaGreatDoorMd02
import Derived.Test.YtnheahologecfaaGreatDoorMd10
import Derived.Test.YtnheahologecfaaGreatDoorMd05
/- LgRightF, what a claim needs of it (prune.py). -/
namespace Go.Proofs.YtnheahologecfaaGreatDoor.Lg
open Go.RowKit
set_option linter.unusedVariables false
set_option maxRecDepth 100000
theorem numL_nil : numL [] := by rw [numL]; trivial
theorem numL_cons {o n : Int} {a : List B} {b r : List Stp} : numL (⟨o, a, n, b⟩ :: r) ↔ (-9223372036854775808 ≤ n ∧ n ≤ 9223372036854775807) ∧ numL b ∧ numL r := by rw [numL]
theorem numL_app2 : ∀ {a b : List Stp}, numL a → numL b → numL (a ++ b)
  | [], b, _, h => h
  | ⟨_, _, _, c⟩ :: r, b, h, k => by
    rw [numL_cons] at h
    rw [List.cons_append, numL_cons]
    exact ⟨h.1, h.2.1, numL_app2 (a := r) h.2.2 k⟩
theorem mach_num : ∀ (lines : List B) (fs : List Frame) (cur : List Stp) (m : List Stp) (r : List B), (∀ f ∈ fs, numL f.out ∧ -9223372036854775808 ≤ f.n ∧ f.n ≤ 9223372036854775807) → numL cur → mach fs cur lines = .ok m r → numL m
  | [], fs, cur, m, r, hf, hc, h => by
    rw [mach_nil] at h
    cases fs with
    | nil => cases h; exact hc
    | cons f fs => cases h
  | line :: rest, fs, cur, m, r, hf, hc, h => by
    rw [mach_cons] at h
    by_cases he : line = endW
    · rw [if_pos he] at h
      cases fs with
      | nil => cases h
      | cons f fs =>
        have h1 := hf f (List.mem_cons_self ..)
        exact mach_num rest fs _ m r (fun g hg => hf g (List.mem_cons_of_mem _ hg)) (numL_app2 h1.1 (numL_cons.2 ⟨h1.2, hc, numL_nil⟩)) h
    · rw [if_neg he] at h
      cases hs : stepOf line with
      | none => rw [hs] at h; cases h
      | some x =>
        obtain ⟨op, args, n⟩ := x
        obtain ⟨_, _, h1, h2, _⟩ := stepOf_says hs
        rw [hs] at h
        simp only at h
        by_cases ho : op = 9 ∨ op = 10
        · rw [if_pos ho] at h
          by_cases hd : 4 ≤ fs.length
          · rw [if_pos hd] at h; cases h
          · rw [if_neg hd] at h
            refine mach_num rest _ _ m r (fun g hg => ?_) numL_nil h
            rcases List.mem_cons.1 hg with rfl | hg
            · exact ⟨hc, by show -9223372036854775808 ≤ n; omega, by show n ≤ 9223372036854775807; omega⟩
            · exact hf g hg
        · rw [if_neg ho] at h
          exact mach_num rest fs _ m r hf (numL_app2 hc (numL_cons.2 ⟨⟨by omega, by omega⟩, numL_nil, numL_nil⟩)) h
theorem parse_num {cmd : B} {m : List Stp} {k : Nat} (h : parse cmd = (m, k)) : numL m := by
  by_cases hk : k = 0
  · subst hk
    rcases parse_ok h with ⟨_, rfl⟩ | ⟨_, _, _, r, hb⟩
    · exact numL_nil
    · rw [← mach_bk] at hb
      exact mach_num _ [] [] m r (by simp) numL_nil hb
  · have := parse_no (cmd := cmd) (by rw [h]; exact hk)
    rw [h] at this
    simp only at this
    subst this
    exact numL_nil
def rightE (l : List Stp) : Nat := if (parse (print l)).2 = 0 ∧ sameL (parse (print l)).1 l = false then 20 else (parse (print l)).2
theorem right_ok {l : List Stp} (h : rightE l = 0) : parse (print l) = (l, 0) := by
  unfold rightE at h
  split at h
  · omega
  · next h1 =>
    have h2 : sameL (parse (print l)).1 l = true := by
      cases e : sameL (parse (print l)).1 l with
      | true => rfl
      | false => exact absurd ⟨h, e⟩ h1
    have h3 := sameL_eq h2
    exact Prod.ext h3 h
theorem right_parse {cmd : B} {m : List Stp} (h : parse cmd = (m, 0)) : rightE m = 0 := by
  have hp := parse_print h
  unfold rightE
  rw [hp, h]
  simp [sameL_refl]
theorem parse_all {cmd : ByteArray} {m : List Stp} {k : Nat} (h : parse (tl cmd) = (m, k)) (w : World) (hE : Env w) :
    Calls Tryz.prog 67 #[.string cmd] w fun e w' => (∃ A n c, e = .returned (.tuple #[.slice A n c, .int .i64 k]) ∧ n ≤ c ∧ StepsAt w' (fun b => w.heap.size ≤ b) A n m) ∧ Below w.heap.size w w' := by
  by_cases hbig : 8192 < cmd.size
  · have hI : (8192 : Int) < (cmd.size : Int) := by omega
    have R : parse (tl cmd) = ([], 15) := by rw [parse, if_pos (by rw [tl_len]; exact hbig)]
    rw [h] at R
    cases R
    clear hbig h
    go_enter Tryz.func67, Tryz.ntmps67
    go_wp2_with (fail)
    go_ret2
    exact ⟨⟨none, 0, 0, rfl, Nat.le_refl _, rfl, [], Lies.none_, .nil⟩, Below.refl _ _⟩
  · exact parse_of h (by omega) w hE
set_option maxHeartbeats 2000000 in
theorem lright_any (l : List Stp) (A : Option Addr) (n cp : Nat) (w : World) (ok : Nat → Prop) (hr : StepsAt w ok A n l) (hn : numL l) (hl : (print l).length ≤ 4000000) (hE : Env w) :
    Calls Tryz.prog 30 #[.slice A n cp] w fun e w' => e = .returned (.int .i64 (rightE l)) ∧ Below w.heap.size w w' := by
  have EV := Lib.hid (fun W (h : Below w.heap.size w W) => hE.below h)
  have SR := Lib.hid (fun W (h : Below w.heap.size w W) => hr.below h)
  have PR := Lib.hid (print_any _ l (Nat.le_refl _) hn hl A n cp w ok hE hr)
  have PL := Lib.hid (fun (m : List Stp) k (h : parse (tl (bs (print l))) = (m, k)) => parse_len h)
  rcases pa : parse (print l) with ⟨m, k⟩
  have PA := Lib.hid (fun W hE' => parse_all (cmd := bs (print l)) (w := W) pa hE')
  have hml := PL.out m k pa
  rw [bs_size] at hml
  clear hE hr PL
  by_cases hk : k = 0
  · subst hk
    cases hs : sameL m l
    · have R : Hid (rightE l = 20) := Lib.hid (by unfold rightE; rw [pa]; simp [hs])
      have LS : Hid (∀ W A1 n1 c1 ok1, Below w.heap.size w W → StepsAt W ok1 A1 n1 m → Calls Tryz.prog 69 #[.slice A1 n1 c1, .slice A n cp] W fun e w' => e = .returned (.bool false) ∧ Below W.heap.size W w') := Lib.hid (fun W A1 n1 c1 ok1 hb h1 => by
        rw [← hs]
        exact lsame_any _ m l (Nat.le_refl _) (by omega) (by omega) A1 A n1 n c1 cp W ok1 ok h1 (SR.out W hb))
      clear hs pa
      go_enter Tryz.func30, Tryz.ntmps30
      go_wp2_with (first
        | (go_at_call 68; (with_reducible refine (PR.out).mono ?_); rintro e w1 ⟨rfl, b1⟩)
        | (go_at_call 67; (with_reducible refine (PA.out w1 (EV.out _ b1)).mono ?_); rintro e w2 ⟨⟨A1, n1, c1, rfl, _, s1⟩, b2⟩; have b02 := b1.trans (b2.mono b1.size); have HS1 := Lib.hid s1; clear s1)
        | (go_at_call 69; (with_reducible refine (LS.out _ _ _ _ _ b02 HS1.out).mono ?_); rintro e w3 ⟨rfl, b3⟩))
      go_ret
      exact ⟨by rw [R.out]; rfl, b02.trans (b3.mono b02.size)⟩
    · have R : Hid (rightE l = 0) := Lib.hid (by unfold rightE; rw [pa]; simp [hs])
      have LS : Hid (∀ W A1 n1 c1 ok1, Below w.heap.size w W → StepsAt W ok1 A1 n1 m → Calls Tryz.prog 69 #[.slice A1 n1 c1, .slice A n cp] W fun e w' => e = .returned (.bool true) ∧ Below W.heap.size W w') := Lib.hid (fun W A1 n1 c1 ok1 hb h1 => by
        rw [← hs]
        exact lsame_any _ m l (Nat.le_refl _) (by omega) (by omega) A1 A n1 n c1 cp W ok1 ok h1 (SR.out W hb))
      clear hs pa
      go_enter Tryz.func30, Tryz.ntmps30
      go_wp2_with (first
        | (go_at_call 68; (with_reducible refine (PR.out).mono ?_); rintro e w1 ⟨rfl, b1⟩)
        | (go_at_call 67; (with_reducible refine (PA.out w1 (EV.out _ b1)).mono ?_); rintro e w2 ⟨⟨A1, n1, c1, rfl, _, s1⟩, b2⟩; have b02 := b1.trans (b2.mono b1.size); have HS1 := Lib.hid s1; clear s1)
        | (go_at_call 69; (with_reducible refine (LS.out _ _ _ _ _ b02 HS1.out).mono ?_); rintro e w3 ⟨rfl, b3⟩))
      go_ret
      exact ⟨by rw [R.out]; rfl, b02.trans (b3.mono b02.size)⟩
  · have R : Hid (rightE l = k) := Lib.hid (by unfold rightE; rw [pa]; simp [hk])
    have g1 : ((k : Int) == 0) = false := by simp [hk]
    clear hk pa
    go_enter Tryz.func30, Tryz.ntmps30
    go_wp2_with (first
      | (go_at_call 68; (with_reducible refine (PR.out).mono ?_); rintro e w1 ⟨rfl, b1⟩)
      | (go_at_call 67; (with_reducible refine (PA.out w1 (EV.out _ b1)).mono ?_); rintro e w2 ⟨⟨A1, n1, c1, rfl, _, s1⟩, b2⟩; have b02 := b1.trans (b2.mono b1.size); clear s1))
    go_ret
    exact ⟨by rw [R.out]; rfl, b02⟩
end Go.Proofs.YtnheahologecfaaGreatDoor.Lg
/- LgOpen, what a claim needs of it (prune.py). -/
namespace Go.Proofs.YtnheahologecfaaGreatDoor.Lg
open Go.ChangeShapes Go.WideShapes Go.Deep Go.RowKit Go.ChangeMaps
set_option linter.unusedVariables false
set_option maxRecDepth 100000
def OneAt (W : World) (a : Addr) (i : Nat) (x : Stp) (cs : List Value) : Prop :=
  cs.length = 4 ∧ (∀ j u, cs[j]? = some u → W.cell? (a.add (i * 4 + j)) = some u) ∧ RowAt W (fun _ => True) cs [x] ∧ numL [x]
theorem numL_app : ∀ {a b : List Stp}, numL a → numL b → numL (a ++ b)
  | [], b, _, h => h
  | ⟨_, _, _, c⟩ :: r, b, h, k => by
    rw [numL] at h
    rw [List.cons_append, numL]
    exact ⟨h.1, h.2.1, numL_app (a := r) h.2.2 k⟩
theorem rows_of {W : World} {a : Addr} : ∀ n : Nat, (∀ i, i < n → ∃ x cs, OneAt W a i x cs) → ∃ cells l, l.length = n ∧ cells.length = n * 4 ∧ (∀ j u, cells[j]? = some u → W.cell? (a.add j) = some u) ∧ RowAt W (fun _ => True) cells l ∧ numL l
  | 0, _ => ⟨[], [], rfl, rfl, by simp, .nil, by rw [numL]; trivial⟩
  | n + 1, h => by
    obtain ⟨cells, l, h1, h2, h3, h4, h5⟩ := rows_of n (fun i hi => h i (by omega))
    obtain ⟨x, cs, k1, k2, k3, k4⟩ := h n (by omega)
    refine ⟨cells ++ cs, l ++ [x], by simp [h1], by rw [List.length_append, h2, k1]; omega, fun j u hj => ?_, h4.append k3, numL_app h5 k4⟩
    rcases Nat.lt_or_ge j cells.length with hl | hl
    · rw [List.getElem?_append_left hl] at hj
      exact h3 j u hj
    · rw [List.getElem?_append_right hl] at hj
      have := k2 _ u hj
      rwa [show n * 4 + (j - cells.length) = j by omega] at this
theorem wf_bounds {n : Int} (h : (Lit.int .i64 n).wf = true) : -9223372036854775808 ≤ n ∧ n ≤ 9223372036854775807 := by
  simp [Lit.wf, IntKind.min, IntKind.max, IntKind.signed, IntKind.bits] at h
  omega
theorem open_stepsD {H : Type} {enc : TypeId × Value → H} {W : World} {b0 : Nat} {sp : Nat → Bool} {held : Bool} : ∀ (s : Nat) (x : DataW H) (pl : List MemPlace) (fuel : Nat) (v : Value), SizeOf.sizeOf x ≤ s → DataW.trod enc Tryz.prog W b0 sp held fuel 45 [v] = some (x, pl) →
    ∃ A n c l, v = .slice A n c ∧ n ≤ c ∧ StepsAt W (fun _ => True) A n l ∧ numL l := by
  intro s
  induction s with
  | zero =>
    intro x pl fuel v hs
    exfalso
    cases x <;> simp at hs
  | succ s ih =>
    intro x pl fuel v hs hf
    rcases open_slice_fields Tryz.underlying45 Tryz.underlying64 (by kernel_rfl) (by kernel_rfl) hf with ⟨h0, _⟩ | ⟨a, len, cap, m, D, Pl, hcs, hb, hl, hm, hmm, hx, hi⟩
    · refine ⟨none, 0, 0, [], by injection h0, Nat.le_refl _, ⟨rfl, [], Lies.none_, .nil⟩, by rw [numL]; trivial⟩
    · have hvv : v = .slice (some a) len cap := by injection hcs
      have hlm : len ≤ m := by rw [hmm]; split <;> omega
      have hxe : x = .slice ((List.range len).map D) ((List.range (m - len)).map fun j => D (len + j)) := by
        have := congrArg Prod.fst hx
        exact this
      have key : ∀ i, i < len → ∃ y cs, OneAt W a i y cs := fun i hil => by
        obtain ⟨ys, n, hD, _, hyl, hj⟩ := hi i (by omega)
        obtain ⟨v0, y0, c0, _, t0⟩ := hj 0 _ rfl
        obtain ⟨v1, y1, c1, _, t1⟩ := hj 1 _ rfl
        obtain ⟨v2, y2, c2, _, t2⟩ := hj 2 _ rfl
        obtain ⟨v3, y3, c3, e3, t3⟩ := hj 3 _ rfl
        obtain ⟨n0, e0, _, _⟩ := DataW.trod_int Tryz.underlying3 t0
        obtain ⟨n2, e2, _, z2⟩ := DataW.trod_int Tryz.underlying3 t2
        have ev0 : v0 = .int .i64 n0 := by injection e0
        have ev2 : v2 = .int .i64 n2 := by injection e2
        -- the block
        have hsz : SizeOf.sizeOf y3.1 ≤ s := by
          have h1 : y3.1 ∈ ys.map (·.1) := List.mem_map.2 ⟨y3, List.mem_of_getElem? e3, rfl⟩
          have h2 := List.sizeOf_lt_of_mem h1
          have h3 : D i ∈ (List.range len).map D := List.mem_map.2 ⟨i, List.mem_range.2 hil, rfl⟩
          have h4 := List.sizeOf_lt_of_mem h3
          rw [hD] at h4
          rw [hxe] at hs
          simp only [DataW.agg.sizeOf_spec, DataW.slice.sizeOf_spec] at h4 hs
          omega
        obtain ⟨B', kb, cb, blk, ev3, hkb, hst, hnb⟩ := ih y3.1 y3.2 n v3 hsz t3
        obtain ⟨hbl, bcells, hbs, hbr⟩ := hst
        -- the texts
        have hargs : ∃ A' ka ca args, v1 = .slice A' ka ca ∧ ka = List.length args ∧ ka ≤ ca ∧ Lies W (fun _ => True) 1 A' ka (strV args) := by
          rcases open_strings Tryz.underlying38 Tryz.underlying9 (by kernel_rfl) t1 with ⟨h1, _⟩ | ⟨a1, len1, cap1, ss, h1, _, hl1, _, hss, _, hcell, _⟩
          · exact ⟨none, 0, 0, [], by injection h1, rfl, Nat.le_refl _, Lies.none_⟩
          · have hge : len1 ≤ ss.length := by rw [hss]; split <;> omega
            have htl : (ss.take len1).length = len1 := by rw [List.length_take]; omega
            refine ⟨some a1, len1, cap1, (ss.take len1).map tl, by injection h1, by rw [List.length_map, htl], hl1, by rw [List.length_map, List.length_map, htl, Nat.mul_one], fun _ => ⟨a1, rfl, trivial, fun j u hu => ?_⟩⟩
            rw [strV, List.map_map, List.getElem?_map] at hu
            cases hj : (ss.take len1)[j]? with
            | none => rw [hj] at hu; cases hu
            | some t =>
              rw [hj] at hu
              have hjl : j < (ss.take len1).length := (List.getElem?_eq_some_iff.1 hj).1
              have h2 : ss[j]? = some t := by
                rw [List.getElem?_take] at hj
                split at hj
                · exact hj
                · cases hj
              have h3 := hcell j (by omega)
              rw [h3]
              rw [List.getD_eq_getElem?_getD, h2]
              exact hu
        obtain ⟨A', ka, ca, args, ev1, hka, hkc, hla⟩ := hargs
        subst ev0 ev1 ev2 ev3
        refine ⟨⟨n0, args, n2, blk⟩, [.int .i64 n0, .slice A' ka ca, .int .i64 n2, .slice B' kb cb], rfl, fun j u hu => ?_, RowAt.cons hka hkc hla hbl hkb hbs hbr .nil, by rw [numL]; exact ⟨wf_bounds z2, hnb, by rw [numL]; trivial⟩⟩
        rcases j with _ | _ | _ | _ | j
        · cases hu; exact c0
        · cases hu; exact c1
        · cases hu; exact c2
        · cases hu; exact c3
        · simp at hu
      obtain ⟨cells, l, h1, h2, h3, h4, h5⟩ := rows_of len key
      exact ⟨some a, len, cap, l, hvv, hl, ⟨h1.symm, cells, ⟨h2, fun _ => ⟨a, rfl, trivial, h3⟩⟩, h4⟩, h5⟩
end Go.Proofs.YtnheahologecfaaGreatDoor.Lg
