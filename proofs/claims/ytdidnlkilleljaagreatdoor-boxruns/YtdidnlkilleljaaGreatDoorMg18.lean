/- Joined by mkmerged.py: LgRp, LgRrF, LgOpen. -/
import Derived.Test.YtdidnlkilleljaaGreatDoorMg17
import Derived.Test.YtdidnlkilleljaaGreatDoorMg14
import Derived.Test.YtdidnlkilleljaaGreatDoorMg10
import Derived.Test.YtdidnlkilleljaaGreatDoorMg15
import Derived.Test.YtdidnlkilleljaaGreatDoorMg16
import Derived.Test.YtdidnlkilleljaaGreatDoorMg02
import Derived.Test.YtdidnlkilleljaaGreatDoorMg09
import Derived.Test.YtdidnlkilleljaaGreatDoorMg05
/- LgRp, what a claim needs of it (prune.py). -/
namespace Go.Proofs.YtdidnlkilleljaaGreatDoor.Lg
open Go.RowKit
set_option linter.unusedVariables false
set_option maxRecDepth 100000
theorem last_at {cmd : ByteArray} {n : Nat} (hn : cmd.size = n + 1) : (tl cmd).getLast? = some (cmd[n]'(by omega)) := by
  have h1 : (tl cmd).length = n + 1 := by rw [tl_len]; exact hn
  rw [List.getLast?_eq_getElem?, h1, Nat.add_sub_cancel, List.getElem?_eq_getElem (by omega)]
  rfl
theorem body_at {cmd : ByteArray} {n : Nat} (hn : cmd.size = n + 1) : tl (cmd.extract 0 n) = (tl cmd).dropLast := by
  have h1 : (tl cmd).length = n + 1 := by rw [tl_len]; exact hn
  rw [List.dropLast_eq_take, h1, Nat.add_sub_cancel]
  simp [tl]
theorem splitB_tl (c : UInt8) (s : ByteArray) : (pieces c s).map tl = splitB c (tl s) := by rw [pieces, map_tl_bs]
def ansOf : Res → List Stp × Nat
  | .ok out _ => (out, 0)
  | .err e => ([], e)
theorem says_of {w w' : World} {cmd : B} {r : Res} {e : Ending} (h : RpSays w w' r e) (hp : parse cmd = ansOf r) : ParseSays w' (fun _ => True) cmd e ∧ Below w.heap.size w w' := by
  obtain ⟨⟨A, k, c, m, q, rfl, hr, hk, hs⟩, hb⟩ := h
  cases r with
  | ok out l =>
    obtain ⟨rfl, rfl⟩ := hr
    exact ⟨⟨A, k, c, by rw [hp]; rfl, hk, by rw [hp]; exact hs⟩, hb⟩
  | err e =>
    obtain ⟨rfl, rfl⟩ := hr
    exact ⟨⟨A, k, c, by rw [hp]; rfl, hk, by rw [hp]; exact hs⟩, hb⟩
set_option maxHeartbeats 4000000 in
theorem rparse_any (cmd : ByteArray) (w : World) :
    Calls Tryz.prog 68 #[.string cmd] w fun e w' => ParseSays w' (fun _ => True) (tl cmd) e ∧ Below w.heap.size w w' := by
  by_cases hbig : 8192 < cmd.size
  · have hI : (8192 : Int) < (cmd.size : Int) := by omega
    have R : Hid (parse (tl cmd) = ([], 15)) := Lib.hid (by rw [parse, if_pos (by rw [tl_len]; exact hbig)])
    clear hbig
    go_enter Tryz.func68, Tryz.ntmps68
    go_wp2_with (fail)
    go_ret2
    exact ⟨ParseSays.none_ R.out, Below.refl _ _⟩
  by_cases h0 : cmd.size = 0
  · obtain rfl := empty_of h0
    have R : Hid (parse (tl ⟨#[]⟩) = ([], 0)) := Lib.hid rfl
    clear hbig h0
    go_enter Tryz.func68, Tryz.ntmps68
    go_wp2_with (fail)
    go_ret2
    exact ⟨ParseSays.none_ R.out, Below.refl _ _⟩
  obtain ⟨n, hn⟩ : ∃ n, cmd.size = n + 1 := ⟨cmd.size - 1, by omega⟩
  have hn6 : n ≤ 8191 := by omega
  have hnb : ¬ 8192 < (tl cmd).length := by rw [tl_len]; exact hbig
  have hne2 : ¬ tl cmd = [] := fun e => h0 (by rw [← tl_len, e]; rfl)
  have hla := last_at hn
  have hbo := body_at hn
  by_cases hl : cmd[n]'(by omega) = 10
  · have hlast : (((cmd[n]'(by omega)).toNat : Int) != 10) = false := by rw [hl]; rfl
    have hg : ¬ (tl cmd).getLast? ≠ some 10 := by rw [hla, hl]; simp
    have hsp : (pieces 10 (cmd.extract 0 n)).map tl = splitB 10 (tl cmd).dropLast := by rw [splitB_tl, hbo]
    have hsl : (pieces 10 (cmd.extract 0 n)).length = (splitB 10 (tl cmd).dropLast).length := by rw [← hsp, List.length_map]
    by_cases h64 : 64 < (splitB 10 (tl cmd).dropLast).length
    · have R : Hid (parse (tl cmd) = ([], 15)) := Lib.hid (by rw [parse, if_neg hnb, if_neg hne2, if_neg hg, if_pos h64])
      generalize hbody : cmd.extract 0 n = body at *
      generalize hLs : pieces 10 body = L at *
      have SP : Hid (Calls Tryz.prog 123 #[.string body, .int .u8 10] w fun e w' => (∃ A c, e = .returned (.slice A L.length c) ∧ L.length ≤ c ∧ Strs w' A L) ∧ Below w.heap.size w w') := Lib.hid ((rsplit_any body 10 w (by rw [← hbody]; simp; omega)).mono (by
        rintro e w' ⟨v, rfl, ho, hb⟩
        rw [hLs] at ho
        obtain ⟨A, c, rfl, h1, h2⟩ := own_strs ho
        exact ⟨⟨A, c, rfl, h1, h2⟩, hb⟩))
      have hnbI : ¬ (8192 : Int) < ((n + 1 : Nat) : Int) := by omega
      have hne : ¬ cmd.toList = [] := by rw [Lib.toList_data]; exact hne2
      have hne3 := some_ne (s := cmd) (by omega)
      have b1 : (0 : Int) ≤ (n : Int) := by omega
      have b2 : (n : Int) < ((n + 1 : Nat) : Int) := by omega
      have h64I : (64 : Int) < (L.length : Int) := by omega
      have HB := Lib.hid hbody
      clear hLs hsl hsp hg hl hla hbo hnb hne2 h0 hbig h64
      go_enter Tryz.func68, Tryz.ntmps68
      go_wp2_with (go_at_call 123; (with_reducible refine (SP.out).mono ?_); rintro e w1 ⟨⟨A, c, rfl, hAc, hst⟩, hb1⟩)
      go_ret2
      exact ⟨ParseSays.none_ R.out, hb1⟩
    · have hpz : ∀ p ∈ pieces 10 (cmd.extract 0 n), p.size ≤ 1000000 := fun p h => by
        have := pieces_part 10 (cmd.extract 0 n) p h
        simp at this
        omega
      have R : parse (tl cmd) = ansOf (bk 0 [] (splitB 10 (tl cmd).dropLast)) := by
        rw [parse, if_neg hnb, if_neg hne2, if_neg hg, if_neg h64]
        cases bk 0 [] (splitB 10 (tl cmd).dropLast) <;> rfl
      refine (rloop cmd (cmd.extract 0 n) (pieces 10 (cmd.extract 0 n)) w (by omega) hpz n hn hn6 hlast rfl rfl).mono ?_
      intro e w' h
      rw [hsp, mach_bk] at h
      exact says_of h R
  · have hlast : (((cmd[n]'(by omega)).toNat : Int) != 10) = true := by
      simp only [bne_iff_ne, ne_eq]
      intro e
      exact hl (UInt8.toNat_inj.1 (by have : (cmd[n]'(by omega)).toNat = 10 := by omega
                                      rw [this]; rfl))
    have hg : (tl cmd).getLast? ≠ some 10 := by rw [hla]; simpa using hl
    have R : Hid (parse (tl cmd) = ([], 20)) := Lib.hid (by rw [parse, if_neg hnb, if_neg hne2, if_pos hg])
    have hnbI : ¬ (8192 : Int) < ((n + 1 : Nat) : Int) := by omega
    have hne : ¬ cmd.toList = [] := by rw [Lib.toList_data]; exact hne2
    have hne3 := some_ne (s := cmd) (by omega)
    have b1 : (0 : Int) ≤ (n : Int) := by omega
    have b2 : (n : Int) < ((n + 1 : Nat) : Int) := by omega
    clear hg hl hla hbo hnb hne2 h0 hbig
    go_enter Tryz.func68, Tryz.ntmps68
    go_wp2_with (fail)
    go_ret2
    exact ⟨ParseSays.none_ R.out, Below.refl _ _⟩
end Go.Proofs.YtdidnlkilleljaaGreatDoor.Lg
/- LgRrF, what a claim needs of it (prune.py). -/
namespace Go.Proofs.YtdidnlkilleljaaGreatDoor.Lg
open Go.RowKit
set_option linter.unusedVariables false
set_option maxHeartbeats 2000000 in
theorem wide_small : ∀ {l : List Stp}, smallL l → wide l ≤ 20 * weight l
  | [], _ => by simp [wide]
  | ⟨o, a, n, b⟩ :: r, h => by
    rw [smallL_cons] at h
    have h1 := wide_small (l := b) h.2.1
    have h2 := wide_small (l := r) h.2.2
    have h3 := h.1.1
    rw [wide, weight]
    omega
theorem rparse_of {cmd : ByteArray} {m : List Stp} {k : Nat} (h : parse (tl cmd) = (m, k)) (w : World) :
    Calls Tryz.prog 68 #[.string cmd] w fun e w' => (∃ A n c, e = .returned (.tuple #[.slice A n c, .int .i64 k]) ∧ n ≤ c ∧ StepsAt w' (fun _ => True) A n m) ∧ Below w.heap.size w w' := by
  refine (rparse_any cmd w).mono ?_
  rintro e w' ⟨⟨A, n, c, h1, h2, h3⟩, hb⟩
  rw [h] at h1 h3
  exact ⟨⟨A, n, c, h1, h2, h3⟩, hb⟩
theorem sameL_comm {l m : List Stp} : sameL l m = sameL m l := by
  cases h : sameL l m with
  | true =>
    have := sameL_eq h
    subst this
    rw [sameL_refl]
  | false =>
    cases k : sameL m l with
    | false => rfl
    | true =>
      have := sameL_eq k
      subst this
      rw [sameL_refl] at h
      cases h
set_option maxHeartbeats 2000000 in
theorem rright_any (l : List Stp) (A : Option Addr) (n cp : Nat) (w : World) (ok : Nat → Prop) (hr : StepsAt w ok A n l) (hn : numL l) (hl : (print l).length ≤ 4000000) (hw : weight l ≤ 1000000 ∧ wide l ≤ 1000000) :
    Calls Tryz.prog 32 #[.slice A n cp] w fun e w' => e = .returned (.int .i64 (rightE l)) ∧ Below w.heap.size w w' := by
  have SR := Lib.hid (fun W (h : Below w.heap.size w W) => hr.below h)
  have PR := Lib.hid (rprint_any _ l (Nat.le_refl _) hn hl A n cp w ok hr)
  rcases pa : parse (print l) with ⟨m, k⟩
  have PA := Lib.hid (fun W => rparse_of (cmd := bs (print l)) (w := W) pa)
  clear hr
  by_cases hk : k = 0
  · subst hk
    cases hs : sameL m l
    · have R : Hid (rightE l = 20) := Lib.hid (by unfold rightE; rw [pa]; simp [hs])
      have LS : Hid (∀ W A1 n1 c1 ok1, Below w.heap.size w W → StepsAt W ok1 A1 n1 m → Calls Tryz.prog 70 #[.slice A n cp, .slice A1 n1 c1] W fun e w' => e = .returned (.bool false) ∧ Below W.heap.size W w') := Lib.hid (fun W A1 n1 c1 ok1 hb h1 => by
        rw [← hs, ← sameL_comm]
        refine (same_any _ l m (Nat.le_refl _) hw.1 hw.2 A A1 n n1 cp c1 W ok ok1 (SR.out W hb) h1).mono ?_
        rintro e w' ⟨h2, q, rfl⟩
        exact ⟨h2, dn_below W q⟩)
      clear hs pa
      go_enter Tryz.func32, Tryz.ntmps32
      go_wp2_with (first
        | (go_at_call 69; (with_reducible refine (PR.out).mono ?_); rintro e w1 ⟨rfl, b1⟩)
        | (go_at_call 68; (with_reducible refine (PA.out w1).mono ?_); rintro e w2 ⟨⟨A1, n1, c1, rfl, _, s1⟩, b2⟩; have b02 := b1.trans (b2.mono b1.size); have HS1 := Lib.hid s1; clear s1)
        | (go_at_call 70; (with_reducible refine (LS.out _ _ _ _ _ b02 HS1.out).mono ?_); rintro e w3 ⟨rfl, b3⟩; have b03 := b02.trans (b3.mono b02.size)))
      go_ret
      exact ⟨by rw [R.out]; rfl, b03⟩
    · have R : Hid (rightE l = 0) := Lib.hid (by unfold rightE; rw [pa]; simp [hs])
      have LS : Hid (∀ W A1 n1 c1 ok1, Below w.heap.size w W → StepsAt W ok1 A1 n1 m → Calls Tryz.prog 70 #[.slice A n cp, .slice A1 n1 c1] W fun e w' => e = .returned (.bool true) ∧ Below W.heap.size W w') := Lib.hid (fun W A1 n1 c1 ok1 hb h1 => by
        rw [← hs, ← sameL_comm]
        refine (same_any _ l m (Nat.le_refl _) hw.1 hw.2 A A1 n n1 cp c1 W ok ok1 (SR.out W hb) h1).mono ?_
        rintro e w' ⟨h2, q, rfl⟩
        exact ⟨h2, dn_below W q⟩)
      clear hs pa
      go_enter Tryz.func32, Tryz.ntmps32
      go_wp2_with (first
        | (go_at_call 69; (with_reducible refine (PR.out).mono ?_); rintro e w1 ⟨rfl, b1⟩)
        | (go_at_call 68; (with_reducible refine (PA.out w1).mono ?_); rintro e w2 ⟨⟨A1, n1, c1, rfl, _, s1⟩, b2⟩; have b02 := b1.trans (b2.mono b1.size); have HS1 := Lib.hid s1; clear s1)
        | (go_at_call 70; (with_reducible refine (LS.out _ _ _ _ _ b02 HS1.out).mono ?_); rintro e w3 ⟨rfl, b3⟩; have b03 := b02.trans (b3.mono b02.size)))
      go_ret
      exact ⟨by rw [R.out]; rfl, b03⟩
  · have R : Hid (rightE l = k) := Lib.hid (by unfold rightE; rw [pa]; simp [hk])
    have g1 : ((k : Int) != 0) = true := by simp [hk]
    clear hk pa
    go_enter Tryz.func32, Tryz.ntmps32
    go_wp2_with (first
      | (go_at_call 69; (with_reducible refine (PR.out).mono ?_); rintro e w1 ⟨rfl, b1⟩)
      | (go_at_call 68; (with_reducible refine (PA.out w1).mono ?_); rintro e w2 ⟨⟨A1, n1, c1, rfl, _, s1⟩, b2⟩; have b02 := b1.trans (b2.mono b1.size); have HS1 := Lib.hid s1; clear s1))
    go_ret
    exact ⟨by rw [R.out]; rfl, b02⟩
end Go.Proofs.YtdidnlkilleljaaGreatDoor.Lg
/- LgOpen, what a claim needs of it (prune.py). -/
namespace Go.Proofs.YtdidnlkilleljaaGreatDoor.Lg
open Go.ChangeShapes Go.WideShapes Go.Deep Go.RowKit Go.ChangeMaps
set_option linter.unusedVariables false
set_option maxRecDepth 100000
def OneAt (W : World) (a : Addr) (i : Nat) (x : Stp) (cs : List Value) : Prop :=
  cs.length = 4 ∧ (∀ j u, cs[j]? = some u → W.cell? (a.add (i * 4 + j)) = some u) ∧ RowAt W (fun _ => True) cs [x] ∧ numL [x]
theorem numL_app : ∀ {a b : List Stp}, numL a → numL b → numL (a ++ b)
  | [], b, _, h => h
  | ⟨_, _, _, c⟩ :: r, b, h, k => by
    rw [numL] at h
    rw [List.cons_append, numL]
    exact ⟨h.1, h.2.1, numL_app (a := r) h.2.2 k⟩
theorem rows_of {W : World} {a : Addr} : ∀ n : Nat, (∀ i, i < n → ∃ x cs, OneAt W a i x cs) → ∃ cells l, l.length = n ∧ cells.length = n * 4 ∧ (∀ j u, cells[j]? = some u → W.cell? (a.add j) = some u) ∧ RowAt W (fun _ => True) cells l ∧ numL l
  | 0, _ => ⟨[], [], rfl, rfl, by simp, .nil, by rw [numL]; trivial⟩
  | n + 1, h => by
    obtain ⟨cells, l, h1, h2, h3, h4, h5⟩ := rows_of n (fun i hi => h i (by omega))
    obtain ⟨x, cs, k1, k2, k3, k4⟩ := h n (by omega)
    refine ⟨cells ++ cs, l ++ [x], by simp [h1], by rw [List.length_append, h2, k1]; omega, fun j u hj => ?_, h4.append k3, numL_app h5 k4⟩
    rcases Nat.lt_or_ge j cells.length with hl | hl
    · rw [List.getElem?_append_left hl] at hj
      exact h3 j u hj
    · rw [List.getElem?_append_right hl] at hj
      have := k2 _ u hj
      rwa [show n * 4 + (j - cells.length) = j by omega] at this
theorem wf_bounds {n : Int} (h : (Lit.int .i64 n).wf = true) : -9223372036854775808 ≤ n ∧ n ≤ 9223372036854775807 := by
  simp [Lit.wf, IntKind.min, IntKind.max, IntKind.signed, IntKind.bits] at h
  omega
theorem open_stepsD {H : Type} {enc : TypeId × Value → H} {W : World} {b0 : Nat} {sp : Nat → Bool} {held : Bool} : ∀ (s : Nat) (x : DataW H) (pl : List MemPlace) (fuel : Nat) (v : Value), SizeOf.sizeOf x ≤ s → DataW.trod enc Tryz.prog W b0 sp held fuel 22 [v] = some (x, pl) →
    ∃ A n c l, v = .slice A n c ∧ n ≤ c ∧ StepsAt W (fun _ => True) A n l ∧ numL l := by
  intro s
  induction s with
  | zero =>
    intro x pl fuel v hs
    exfalso
    cases x <;> simp at hs
  | succ s ih =>
    intro x pl fuel v hs hf
    rcases open_slice_fields Tryz.underlying22 Tryz.underlying61 (by kernel_rfl) (by kernel_rfl) hf with ⟨h0, _⟩ | ⟨a, len, cap, m, D, Pl, hcs, hb, hl, hm, hmm, hx, hi⟩
    · refine ⟨none, 0, 0, [], by injection h0, Nat.le_refl _, ⟨rfl, [], Lies.none_, .nil⟩, by rw [numL]; trivial⟩
    · have hvv : v = .slice (some a) len cap := by injection hcs
      have hlm : len ≤ m := by rw [hmm]; split <;> omega
      have hxe : x = .slice ((List.range len).map D) ((List.range (m - len)).map fun j => D (len + j)) := by
        have := congrArg Prod.fst hx
        exact this
      have key : ∀ i, i < len → ∃ y cs, OneAt W a i y cs := fun i hil => by
        obtain ⟨ys, n, hD, _, hyl, hj⟩ := hi i (by omega)
        obtain ⟨v0, y0, c0, _, t0⟩ := hj 0 _ rfl
        obtain ⟨v1, y1, c1, _, t1⟩ := hj 1 _ rfl
        obtain ⟨v2, y2, c2, _, t2⟩ := hj 2 _ rfl
        obtain ⟨v3, y3, c3, e3, t3⟩ := hj 3 _ rfl
        obtain ⟨n0, e0, _, _⟩ := DataW.trod_int Tryz.underlying3 t0
        obtain ⟨n2, e2, _, z2⟩ := DataW.trod_int Tryz.underlying3 t2
        have ev0 : v0 = .int .i64 n0 := by injection e0
        have ev2 : v2 = .int .i64 n2 := by injection e2
        -- the block
        have hsz : SizeOf.sizeOf y3.1 ≤ s := by
          have h1 : y3.1 ∈ ys.map (·.1) := List.mem_map.2 ⟨y3, List.mem_of_getElem? e3, rfl⟩
          have h2 := List.sizeOf_lt_of_mem h1
          have h3 : D i ∈ (List.range len).map D := List.mem_map.2 ⟨i, List.mem_range.2 hil, rfl⟩
          have h4 := List.sizeOf_lt_of_mem h3
          rw [hD] at h4
          rw [hxe] at hs
          simp only [DataW.agg.sizeOf_spec, DataW.slice.sizeOf_spec] at h4 hs
          omega
        obtain ⟨B', kb, cb, blk, ev3, hkb, hst, hnb⟩ := ih y3.1 y3.2 n v3 hsz t3
        obtain ⟨hbl, bcells, hbs, hbr⟩ := hst
        -- the texts
        have hargs : ∃ A' ka ca args, v1 = .slice A' ka ca ∧ ka = List.length args ∧ ka ≤ ca ∧ Lies W (fun _ => True) 1 A' ka (strV args) := by
          rcases open_strings Tryz.underlying24 Tryz.underlying9 (by kernel_rfl) t1 with ⟨h1, _⟩ | ⟨a1, len1, cap1, ss, h1, _, hl1, _, hss, _, hcell, _⟩
          · exact ⟨none, 0, 0, [], by injection h1, rfl, Nat.le_refl _, Lies.none_⟩
          · have hge : len1 ≤ ss.length := by rw [hss]; split <;> omega
            have htl : (ss.take len1).length = len1 := by rw [List.length_take]; omega
            refine ⟨some a1, len1, cap1, (ss.take len1).map tl, by injection h1, by rw [List.length_map, htl], hl1, by rw [List.length_map, List.length_map, htl, Nat.mul_one], fun _ => ⟨a1, rfl, trivial, fun j u hu => ?_⟩⟩
            rw [strV, List.map_map, List.getElem?_map] at hu
            cases hj : (ss.take len1)[j]? with
            | none => rw [hj] at hu; cases hu
            | some t =>
              rw [hj] at hu
              have hjl : j < (ss.take len1).length := (List.getElem?_eq_some_iff.1 hj).1
              have h2 : ss[j]? = some t := by
                rw [List.getElem?_take] at hj
                split at hj
                · exact hj
                · cases hj
              have h3 := hcell j (by omega)
              rw [h3]
              rw [List.getD_eq_getElem?_getD, h2]
              exact hu
        obtain ⟨A', ka, ca, args, ev1, hka, hkc, hla⟩ := hargs
        subst ev0 ev1 ev2 ev3
        refine ⟨⟨n0, args, n2, blk⟩, [.int .i64 n0, .slice A' ka ca, .int .i64 n2, .slice B' kb cb], rfl, fun j u hu => ?_, RowAt.cons hka hkc hla hbl hkb hbs hbr .nil, by rw [numL]; exact ⟨wf_bounds z2, hnb, by rw [numL]; trivial⟩⟩
        rcases j with _ | _ | _ | _ | j
        · cases hu; exact c0
        · cases hu; exact c1
        · cases hu; exact c2
        · cases hu; exact c3
        · simp at hu
      obtain ⟨cells, l, h1, h2, h3, h4, h5⟩ := rows_of len key
      exact ⟨some a, len, cap, l, hvv, hl, ⟨h1.symm, cells, ⟨h2, fun _ => ⟨a, rfl, trivial, h3⟩⟩, h4⟩, h5⟩
end Go.Proofs.YtdidnlkilleljaaGreatDoor.Lg
