/- The walk of the law of Print and Parse, there and back. -/
import Derived.Test.YtimfljncibbdoaaDoorLgRight
namespace Go.Proofs.YtimfljncibbdoaaDoor.Lg
open Go.RowKit
set_option linter.unusedVariables false
set_option maxRecDepth 100000
theorem wide_small : ∀ {l : List Stp}, smallL l → wide l ≤ 20 * weight l
  | [], _ => by simp [wide]
  | ⟨o, a, n, b⟩ :: r, h => by
    rw [smallL_cons] at h
    have h1 := wide_small (l := b) h.2.1
    have h2 := wide_small (l := r) h.2.2
    have h3 := h.1.1
    rw [wide, weight]
    omega
set_option maxHeartbeats 4000000 in
theorem langback_walk (l : List Stp) (A : Option Addr) (n cp : Nat) (cmd : ByteArray) (w : World) (ok : Nat → Prop) (hr : StepsAt w ok A n l) (hn : numL l) (hE : Env w) :
    Calls Tryd.prog 6 #[.slice A n cp, .string cmd] w fun e w' => e = .returned (.bool true) ∧ Below w.heap.size w w' := by
  have AW := Lib.hid awake_any
  have EV := Lib.hid (fun W (h : Below w.heap.size w W) => hE.below h)
  have SR := Lib.hid (fun W (h : Below w.heap.size w W) => hr.below h)
  have SM := Lib.hid (smallTop_any l A n cp w ok hr)
  have PLN : Hid (weight l ≤ 300 ∧ smallL l → (print l).length ≤ 4000000) := Lib.hid (fun h => by have := print_small h.2 hn; omega)
  have WDT : Hid (weight l ≤ 300 ∧ smallL l → weight l ≤ 1000000 ∧ wide l ≤ 1000000) := Lib.hid (fun h => by have := wide_small h.2; omega)
  have RT := Lib.hid (fun W (h : Below w.heap.size w W) (hs : weight l ≤ 300 ∧ smallL l) => lright_any l A n cp W ok (SR.out W h) hn (PLN.out hs) (EV.out W h))
  have PR := Lib.hid (fun W (h : Below w.heap.size w W) (hs : weight l ≤ 300 ∧ smallL l) => print_any _ l (Nat.le_refl _) hn (PLN.out hs) A n cp W ok (EV.out W h) (SR.out W h))
  have SE := Lib.hid (fun (hs : weight l ≤ 300 ∧ smallL l) (F : Option Addr) (m d : Nat) (W : World) (ok' : Nat → Prop) (h : Below w.heap.size w W) (hq : StepsAt W ok' F m l) => sameE l (WDT.out hs).1 (WDT.out hs).2 A F n m cp d W ok ok' (SR.out W h) hq)
  rcases pc : parse (tl cmd) with ⟨m, k⟩
  have PC := Lib.hid (fun W hE' => parse_all (cmd := cmd) (w := W) pc hE')
  have hnm := parse_num pc
  clear hE hr
  obtain ⟨r, er⟩ : ∃ r, r = rightE l := ⟨_, rfl⟩
  rw [← er] at RT
  by_cases hz : r = 0
  · subst hz
    have PL := Lib.hid (fun W hE' => parse_all (cmd := bs (print l)) (w := W) (right_ok er.symm) hE')
    clear er
    by_cases hbig : 20000 < cmd.size
    · have hI : (20000 : Int) < (cmd.size : Int) := by omega
      clear pc hnm PC hbig
      go_enter Tryd.func6, Tryd.ntmps6
      go_wp2_with (first
        | (go_at_call 11; (with_reducible refine (SM.out).mono ?_); rintro e w1 ⟨bv, rfl, b1, hs⟩; have HS := Lib.hid hs; clear hs; rcases bv with _ | _)
        | (go_at_call 14; (with_reducible refine (RT.out w1 b1 (HS.out (by simp))).mono ?_); rintro e w2 ⟨rfl, c2⟩; have b2 := b1.trans (c2.mono b1.size))
        | (go_at_call 12; (with_reducible refine (PR.out w2 b2 (HS.out (by simp))).mono ?_); rintro e w3 ⟨rfl, c3⟩; have b3 := b2.trans (c3.mono b2.size))
        | (go_at_call 8; (with_reducible refine (PL.out w3 (EV.out _ b3)).mono ?_); rintro e w4 ⟨⟨A4, n4, c4, rfl, _, s4⟩, d4⟩; have b4 := b3.trans (d4.mono b3.size); have HS4 := Lib.hid s4; clear s4)
        | (go_at_call 10; (with_reducible refine (SE.out (HS.out (by simp)) _ _ _ w4 _ b4 HS4.out).mono ?_); rintro e w5 ⟨rfl, c5⟩; have b5 := b4.trans (c5.mono b4.size))
        | (go_at_call 7; first | ((with_reducible refine (AW.out _ (EV.out _ b5)).mono ?_); rintro e w9 ⟨rfl, c9⟩; have bz := b5.trans (c9.mono b5.size)) | ((with_reducible refine (AW.out _ (EV.out _ b1)).mono ?_); rintro e w9 ⟨rfl, c9⟩; have bz := b1.trans (c9.mono b1.size))))
      all_goals
        go_ret
        exact ⟨rfl, bz⟩
    have hI : ¬ (20000 : Int) < (cmd.size : Int) := by omega
    by_cases hk : k = 0
    · subst hk
      have hpp := parse_print pc
      have hpl : (print m).length ≤ 20000 := by rw [hpp, tl_len]; omega
      have PRm : Hid (∀ A6 n6 c6 W ok6, Below w.heap.size w W → StepsAt W ok6 A6 n6 m → Calls Tryd.prog 12 #[.slice A6 n6 c6] W fun e w' => e = .returned (.string cmd) ∧ Below W.heap.size W w') := Lib.hid (fun A6 n6 c6 W ok6 h h6 => by
        have h7 := print_any _ m (Nat.le_refl _) hnm (by omega) A6 n6 c6 W ok6 (EV.out W h) h6
        rw [hpp] at h7
        exact h7)
      have RTm : Hid (∀ A6 n6 c6 W ok6, Below w.heap.size w W → StepsAt W ok6 A6 n6 m → Calls Tryd.prog 14 #[.slice A6 n6 c6] W fun e w' => e = .returned (.int .i64 0) ∧ Below W.heap.size W w') := Lib.hid (fun A6 n6 c6 W ok6 h h6 => by
        have h7 := lright_any m A6 n6 c6 W ok6 h6 hnm (by omega) (EV.out W h)
        rw [right_parse pc] at h7
        exact h7)
      clear pc hnm hpp hpl hbig
      go_enter Tryd.func6, Tryd.ntmps6
      go_wp2_with (first
        | (go_at_call 11; (with_reducible refine (SM.out).mono ?_); rintro e w1 ⟨bv, rfl, b1, hs⟩; have HS := Lib.hid hs; clear hs; rcases bv with _ | _)
        | (go_at_call 14; (with_reducible refine (RT.out w1 b1 (HS.out (by simp))).mono ?_); rintro e w2 ⟨rfl, c2⟩; have b2 := b1.trans (c2.mono b1.size))
        | (go_at_call 12; (with_reducible refine (PR.out w2 b2 (HS.out (by simp))).mono ?_); rintro e w3 ⟨rfl, c3⟩; have b3 := b2.trans (c3.mono b2.size))
        | (go_at_call 8; (with_reducible refine (PL.out w3 (EV.out _ b3)).mono ?_); rintro e w4 ⟨⟨A4, n4, c4, rfl, _, s4⟩, d4⟩; have b4 := b3.trans (d4.mono b3.size); have HS4 := Lib.hid s4; clear s4)
        | (go_at_call 10; (with_reducible refine (SE.out (HS.out (by simp)) _ _ _ w4 _ b4 HS4.out).mono ?_); rintro e w5 ⟨rfl, c5⟩; have b5 := b4.trans (c5.mono b4.size))
        | (go_at_call 8; first | ((with_reducible refine (PC.out _ (EV.out _ b5)).mono ?_); rintro e w6 ⟨⟨A6, n6, c6, rfl, _, s6⟩, d6⟩; have b6 := b5.trans (d6.mono b5.size); have HS6 := Lib.hid s6; clear s6) | ((with_reducible refine (PC.out _ (EV.out _ b1)).mono ?_); rintro e w6 ⟨⟨A6, n6, c6, rfl, _, s6⟩, d6⟩; have b6 := b1.trans (d6.mono b1.size); have HS6 := Lib.hid s6; clear s6))
        | (go_at_call 12; (with_reducible refine (PRm.out _ _ _ w6 _ b6 HS6.out).mono ?_); rintro e w7 ⟨rfl, c7⟩; have b7 := b6.trans (c7.mono b6.size); have HS7 := Lib.hid (HS6.out.below c7))
        | (go_at_call 14; (with_reducible refine (RTm.out _ _ _ w7 _ b7 HS7.out).mono ?_); rintro e w8 ⟨rfl, c8⟩; have b8 := b7.trans (c8.mono b7.size))
        | (go_at_call 7; (with_reducible refine (AW.out _ (EV.out _ b8)).mono ?_); rintro e w9 ⟨rfl, c9⟩; have bz := b8.trans (c9.mono b8.size)))
      all_goals
        go_ret
        exact ⟨rfl, bz⟩
    · have g1 : ((k : Int) == 0) = false := by simp [hk]
      obtain rfl : m = [] := by
        have := parse_no (cmd := tl cmd) (by rw [pc]; exact hk)
        rw [pc] at this
        exact this
      clear pc hnm hk hbig
      go_enter Tryd.func6, Tryd.ntmps6
      go_wp2_with (first
        | (go_at_call 11; (with_reducible refine (SM.out).mono ?_); rintro e w1 ⟨bv, rfl, b1, hs⟩; have HS := Lib.hid hs; clear hs; rcases bv with _ | _)
        | (go_at_call 14; (with_reducible refine (RT.out w1 b1 (HS.out (by simp))).mono ?_); rintro e w2 ⟨rfl, c2⟩; have b2 := b1.trans (c2.mono b1.size))
        | (go_at_call 12; (with_reducible refine (PR.out w2 b2 (HS.out (by simp))).mono ?_); rintro e w3 ⟨rfl, c3⟩; have b3 := b2.trans (c3.mono b2.size))
        | (go_at_call 8; (with_reducible refine (PL.out w3 (EV.out _ b3)).mono ?_); rintro e w4 ⟨⟨A4, n4, c4, rfl, _, s4⟩, d4⟩; have b4 := b3.trans (d4.mono b3.size); have HS4 := Lib.hid s4; clear s4)
        | (go_at_call 10; (with_reducible refine (SE.out (HS.out (by simp)) _ _ _ w4 _ b4 HS4.out).mono ?_); rintro e w5 ⟨rfl, c5⟩; have b5 := b4.trans (c5.mono b4.size))
        | (go_at_call 8; first | ((with_reducible refine (PC.out _ (EV.out _ b5)).mono ?_); rintro e w6 ⟨⟨A6, n6, c6, rfl, _, s6⟩, d6⟩; obtain rfl : n6 = 0 := s6.1; have b6 := b5.trans (d6.mono b5.size); have HS6 := Lib.hid s6; clear s6) | ((with_reducible refine (PC.out _ (EV.out _ b1)).mono ?_); rintro e w6 ⟨⟨A6, n6, c6, rfl, _, s6⟩, d6⟩; obtain rfl : n6 = 0 := s6.1; have b6 := b1.trans (d6.mono b1.size); have HS6 := Lib.hid s6; clear s6))
        | (go_at_call 7; (with_reducible refine (AW.out _ (EV.out _ b6)).mono ?_); rintro e w9 ⟨rfl, c9⟩; have bz := b6.trans (c9.mono b6.size)))
      all_goals
        go_ret
        exact ⟨rfl, bz⟩
  · have g0 : ((r : Int) == 0) = false := by simp [hz]
    clear er hz
    by_cases hbig : 20000 < cmd.size
    · have hI : (20000 : Int) < (cmd.size : Int) := by omega
      clear pc hnm PC hbig
      go_enter Tryd.func6, Tryd.ntmps6
      go_wp2_with (first
        | (go_at_call 11; (with_reducible refine (SM.out).mono ?_); rintro e w1 ⟨bv, rfl, b1, hs⟩; have HS := Lib.hid hs; clear hs; rcases bv with _ | _)
        | (go_at_call 14; (with_reducible refine (RT.out w1 b1 (HS.out (by simp))).mono ?_); rintro e w2 ⟨rfl, c2⟩; have b2 := b1.trans (c2.mono b1.size))
        | (go_at_call 7; first | ((with_reducible refine (AW.out _ (EV.out _ b2)).mono ?_); rintro e w9 ⟨rfl, c9⟩; have bz := b2.trans (c9.mono b2.size)) | ((with_reducible refine (AW.out _ (EV.out _ b1)).mono ?_); rintro e w9 ⟨rfl, c9⟩; have bz := b1.trans (c9.mono b1.size))))
      all_goals
        go_ret
        exact ⟨rfl, bz⟩
    have hI : ¬ (20000 : Int) < (cmd.size : Int) := by omega
    by_cases hk : k = 0
    · subst hk
      have hpp := parse_print pc
      have hpl : (print m).length ≤ 20000 := by rw [hpp, tl_len]; omega
      have PRm : Hid (∀ A6 n6 c6 W ok6, Below w.heap.size w W → StepsAt W ok6 A6 n6 m → Calls Tryd.prog 12 #[.slice A6 n6 c6] W fun e w' => e = .returned (.string cmd) ∧ Below W.heap.size W w') := Lib.hid (fun A6 n6 c6 W ok6 h h6 => by
        have h7 := print_any _ m (Nat.le_refl _) hnm (by omega) A6 n6 c6 W ok6 (EV.out W h) h6
        rw [hpp] at h7
        exact h7)
      have RTm : Hid (∀ A6 n6 c6 W ok6, Below w.heap.size w W → StepsAt W ok6 A6 n6 m → Calls Tryd.prog 14 #[.slice A6 n6 c6] W fun e w' => e = .returned (.int .i64 0) ∧ Below W.heap.size W w') := Lib.hid (fun A6 n6 c6 W ok6 h h6 => by
        have h7 := lright_any m A6 n6 c6 W ok6 h6 hnm (by omega) (EV.out W h)
        rw [right_parse pc] at h7
        exact h7)
      clear pc hnm hpp hpl hbig
      go_enter Tryd.func6, Tryd.ntmps6
      go_wp2_with (first
        | (go_at_call 11; (with_reducible refine (SM.out).mono ?_); rintro e w1 ⟨bv, rfl, b1, hs⟩; have HS := Lib.hid hs; clear hs; rcases bv with _ | _)
        | (go_at_call 14; (with_reducible refine (RT.out w1 b1 (HS.out (by simp))).mono ?_); rintro e w2 ⟨rfl, c2⟩; have b2 := b1.trans (c2.mono b1.size))
        | (go_at_call 8; first | ((with_reducible refine (PC.out _ (EV.out _ b2)).mono ?_); rintro e w6 ⟨⟨A6, n6, c6, rfl, _, s6⟩, d6⟩; have b6 := b2.trans (d6.mono b2.size); have HS6 := Lib.hid s6; clear s6) | ((with_reducible refine (PC.out _ (EV.out _ b1)).mono ?_); rintro e w6 ⟨⟨A6, n6, c6, rfl, _, s6⟩, d6⟩; have b6 := b1.trans (d6.mono b1.size); have HS6 := Lib.hid s6; clear s6))
        | (go_at_call 12; (with_reducible refine (PRm.out _ _ _ w6 _ b6 HS6.out).mono ?_); rintro e w7 ⟨rfl, c7⟩; have b7 := b6.trans (c7.mono b6.size); have HS7 := Lib.hid (HS6.out.below c7))
        | (go_at_call 14; (with_reducible refine (RTm.out _ _ _ w7 _ b7 HS7.out).mono ?_); rintro e w8 ⟨rfl, c8⟩; have b8 := b7.trans (c8.mono b7.size))
        | (go_at_call 7; (with_reducible refine (AW.out _ (EV.out _ b8)).mono ?_); rintro e w9 ⟨rfl, c9⟩; have bz := b8.trans (c9.mono b8.size)))
      all_goals
        go_ret
        exact ⟨rfl, bz⟩
    · have g1 : ((k : Int) == 0) = false := by simp [hk]
      obtain rfl : m = [] := by
        have := parse_no (cmd := tl cmd) (by rw [pc]; exact hk)
        rw [pc] at this
        exact this
      clear pc hnm hk hbig
      go_enter Tryd.func6, Tryd.ntmps6
      go_wp2_with (first
        | (go_at_call 11; (with_reducible refine (SM.out).mono ?_); rintro e w1 ⟨bv, rfl, b1, hs⟩; have HS := Lib.hid hs; clear hs; rcases bv with _ | _)
        | (go_at_call 14; (with_reducible refine (RT.out w1 b1 (HS.out (by simp))).mono ?_); rintro e w2 ⟨rfl, c2⟩; have b2 := b1.trans (c2.mono b1.size))
        | (go_at_call 8; first | ((with_reducible refine (PC.out _ (EV.out _ b2)).mono ?_); rintro e w6 ⟨⟨A6, n6, c6, rfl, _, s6⟩, d6⟩; obtain rfl : n6 = 0 := s6.1; have b6 := b2.trans (d6.mono b2.size); have HS6 := Lib.hid s6; clear s6) | ((with_reducible refine (PC.out _ (EV.out _ b1)).mono ?_); rintro e w6 ⟨⟨A6, n6, c6, rfl, _, s6⟩, d6⟩; obtain rfl : n6 = 0 := s6.1; have b6 := b1.trans (d6.mono b1.size); have HS6 := Lib.hid s6; clear s6))
        | (go_at_call 7; (with_reducible refine (AW.out _ (EV.out _ b6)).mono ?_); rintro e w9 ⟨rfl, c9⟩; have bz := b6.trans (c9.mono b6.size)))
      all_goals
        go_ret
        exact ⟨rfl, bz⟩
theorem langback_law (A : Option Addr) (n cp : Nat) (l : List Stp) {w : World} (hr : StepsAt w (fun _ => True) A n l) (hn : numL l) {p : Prop} (cmd : ByteArray) (_ : p) (W : World) (hE : Env w) : Calls Tryd.prog 6 #[.slice A n cp, .string cmd] w fun e w' => e = .returned (.bool true) ∧ Below w.heap.size w w' := langback_walk l A n cp cmd w _ hr hn hE
end Go.Proofs.YtimfljncibbdoaaDoor.Lg
