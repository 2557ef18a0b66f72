/- The contracts of pack.Num and of the reference's Num: numbers below 0 too. -/
import Derived.Test.YtcpkhaebcmgehaaGreatDoorPkList
import Derived.IntWalk
namespace Go.Proofs.YtcpkhaebcmgehaaGreatDoor
open Go.RowKit
set_option linter.unusedVariables false
set_option maxRecDepth 100000
theorem itoa_len (n : Int) (h0 : -9223372036854775808 ≤ n) (h1 : n ≤ 9223372036854775807) : (Lib.itoa n).length ≤ 20 := by
  unfold Lib.itoa
  split
  · have := dec_len (n := n.natAbs) (by omega)
    simp only [List.length_cons]
    first | omega | (simp at this ⊢; omega)
  · have := dec_len (n := n.toNat) (by omega)
    first | omega | (simp at this ⊢; omega)
theorem itoa_int (n : Int) (h0 : -9223372036854775808 ≤ n) (h1 : n ≤ 9223372036854775807) (w : World) (ht : Tab w) :
    Calls Tryz.prog 74 #[.int .i64 n] w fun e w' => e = .returned (.string (bs (Lib.itoa n))) ∧ Below w.heap.size w w' := by
  refine (Tryz.strconv_Itoa n h0 h1 w ht).mono ?_
  rintro e w' ⟨h2, k, os, rfl⟩
  exact ⟨h2, Lib.below_grow _ _ (Nat.le_refl _) _ _⟩
/-- pack.Num -/
theorem pnum_any (n : Int) (h0 : -9223372036854775808 ≤ n) (h1 : n ≤ 9223372036854775807) (w : World) (ht : Tab w) :
    Calls Tryz.prog 37 #[.int .i64 n] w fun e w' => e = .returned (.string (bs (Pk.text (Lib.itoa n)))) ∧ Below w.heap.size w w' := by
  have hl := itoa_len n h0 h1
  have IT := Lib.hid (itoa_int n h0 h1 w ht)
  have TX : Hid (∀ W, Below w.heap.size w W → Calls Tryz.prog 34 #[.string (bs (Lib.itoa n))] W fun e w' => e = .returned (.string (bs (Pk.text (Lib.itoa n)))) ∧ Below W.heap.size W w') := Lib.hid fun W hW => text_any (bs (Lib.itoa n)) (by rw [bs_size]; omega) W (ht.on hW)
  clear hl
  generalize Pk.text (Lib.itoa n) = t at *
  generalize Lib.itoa n = s at *
  go_enter Tryz.func37, Tryz.ntmps37
  go_wp2_with (first
    | (go_at_call 74; (with_reducible refine (IT.out).mono ?_); rintro e w1 ⟨rfl, hb1⟩)
    | (go_at_call 34; (with_reducible refine (TX.out _ hb1).mono ?_); rintro e w2 ⟨rfl, hb2⟩))
  go_ret
  exact ⟨rfl, hb1.trans (hb2.mono hb1.size)⟩
theorem dec_small {q : Nat} (h : q < 10) : Lib.decDigits q = [UInt8.ofNat (48 + q)] := by rw [Lib.decDigits, dif_pos h]
theorem dec_more {q : Nat} (h : ¬ q < 10) : Lib.decDigits q = Lib.decDigits (q / 10) ++ [UInt8.ofNat (48 + q % 10)] := by conv => lhs; rw [Lib.decDigits, dif_neg h]
set_option maxHeartbeats 1000000 in
theorem digits_neg (m : Nat) (hm : 0 < m) (hb : m ≤ 9223372036854775808) (w : World) :
    Calls Tryz.prog 80 #[.int .i64 (-(m : Int))] w fun e w' => e = .returned (.string (bs (45 :: Lib.decDigits m))) ∧ Below w.heap.size w w' := by
  have i1 : ¬ (0 : Int) ≤ -(m : Int) := by omega
  have i2 : -(m : Int) < 0 := by omega
  have d1 : decide ((0 : Int) ≤ -(m : Int)) = false := decide_eq_false i1
  have d2 : decide (-(m : Int) < 0) = true := decide_eq_true i2
  have HL := dec_len (n := m) (by omega)
  go_enter Tryz.func80, Tryz.ntmps80
  go_wp2_with (fail)
  go_loopw [0, 3] (fun v s wx => ∃ (q : Nat) (M : Int) (S : List UInt8), v = .int .i64 M ∧ M = -(q : Int) ∧ s = .string (bs S) ∧ q ≤ m ∧ ((q = 0 ∧ S = Lib.decDigits m) ∨ (0 < q ∧ Lib.decDigits q ++ S = Lib.decDigits m)) ∧ Below w.heap.size w wx) (fun v _ _ => (intOf v).natAbs)
  case atStart => exact ⟨m, _, [], rfl, rfl, rfl, Nat.le_refl _, .inr ⟨hm, by simp⟩, Below.refl _ _⟩
  case round =>
    obtain ⟨q, M, S, rfl, hM, rfl, hq, hS, hbx⟩ := hrel
    rename World => wx
    rcases hS with ⟨rfl, rfl⟩ | ⟨h0, hS⟩
    · obtain rfl : M = 0 := by omega
      have TE : Hid (bs [45] ++ bs (Lib.decDigits m) = bs (45 :: Lib.decDigits m)) := Lib.hid (bs_append _ _)
      have hz : (⟨#[45]⟩ : ByteArray).size + (bs (Lib.decDigits m)).size ≤ 9223372036854775807 := by rw [bs_size]; show 1 + _ ≤ _; omega
      have HX := Lib.hid hbx
      clear HL hM hq i1 i2 d1 d2
      go_wp2_with (fail)
      go_ret
      exact ⟨ret_str TE.out, HX.out⟩
    · obtain ⟨r, er⟩ : ∃ r, r = q % 10 := ⟨_, rfl⟩
      obtain ⟨q', eq⟩ : ∃ q', q' = q / 10 := ⟨_, rfl⟩
      obtain ⟨C, eC⟩ : ∃ C : UInt8, C = UInt8.ofNat (48 + r) := ⟨_, rfl⟩
      have hC : (C.toNat : Int) = 48 + r := by rw [eC, UInt8.toNat_ofNat_of_lt' (by show 48 + r < 256; omega)]; omega
      have NX : Hid ((q' = 0 ∧ C :: S = Lib.decDigits m) ∨ (0 < q' ∧ Lib.decDigits q' ++ (C :: S) = Lib.decDigits m)) := Lib.hid (by
        by_cases h10 : q < 10
        · refine .inl ⟨by omega, ?_⟩
          rw [← hS, dec_small h10, eC, er, Nat.mod_eq_of_lt h10]; rfl
        · refine .inr ⟨by omega, ?_⟩
          rw [← hS, dec_more h10, ← eq, ← er, ← eC]; simp)
      have hSl : S.length ≤ 19 := by have := congrArg List.length hS; rw [List.length_append] at this; omega
      have r0 : M ≠ 0 := by omega
      have g0 : (M == 0) = false := beq_eq_false_iff_ne.2 r0
      obtain ⟨T, eT⟩ : ∃ T, T = M.tmod 10 := ⟨_, rfl⟩
      obtain ⟨V, eV⟩ : ∃ V, V = M.tdiv 10 := ⟨_, rfl⟩
      obtain ⟨E, eE⟩ : ∃ E, E = 48 - T := ⟨_, rfl⟩
      have r1 : V = -(q' : Int) := by rw [eV, hM, Int.neg_tdiv, Int.tdiv_eq_ediv_of_nonneg (by omega)]; omega
      have r2 : T = -(r : Int) := by rw [eT, hM, Int.neg_tmod, Int.tmod_eq_emod_of_nonneg (by omega)]; omega
      have r3 : E = (C.toNat : Int) := by omega
      have p1 : M.tmod 10 = T := eT.symm
      have p2 : M.tdiv 10 = V := eV.symm
      have p3 : 48 - T = E := eE.symm
      have p4 : wrap64 E = E := IntWalk.wrap64_in _ (by omega)
      have p5 : E % 256 = E := by omega
      have p6 : wrap64 V = V := IntWalk.wrap64_in _ (by omega)
      have p7 : IntKind.i64.wrap V = V := IntWalk.i64_in _ (by omega)
      have p8 : IntKind.i64.wrap E = E := IntWalk.i64_in _ (by omega)
      have p9 : IntKind.u8.wrap E = E := by rw [IntKind.wrap_u8']; exact p5
      have hcv := conv_byte C
      rw [← r3] at hcv
      have CE : Hid (bs [C] ++ bs S = bs (C :: S)) := Lib.hid (bs_append _ _)
      have hz : (bs [C]).size + (bs S).size ≤ 9223372036854775807 := by rw [bs_size, bs_size]; simp; omega
      have HX := Lib.hid hbx
      have MQ : Hid ((q' ≤ m) ∧ V = -(q' : Int) ∧ V.natAbs < M.natAbs) := Lib.hid (by omega)
      clear HL hM hq i1 i2 d1 d2 hS eC eq er h0 hC hSl hbx eT eV eE r1 r2 r3 r0
      go_wp2_with (fail)
      go_roundw
      case rel => exact ⟨q', _, C :: S, rfl, MQ.out.2.1, by rw [← CE.out], MQ.out.1, NX.out, HX.out.alloc HX.out.size _⟩
      case measure => exact MQ.out.2.2
end Go.Proofs.YtcpkhaebcmgehaaGreatDoor
