/- The contract of the reference's digits: the digits of any number. -/
import Derived.Test.YtimfljncibbdoaaGreatDoorKb
import Derived.Test.YtimfljncibbdoaaGreatDoorLgWords
namespace Go.Proofs.YtimfljncibbdoaaGreatDoor.Lg
open Go.RowKit
set_option linter.unusedVariables false
set_option maxRecDepth 100000
theorem ret_str {a b : ByteArray} (h : a = b) : Ending.returned (.string a) = .returned (.string b) := by rw [h]
theorem undrawn {B : Nat} {w w' : World} (h : Below B w.drew w') : Below B w w' := ⟨h.os, h.tape, h.output, h.size, h.block⟩
theorem below_behind {w w' : World} {o : Obj} (h : Below (w.alloc o).drew.heap.size (w.alloc o).drew w') : Below w.heap.size w w' :=
  ((Below.refl w.heap.size w).alloc (Nat.le_refl _) o).trans ((undrawn h).mono (by show w.heap.size ≤ (w.alloc o).heap.size; simp))
theorem bs_size (l : List UInt8) : (bs l).size = l.length := by rw [Lib.size_eq]; rfl
theorem bs_append (a b : List UInt8) : bs a ++ bs b = bs (a ++ b) := by
  apply tl_inj
  simp [tl]
  rfl
theorem nDigits_le {n : Nat} (h : n < 10 ^ 19) : Lib.nDigits n ≤ 19 := by
  rcases Nat.lt_or_ge 19 (Lib.nDigits n) with h2 | h2
  · exfalso
    have key : ∀ k n, n < 10 ^ (k + 1) → Lib.nDigits n ≤ k + 1 := by
      intro k
      induction k with
      | zero => intro n hn; rw [Lib.nDigits_small (by simpa using hn)]; exact Nat.le_refl _
      | succ k ih =>
        intro n hn
        by_cases h10 : n < 10
        · rw [Lib.nDigits_small h10]; omega
        · rw [Lib.nDigits_big h10]
          have := ih (n / 10) (by rw [Nat.pow_succ] at hn; omega)
          omega
    have := key 18 n h
    omega
  · exact h2
theorem dec_len {n : Nat} (h : n < 10 ^ 19) : (Lib.decDigits n).length ≤ 19 := by rw [Lib.decDigits_length]; exact nDigits_le h
theorem conv_byte (C : UInt8) (w : World) : (convert 47 9 (.slice (some ⟨w.heap.size, 0, none⟩) 1 1)).run Tryz.prog (w.alloc (.cells #[.int .u8 C.toNat] 5)) = .ok (.string (bs [C])) (w.alloc (.cells #[.int .u8 C.toNat] 5)) :=
  conv_own (B := 0) (n := 1) (l := [C]) Tryz.underlying47 Tryz.underlying5 Tryz.underlying9
    ⟨rfl, .inr ⟨w.heap.size, 1, #[.int .u8 C.toNat], rfl, Nat.zero_le _, heap_alloc_new w _, Nat.le_refl _, by unfold maxLen; decide, rfl, rfl⟩⟩
theorem conv_byte_at (C : UInt8) (w : World) (b : Nat) (h : w.heap[b]? = some (.cells #[.int .u8 C.toNat] 5 (0, 0))) : (convert 47 9 (.slice (some ⟨b, 0, none⟩) 1 1)).run Tryz.prog w = .ok (.string (bs [C])) w :=
  conv_own (B := 0) (n := 1) (l := [C]) Tryz.underlying47 Tryz.underlying5 Tryz.underlying9
    ⟨rfl, .inr ⟨b, 1, #[.int .u8 C.toNat], rfl, Nat.zero_le _, h, Nat.le_refl _, by unfold maxLen; decide, rfl, rfl⟩⟩
theorem digits_nat : ∀ (n : Nat), n ≤ 9223372036854775807 → ∀ (w : World),
    Calls Tryz.prog 31 #[.int .i64 n] w fun e w' => e = .returned (.string (bs (Lib.decDigits n))) ∧ Below w.heap.size w w' := by
  intro n
  induction n using Nat.strongRecOn with
  | _ n ih =>
    intro hn w
    by_cases h : n < 10
    · have i0 : (n : Int) < 10 := by omega
      have i1 : (0 : Int) ≤ (n : Int) := by omega
      have i2 : ¬ (n : Int) < 0 := by omega
      have d1 : decide ((n : Int) < 10) = true := decide_eq_true i0
      obtain ⟨C, eC⟩ : ∃ C : UInt8, C = UInt8.ofNat (48 + n) := ⟨_, rfl⟩
      have hC : (C.toNat : Int) = 48 + n := by rw [eC, UInt8.toNat_ofNat_of_lt' (by show 48 + n < 256; omega)]; omega
      have hcv := conv_byte C w
      rw [hC] at hcv
      have HD : Hid (bs [C] = bs (Lib.decDigits n)) := Lib.hid (by rw [Lib.decDigits, dif_pos h, eC])
      clear eC hC
      have d2 : decide ((0 : Int) ≤ (n : Int)) = true := decide_eq_true i1
      go_enter Tryz.func31, Tryz.ntmps31
      go_wp2_with (fail)
      go_ret
      exact ⟨ret_str HD.out, (Below.refl _ _).alloc (Nat.le_refl _) _⟩
    · have i0 : ¬ (n : Int) < 10 := by omega
      have i1 : (0 : Int) ≤ (n : Int) := by omega
      have d1 : decide ((n : Int) < 10) = false := decide_eq_false i0
      have d2 : decide ((0 : Int) ≤ (n : Int)) = true := decide_eq_true i1
      have i2 : ¬ (n : Int) < 0 := by omega
      have IH := ih (n / 10) (by omega) (by omega)
      have hd := dec_len (n := n / 10) (by omega)
      obtain ⟨D, eD⟩ : ∃ D, D = bs (Lib.decDigits (n / 10)) := ⟨_, rfl⟩
      have hD : D.size ≤ 19 := by rw [eD, bs_size]; exact hd
      rw [← eD] at IH
      have IHH := Lib.hid IH
      obtain ⟨q, eq⟩ : ∃ q, q = n / 10 := ⟨_, rfl⟩
      obtain ⟨r, er⟩ : ∃ r, r = n % 10 := ⟨_, rfl⟩
      obtain ⟨C, eC⟩ : ∃ C : UInt8, C = UInt8.ofNat (48 + r) := ⟨_, rfl⟩
      have hC : (C.toNat : Int) = 48 + r := by rw [eC, UInt8.toNat_ofNat_of_lt' (by show 48 + r < 256; omega)]; omega
      have hcv := conv_byte C
      have HD : Hid (D ++ bs [C] = bs (Lib.decDigits n)) := Lib.hid (by rw [eD, bs_append]; conv => rhs; rw [Lib.decDigits, dif_neg h, ← er, ← eC])
      have r1 : (n : Int).tdiv 10 = (q : Int) := by rw [Int.tdiv_eq_ediv_of_nonneg (by omega)]; omega
      have r1' : (n : Int) / 10 = (q : Int) := by omega
      have r2 : (n : Int).tmod 10 = (r : Int) := by rw [Int.tmod_eq_emod_of_nonneg (by omega)]; omega
      have r2' : (n : Int) % 10 = (r : Int) := by omega
      have hr : (r : Int) < 10 := by omega
      have r3 : IntKind.i64.wrap (48 + (r : Int)) = (C.toNat : Int) := by rw [IntWalk.i64_in _ (by omega)]; omega
      have r4 : IntKind.u8.wrap (C.toNat : Int) = (C.toNat : Int) := by rw [IntKind.wrap_u8']; omega
      have r5 : (48 + (r : Int)) = (C.toNat : Int) := by omega
      have hl : D.size + (bs [C]).size ≤ 9223372036854775807 := by rw [bs_size]; simp; omega
      rw [← eq] at IHH
      have w1 : IntKind.i64.wrap (q : Int) = (q : Int) := IntWalk.i64_in _ (by omega)
      have w2 : IntKind.i64.wrap (C.toNat : Int) = (C.toNat : Int) := IntWalk.i64_in _ (by omega)
      have hcw := conv_byte_at C
      have hcd : ∀ w : World, (convert 47 9 (.slice (some ⟨w.heap.size, 0, none⟩) 1 1)).run Tryz.prog (w.alloc (.cells #[.int .u8 C.toNat] 5)).drew = .ok (.string (bs [C])) (w.alloc (.cells #[.int .u8 C.toNat] 5)).drew := fun w => conv_byte_at C _ _ (heap_alloc_new w _)
      clear eC hC eD hd eq er IH ih
      go_enter Tryz.func31, Tryz.ntmps31
      go_wp2_with (fail)
      go_region_with (go_at_call 31; ((with_reducible refine (IHH.out _).mono ?_); rintro e w1 ⟨rfl, hb1⟩); try (have hbk1 := heap_below hb1 (by simp) (heap_alloc_new _ _)))
      all_goals
        go_wp2
        go_ret
        refine ⟨ret_str HD.out, ?_⟩
        first
          | exact undrawn hb1
          | exact (undrawn hb1).alloc hb1.size _
          | exact below_behind hb1
/-- the digits, none of 0 -/
def dig (k : Nat) : B := if k = 0 then [] else Lib.decDigits k
theorem dig_step {k : Nat} (h : k ≠ 0) : dig k = dig (k / 10) ++ [UInt8.ofNat (48 + k % 10)] := by
  rw [dig, if_neg h, Lib.decDigits]
  by_cases h10 : k < 10
  · rw [dif_pos h10, dig, if_pos (by omega), Nat.mod_eq_of_lt h10]; rfl
  · rw [dif_neg h10, dig, if_neg (by omega)]
set_option maxHeartbeats 1000000 in
theorem digits_neg (m : Nat) (hm : 0 < m) (hm2 : m ≤ 9223372036854775808) (w : World) :
    Calls Tryz.prog 31 #[.int .i64 (-(m : Int))] w fun e w' => e = .returned (.string (bs (45 :: Lib.decDigits m))) ∧ Below w.heap.size w w' := by
  have hlen : (Lib.decDigits m).length ≤ 19 := dec_len (by omega)
  have hdm : dig m = Lib.decDigits m := by rw [dig, if_neg (by omega)]
  have HLEN := Lib.hid hlen
  have i0 : -(m : Int) < 0 := by omega
  have i1 : ¬ (0 : Int) ≤ -(m : Int) := by omega
  clear hlen
  go_enter Tryz.func31, Tryz.ntmps31
  go_wp2_with (fail)
  go_loopw [0, 3] (fun x s wr => ∃ (k : Nat) (D : B), x = .int .i64 (-(k : Int)) ∧ s = .string (bs D) ∧ dig k ++ D = Lib.decDigits m ∧ k ≤ m ∧ Below w.heap.size w wr) (fun x _ _ => (intOf x).natAbs)
  case atStart => exact ⟨m, [], rfl, rfl, by rw [hdm, List.append_nil], Nat.le_refl _, Below.refl _ _⟩
  case round =>
    obtain ⟨k, D, rfl, rfl, hD, hk, hb⟩ := hrel
    rename World => wr
    by_cases h0 : k = 0
    · subst h0
      have R : Hid (D = Lib.decDigits m) := Lib.hid (by simpa [dig] using hD)
      have hl : (⟨#[45]⟩ : ByteArray).size + (bs D).size ≤ 9223372036854775807 := by
        have := HLEN.out
        rw [R.out, bs_size]; show 1 + _ ≤ _; omega
      clear hD hdm
      go_wp2_with (fail)
      go_ret
      refine ⟨ret_str ?_, hb⟩
      rw [R.out]
      exact bs_append [45] _
    · have hD2 := hD
      rw [dig_step h0, List.append_assoc] at hD2
      obtain ⟨q, eq⟩ : ∃ q, q = k / 10 := ⟨_, rfl⟩
      obtain ⟨r, er⟩ : ∃ r, r = k % 10 := ⟨_, rfl⟩
      obtain ⟨C, eC⟩ : ∃ C : UInt8, C = UInt8.ofNat (48 + r) := ⟨_, rfl⟩
      have hC : (C.toNat : Int) = 48 + r := by rw [eC, UInt8.toNat_ofNat_of_lt' (by show 48 + r < 256; omega)]; omega
      have hcv := conv_byte C wr
      have HD : Hid (dig q ++ ([C] ++ D) = Lib.decDigits m) := Lib.hid (by rw [← hD2, eq, eC, er])
      have HE : Hid (bs [C] ++ bs D = bs ([C] ++ D)) := Lib.hid (bs_append _ _)
      have r1 : (-(k : Int)).tdiv 10 = -(q : Int) := by rw [Int.neg_tdiv, Int.tdiv_eq_ediv_of_nonneg (by omega)]; omega
      have r2 : (-(k : Int)).tmod 10 = -(r : Int) := by rw [Int.neg_tmod, Int.tmod_eq_emod_of_nonneg (by omega)]; omega
      have hr : (r : Int) < 10 := by omega
      have r5 : (48 + (r : Int)) = (C.toNat : Int) := by omega
      have r6 : (48 - -(r : Int)) = (C.toNat : Int) := by omega
      have r3 : IntKind.i64.wrap (48 - -(r : Int)) = (C.toNat : Int) := by rw [IntWalk.i64_in _ (by omega)]; omega
      have r4 : IntKind.u8.wrap (C.toNat : Int) = (C.toNat : Int) := by rw [IntKind.wrap_u8']; omega
      have w1 : IntKind.i64.wrap (-(q : Int)) = -(q : Int) := IntWalk.i64_in _ (by omega)
      have w2 : IntKind.i64.wrap (C.toNat : Int) = (C.toNat : Int) := IntWalk.i64_in _ (by omega)
      have w3 : IntKind.i64.wrap (-(r : Int)) = -(r : Int) := IntWalk.i64_in _ (by omega)
      have hne : ¬ (-(k : Int)) = 0 := by omega
      have hne2 : ((-(k : Int)) != 0) = true := by simp; omega
      have hDl : D.length ≤ 19 := by
        have := congrArg List.length hD
        have := HLEN.out
        simp at *
        omega
      have hl : (bs [C]).size + (bs D).size ≤ 9223372036854775807 := by rw [bs_size, bs_size]; simp; omega
      have hql : q < k := by omega
      clear eC hC eq er hD hD2 hdm hDl
      go_wp2_with (fail)
      go_roundw
      case rel => exact ⟨q, [C] ++ D, by go_num, congrArg Value.string HE.out, HD.out, by omega, hb.alloc hb.size _⟩
      case measure => simp [intOf]; omega
theorem digits_any (n : Int) (h1 : -9223372036854775808 ≤ n) (h2 : n ≤ 9223372036854775807) (w : World) :
    Calls Tryz.prog 31 #[.int .i64 n] w fun e w' => e = .returned (.string (bs (Lib.itoa n))) ∧ Below w.heap.size w w' := by
  by_cases h : n < 0
  · obtain ⟨m, rfl⟩ : ∃ m : Nat, n = -(m : Int) := ⟨n.natAbs, by omega⟩
    rw [Lib.itoa, if_pos h, Int.natAbs_neg, Int.natAbs_natCast]
    exact digits_neg m (by omega) (by omega) w
  · obtain ⟨m, rfl⟩ : ∃ m : Nat, n = (m : Int) := ⟨n.toNat, by omega⟩
    rw [Lib.itoa, if_neg h, Int.toNat_natCast]
    exact digits_nat m (by omega) w
end Go.Proofs.YtimfljncibbdoaaGreatDoor.Lg
