/- The contracts of pack.Text, and of the reference's digits and Text. -/
import Derived.Test.YtcpkhaebcmgehaaGreatDoorShelf
import Derived.Test.YtcpkhaebcmgehaaGreatDoorKt
import Derived.Test.YtcpkhaebcmgehaaGreatDoorPkSpec
import Derived.Lib.AppendIntMem
import Derived.Deep.RegionWith
namespace Go.Proofs.YtcpkhaebcmgehaaGreatDoor
open Go.RowKit
set_option linter.unusedVariables false
set_option maxRecDepth 100000

theorem ret_str {a b : ByteArray} (h : a = b) : Ending.returned (.string a) = .returned (.string b) := by rw [h]
theorem undrawn {B : Nat} {w w' : World} (h : Below B w.drew w') : Below B w w' := ⟨h.os, h.tape, h.output, h.size, h.block⟩
theorem below_behind {w w' : World} {o : Obj} (h : Below (w.alloc o).drew.heap.size (w.alloc o).drew w') : Below w.heap.size w w' :=
  (((Below.refl w.heap.size w).alloc (Nat.le_refl _) o).drew).trans (h.mono (by simp))
/-- bytes as a text -/
def bs (l : List UInt8) : ByteArray := ⟨l.toArray⟩
theorem bs_list (l : List UInt8) : (bs l).data.toList = l := rfl
theorem bs_of (s : ByteArray) : bs s.data.toList = s := rfl
theorem bs_size (l : List UInt8) : (bs l).size = l.length := by rw [Lib.size_eq]; rfl
theorem bs_append (a b : List UInt8) : bs a ++ bs b = bs (a ++ b) := by
  have : (bs a ++ bs b).data = (bs (a ++ b)).data := by rw [ByteArray.data_append]; simp [bs]
  exact congrArg ByteArray.mk this
/-- the library's table of powers lies as its text lays it -/
def Tab (w : World) : Prop := Lib.TabIs Tryz.prog w "internal/strconv.uint64pow10" .u64 Lib.pow10Tab
theorem Tab.on {w w' : World} (h : Tab w) (hb : Below w.heap.size w w') : Tab w' := Lib.tabBelow_of_tabIs h w' hb
theorem Tab.draw {w : World} (h : Tab w) : Tab w.drew := h
theorem itoa_nat (n : Nat) : Lib.itoa (n : Int) = Lib.decDigits n := by
  unfold Lib.itoa
  rw [if_neg (by omega)]
  rfl
theorem nDigits_le {n : Nat} (h : n < 10 ^ 19) : Lib.nDigits n ≤ 19 := by
  rcases Nat.lt_or_ge 19 (Lib.nDigits n) with h2 | h2
  · exfalso
    have key : ∀ k n, n < 10 ^ (k + 1) → Lib.nDigits n ≤ k + 1 := by
      intro k
      induction k with
      | zero => intro n hn; rw [Lib.nDigits_small (by simpa using hn)]; exact Nat.le_refl _
      | succ k ih =>
        intro n hn
        by_cases h10 : n < 10
        · rw [Lib.nDigits_small h10]; omega
        · rw [Lib.nDigits_big h10]
          have := ih (n / 10) (by rw [Nat.pow_succ] at hn; omega)
          omega
    have := key 18 n h
    omega
  · exact h2
theorem dec_len {n : Nat} (h : n < 10 ^ 19) : (Lib.decDigits n).length ≤ 19 := by rw [Lib.decDigits_length]; exact nDigits_le h
theorem itoa_any (n : Nat) (hn : n ≤ 9223372036854775807) (w : World) (ht : Tab w) :
    Calls Tryz.prog 74 #[.int .i64 n] w fun e w' => e = .returned (.string (bs (Lib.decDigits n))) ∧ Below w.heap.size w w' :=
  (Tryz.strconv_Itoa n (by omega) (by omega) w ht).mono fun e w' ⟨he, k, os, hw⟩ => ⟨by rw [he, itoa_nat]; rfl, by rw [hw]; exact Lib.below_grow _ _ (Nat.le_refl _) _ _⟩

theorem text_eq (s : ByteArray) : bs (Lib.decDigits s.size) ++ ⟨#[58]⟩ ++ s ++ ⟨#[44]⟩ = bs (Pk.text s.data.toList) := by
  have h1 : (⟨#[58]⟩ : ByteArray) = bs [58] := rfl
  have h2 : (⟨#[44]⟩ : ByteArray) = bs [44] := rfl
  rw [h1, h2]
  conv => lhs; rw [← bs_of s]
  rw [bs_append, bs_append, bs_append, Pk.text, bs_of, Lib.size_eq]
  simp
/-- pack.Text -/
theorem text_any (s : ByteArray) (hs : s.size ≤ 1000000000) (w : World) (ht : Tab w) :
    Calls Tryz.prog 34 #[.string s] w fun e w' => e = .returned (.string (bs (Pk.text s.data.toList))) ∧ Below w.heap.size w w' := by
  have TE := Lib.hid (text_eq s)
  have hd := dec_len (n := s.size) (by omega)
  obtain ⟨D, eD⟩ : ∃ D, D = bs (Lib.decDigits s.size) := ⟨_, rfl⟩
  have hD : D.size ≤ 19 := by rw [eD, bs_size]; exact hd
  have IT : Hid (Calls Tryz.prog 74 #[.int .i64 s.size] w fun e w' => e = .returned (.string D) ∧ Below w.heap.size w w') := Lib.hid (by rw [eD]; exact itoa_any s.size (by omega) w ht)
  rw [← eD] at TE
  clear eD hd
  have c1 : D.size + 1 ≤ 9223372036854775807 := by omega
  have c2 : D.size + 1 + s.size ≤ 9223372036854775807 := by omega
  have c3 : D.size + 1 + s.size + 1 ≤ 9223372036854775807 := by omega
  go_enter Tryz.func34, Tryz.ntmps34
  go_wp2_with (go_at_call 74; ((with_reducible refine (IT.out).mono ?_); rintro e w1 ⟨rfl, hb1⟩))
  go_ret
  exact ⟨ret_str TE.out, hb1⟩

/-- the reference's digits of a number that is not below 0 -/
theorem conv_byte (C : UInt8) (w : World) : (convert 80 9 (.slice (some ⟨w.heap.size, 0, none⟩) 1 1)).run Tryz.prog (w.alloc (.cells #[.int .u8 C.toNat] 5)) = .ok (.string (bs [C])) (w.alloc (.cells #[.int .u8 C.toNat] 5)) :=
  conv_own (B := 0) (n := 1) (l := [C]) Tryz.underlying80 Tryz.underlying5 Tryz.underlying9
    ⟨rfl, .inr ⟨w.heap.size, 1, #[.int .u8 C.toNat], rfl, Nat.zero_le _, heap_alloc_new w _, Nat.le_refl _, by unfold maxLen; decide, rfl, rfl⟩⟩
theorem conv_byte_at (C : UInt8) (w : World) (b : Nat) (h : w.heap[b]? = some (.cells #[.int .u8 C.toNat] 5 (0, 0))) : (convert 80 9 (.slice (some ⟨b, 0, none⟩) 1 1)).run Tryz.prog w = .ok (.string (bs [C])) w :=
  conv_own (B := 0) (n := 1) (l := [C]) Tryz.underlying80 Tryz.underlying5 Tryz.underlying9
    ⟨rfl, .inr ⟨b, 1, #[.int .u8 C.toNat], rfl, Nat.zero_le _, h, Nat.le_refl _, by unfold maxLen; decide, rfl, rfl⟩⟩
theorem digits_any : ∀ (n : Nat), n ≤ 9223372036854775807 → ∀ (w : World),
    Calls Tryz.prog 80 #[.int .i64 n] w fun e w' => e = .returned (.string (bs (Lib.decDigits n))) ∧ Below w.heap.size w w' := by
  intro n
  induction n using Nat.strongRecOn with
  | _ n ih =>
    intro hn w
    by_cases h : n < 10
    · have i0 : (n : Int) < 10 := by omega
      have i1 : (0 : Int) ≤ (n : Int) := by omega
      have d1 : decide ((n : Int) < 10) = true := decide_eq_true i0
      obtain ⟨C, eC⟩ : ∃ C : UInt8, C = UInt8.ofNat (48 + n) := ⟨_, rfl⟩
      have hC : (C.toNat : Int) = 48 + n := by rw [eC, UInt8.toNat_ofNat_of_lt' (by show 48 + n < 256; omega)]; omega
      have hcv := conv_byte C w
      rw [hC] at hcv
      have HD : Hid (bs [C] = bs (Lib.decDigits n)) := Lib.hid (by rw [Lib.decDigits, dif_pos h, eC])
      clear eC hC
      have d2 : decide ((0 : Int) ≤ (n : Int)) = true := decide_eq_true i1
      go_enter Tryz.func80, Tryz.ntmps80
      go_wp2_with (fail)
      go_ret
      exact ⟨ret_str HD.out, (Below.refl _ _).alloc (Nat.le_refl _) _⟩
    · have i0 : ¬ (n : Int) < 10 := by omega
      have i1 : (0 : Int) ≤ (n : Int) := by omega
      have d1 : decide ((n : Int) < 10) = false := decide_eq_false i0
      have d2 : decide ((0 : Int) ≤ (n : Int)) = true := decide_eq_true i1
      have i2 : ¬ (n : Int) < 0 := by omega
      have IH := ih (n / 10) (by omega) (by omega)
      have hd := dec_len (n := n / 10) (by omega)
      obtain ⟨D, eD⟩ : ∃ D, D = bs (Lib.decDigits (n / 10)) := ⟨_, rfl⟩
      have hD : D.size ≤ 19 := by rw [eD, bs_size]; exact hd
      rw [← eD] at IH
      have IHH := Lib.hid IH
      obtain ⟨q, eq⟩ : ∃ q, q = n / 10 := ⟨_, rfl⟩
      obtain ⟨r, er⟩ : ∃ r, r = n % 10 := ⟨_, rfl⟩
      obtain ⟨C, eC⟩ : ∃ C : UInt8, C = UInt8.ofNat (48 + r) := ⟨_, rfl⟩
      have hC : (C.toNat : Int) = 48 + r := by rw [eC, UInt8.toNat_ofNat_of_lt' (by show 48 + r < 256; omega)]; omega
      have hcv := conv_byte C
      have HD : Hid (D ++ bs [C] = bs (Lib.decDigits n)) := Lib.hid (by rw [eD, bs_append]; conv => rhs; rw [Lib.decDigits, dif_neg h, ← er, ← eC])
      have r1 : (n : Int).tdiv 10 = (q : Int) := by rw [Int.tdiv_eq_ediv_of_nonneg (by omega)]; omega
      have r1' : (n : Int) / 10 = (q : Int) := by omega
      have r2 : (n : Int).tmod 10 = (r : Int) := by rw [Int.tmod_eq_emod_of_nonneg (by omega)]; omega
      have r2' : (n : Int) % 10 = (r : Int) := by omega
      have hr : (r : Int) < 10 := by omega
      have r3 : IntKind.i64.wrap (48 + (r : Int)) = (C.toNat : Int) := by rw [IntWalk.i64_in _ (by omega)]; omega
      have r4 : IntKind.u8.wrap (C.toNat : Int) = (C.toNat : Int) := by rw [IntKind.wrap_u8']; omega
      have r5 : (48 + (r : Int)) = (C.toNat : Int) := by omega
      have hl : D.size + (bs [C]).size ≤ 9223372036854775807 := by rw [bs_size]; simp; omega
      rw [← eq] at IHH
      have w1 : IntKind.i64.wrap (q : Int) = (q : Int) := IntWalk.i64_in _ (by omega)
      have w2 : IntKind.i64.wrap (C.toNat : Int) = (C.toNat : Int) := IntWalk.i64_in _ (by omega)
      have hcw := conv_byte_at C
      have hcd : ∀ w : World, (convert 80 9 (.slice (some ⟨w.heap.size, 0, none⟩) 1 1)).run Tryz.prog (w.alloc (.cells #[.int .u8 C.toNat] 5)).drew = .ok (.string (bs [C])) (w.alloc (.cells #[.int .u8 C.toNat] 5)).drew := fun w => conv_byte_at C _ _ (heap_alloc_new w _)
      clear eC hC eD hd eq er IH ih
      go_enter Tryz.func80, Tryz.ntmps80
      go_wp2_with (fail)
      go_region_with (go_at_call 80; ((with_reducible refine (IHH.out _).mono ?_); rintro e w1 ⟨rfl, hb1⟩); try (have hbk1 := heap_below hb1 (by simp) (heap_alloc_new _ _)))
      all_goals
        go_wp2
        go_ret
        refine ⟨ret_str HD.out, ?_⟩
        first
          | exact undrawn hb1
          | exact (undrawn hb1).alloc hb1.size _
          | exact below_behind hb1

/-- the reference's Text -/
theorem reftext_any (s : ByteArray) (hs : s.size ≤ 1000000000) (w : World) :
    Calls Tryz.prog 39 #[.string s] w fun e w' => e = .returned (.string (bs (Pk.text s.data.toList))) ∧ Below w.heap.size w w' := by
  have TE := Lib.hid (text_eq s)
  have hd := dec_len (n := s.size) (by omega)
  obtain ⟨D, eD⟩ : ∃ D, D = bs (Lib.decDigits s.size) := ⟨_, rfl⟩
  have hD : D.size ≤ 19 := by rw [eD, bs_size]; exact hd
  have IT : Hid (Calls Tryz.prog 80 #[.int .i64 s.size] w fun e w' => e = .returned (.string D) ∧ Below w.heap.size w w') := Lib.hid (by rw [eD]; exact digits_any s.size (by omega) w)
  rw [← eD] at TE
  clear eD hd
  have c1 : D.size + 1 ≤ 9223372036854775807 := by omega
  have c2 : D.size + 1 + s.size ≤ 9223372036854775807 := by omega
  have c3 : D.size + 1 + s.size + 1 ≤ 9223372036854775807 := by omega
  go_enter Tryz.func39, Tryz.ntmps39
  go_wp2_with (go_at_call 80; ((with_reducible refine (IT.out).mono ?_); rintro e w1 ⟨rfl, hb1⟩))
  go_ret
  exact ⟨ret_str TE.out, hb1⟩
end Go.Proofs.YtcpkhaebcmgehaaGreatDoor
