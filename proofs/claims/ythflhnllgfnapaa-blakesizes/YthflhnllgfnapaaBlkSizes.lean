/- The walk of BlakeSizes. -/
import Derived.Test.YthflhnllgfnapaaBlkLaw
namespace Go.Proofs.Ythflhnllgfnapaa
open Go.RowKit Blk
set_option linter.unusedVariables false
namespace Blk
theorem twoW_inj {x y : UInt8} (h1 : hiW x = hiW y) (h2 : loW x = loW y) : x = y := by
  have a := congrArg UInt8.toNat h1
  have b := congrArg UInt8.toNat h2
  rw [hiW_nat, hiW_nat] at a
  rw [loW_nat, loW_nat] at b
  exact UInt8.toNat_inj.1 (by omega)
theorem wordsOf_inj : ∀ {a b : List UInt8}, wordsOf a = wordsOf b → a = b
  | [], [], _ => rfl
  | [], y :: b, h => by simp [wordsOf, twoW] at h
  | x :: a, [], h => by simp [wordsOf, twoW] at h
  | x :: a, y :: b, h => by
    have h' : hiW x :: loW x :: wordsOf a = hiW y :: loW y :: wordsOf b := h
    simp only [List.cons.injEq] at h'
    rw [twoW_inj h'.1 h'.2.1, wordsOf_inj h'.2.2]
end Blk
theorem words_X (s : ByteArray) (hs : s.size ≤ 1000000) (w : World) : Calls Try.prog 10 #[.string s] w fun e w' => e = .returned (.string ⟨(wordsOf s.data.toList).toArray⟩) ∧ Below w.heap.size w w' := words_any s hs w

theorem sizes_big (a b : ByteArray) (h : 100000 < a.size ∨ 100000 < b.size) (ha : a.size ≤ maxLen) (hb : b.size ≤ maxLen) (w : World) :
    Calls Try.prog 5 #[.string a, .string b] w fun e w' => e = .returned (.bool true) ∧ Below w.heap.size w w' := by
  unfold maxLen at ha hb
  by_cases h1 : 100000 < a.size
  · have i1 : (100000 : Int) < (a.size : Int) := by omega
    clear h
    go_enter Try.func5, Try.ntmps5
    go_wp2_with (go_at_call 9; ((with_reducible refine (awake_any _).mono ?_); rintro e w1 ⟨rfl, hb1⟩))
    go_ret
    exact ⟨rfl, hb1⟩
  · have h2 : 100000 < b.size := h.resolve_left h1
    have i1 : ¬ (100000 : Int) < (a.size : Int) := by omega
    have i2 : (100000 : Int) < (b.size : Int) := by omega
    clear h
    go_enter Try.func5, Try.ntmps5
    go_wp2_with (go_at_call 9; ((with_reducible refine (awake_any _).mono ?_); rintro e w1 ⟨rfl, hb1⟩))
    go_ret
    exact ⟨rfl, hb1⟩

theorem sizes_small (a b : ByteArray) (ha : a.size ≤ 100000) (hb : b.size ≤ 100000) (w : World) :
    Calls Try.prog 5 #[.string a, .string b] w fun e w' => e = .returned (.bool true) ∧ Below w.heap.size w w' := by
  have wx := words_any a (by omega)
  have wy := words_any b (by omega)
  have sx := sum_any a (by omega)
  have hsz : (⟨(sum a.data.toList).toArray⟩ : ByteArray).size = 32 := by show (sum a.data.toList).toArray.size = 32; simp [sum_len]
  have hxz : (⟨(wordsOf a.data.toList).toArray⟩ : ByteArray).size = 2 * a.size := by show (wordsOf a.data.toList).toArray.size = _; simp [wordsOf_len]
  have heq : ((a.toList == b.toList) == ((⟨(wordsOf a.data.toList).toArray⟩ : ByteArray).toList == (⟨(wordsOf b.data.toList).toArray⟩ : ByteArray).toList)) = true := by
    simp only [Lib.toList_data, beq_iff_eq]
    rw [Bool.eq_iff_iff]
    simp only [beq_iff_eq]
    exact ⟨fun h => by rw [h], fun h => wordsOf_inj h⟩
  generalize (⟨(sum a.data.toList).toArray⟩ : ByteArray) = S at *
  generalize (⟨(wordsOf a.data.toList).toArray⟩ : ByteArray) = X at *
  generalize (⟨(wordsOf b.data.toList).toArray⟩ : ByteArray) = Y at *
  have WX := Lib.hid wx
  have WY := Lib.hid wy
  have SX := Lib.hid sx
  clear wx wy sx
  have i1 : ¬ (100000 : Int) < (a.size : Int) := by omega
  have i2 : ¬ (100000 : Int) < (b.size : Int) := by omega
  have i3 : (X.size : Int) = 2 * (a.size : Int) := by omega
  have i4 : (S.size : Int) = 32 := by omega
  clear hsz hxz
  go_enter Try.func5, Try.ntmps5
  go_wp2_with (first | (go_at_call 10; ((with_reducible refine (WX.out _).mono ?_); rintro e w1 ⟨rfl, hb1⟩)) | (go_at_call 10; ((with_reducible refine (WY.out _).mono ?_); rintro e w2 ⟨rfl, hb2⟩)) | (go_at_call 7; ((with_reducible refine (SX.out _).mono ?_); rintro e w3 ⟨rfl, hb3⟩)) | (go_at_call 9; ((with_reducible refine (awake_any _).mono ?_); rintro e w4 ⟨rfl, hb4⟩)))
  go_ret
  have z1 := hb1.size
  have z2 := hb2.size
  have z3 := hb3.size
  exact ⟨rfl, hb1.trans ((hb2.mono (by omega)).trans ((hb3.mono (by omega)).trans (hb4.mono (by omega))))⟩

theorem sizes_walk (a b : ByteArray) (ha : a.size ≤ maxLen) (hb : b.size ≤ maxLen) (w : World) :
    Calls Try.prog 5 #[.string a, .string b] w fun e w' => e = .returned (.bool true) ∧ Below w.heap.size w w' := by
  by_cases h : 100000 < a.size ∨ 100000 < b.size
  · exact sizes_big a b h ha hb w
  · exact sizes_small a b (by omega) (by omega) w
end Go.Proofs.Ythflhnllgfnapaa
