/- The contract of blake's Words. -/
import Derived.Test.YthflhnllgfnapaaSb
import Derived.Test.YthflhnllgfnapaaShelf
import Derived.Test.YthflhnllgfnapaaBlkSumSpec
namespace Go.Proofs.Ythflhnllgfnapaa
open Go.RowKit Blk
set_option linter.unusedVariables false
namespace Blk
def hiW (c : UInt8) : UInt8 := 97 + c / 16
def loW (c : UInt8) : UInt8 := 97 + c % 16
def twoW (c : UInt8) : List UInt8 := [hiW c, loW c]
def wordsOf (s : List UInt8) : List UInt8 := s.flatMap twoW
theorem hiW_nat (c : UInt8) : (hiW c).toNat = 97 + c.toNat / 16 := by
  have := UInt8.toNat_lt c
  simp only [hiW, UInt8.toNat_add, UInt8.toNat_div]
  show (97 + c.toNat / 16) % 256 = _
  omega
theorem loW_nat (c : UInt8) : (loW c).toNat = 97 + c.toNat % 16 := by
  have := UInt8.toNat_lt c
  simp only [loW, UInt8.toNat_add, UInt8.toNat_mod]
  show (97 + c.toNat % 16) % 256 = _
  omega
theorem wordsOf_len (s : List UInt8) : (wordsOf s).length = 2 * s.length := by
  unfold wordsOf
  induction s with
  | nil => rfl
  | cons x s ih => simp [twoW] at ih ⊢; omega
theorem wordsOf_take (s : List UInt8) (k : Nat) (h : k < s.length) : wordsOf (s.take (k + 1)) = wordsOf (s.take k) ++ [hiW s[k]] ++ [loW s[k]] := by
  unfold wordsOf
  rw [List.take_succ_eq_append_getElem h, List.flatMap_append, List.append_assoc]
  rfl
end Blk

theorem WriteByte_int (B b : Nat) (l : List UInt8) (m : Int) (c : UInt8) (hm : m = c.toNat) (w : World) (h : SbAt B b l w) (hlen : l.length + 1 ≤ 140737488355328) (hBw : B ≤ w.heap.size) :
    Calls Try.prog 17 #[.pointer (some ⟨b, 0, none⟩), .int .u8 m] w fun e w' => e = .returned .nilIface ∧ SbAt B b (l ++ [c]) w' ∧ Below B w w' := by
  subst hm; exact WriteByte_any B b l c w h hlen hBw

set_option maxHeartbeats 1000000 in
theorem words_any (s : ByteArray) (hs : s.size ≤ 1000000) (w : World) :
    Calls Try.prog 10 #[.string s] w fun e w' => e = .returned (.string ⟨(wordsOf s.data.toList).toArray⟩) ∧ Below w.heap.size w w' := by
  have hlen : Hid (s.data.toList.length = s.size) := Lib.hid (Lib.size_eq s).symm
  go_enter Try.func10, Try.ntmps10
  go_wp2_with fail
  go_loopw [7] (fun i wx => ∃ k : Nat, k ≤ s.size ∧ i = .int .i64 k ∧ SbAt w.heap.size w.heap.size (wordsOf (s.data.toList.take k)) wx ∧ Below w.heap.size w wx) (fun i _ => s.size - (intOf i).toNat)
  case atStart => exact ⟨0, by omega, rfl, Lib.fresh_isBuilder _ _ w, (Below.refl _ _).alloc (Nat.le_refl _) _⟩
  case round =>
    obtain ⟨k, hk, rfl, hsb, hbx⟩ := hrel
    rename World => wx
    by_cases hlt : k < s.size
    · have WT := Lib.hid (wordsOf_take s.data.toList k (by rw [hlen.out]; exact hlt))
      have hl : (wordsOf (s.data.toList.take k)).length + 1 ≤ 140737488355328 := by rw [wordsOf_len, List.length_take]; omega
      have hl2 : (wordsOf (s.data.toList.take k) ++ [hiW (s[k])]).length + 1 ≤ 140737488355328 := by rw [List.length_append, wordsOf_len, List.length_take]; simp; omega
      have h1 : Hid (((97 : Int) + (s[k].toNat : Int) / 16) % 256 = ((hiW s[k]).toNat : Int)) := Lib.hid (by have := UInt8.toNat_lt s[k]; rw [hiW_nat]; omega)
      have h2 : Hid (((97 : Int) + bits .and .u8 (s[k].toNat : Int) 15) % 256 = ((loW s[k]).toNat : Int)) := Lib.hid (by have := UInt8.toNat_lt s[k]; rw [loW_nat, u8_and15 (x := (s[k].toNat : Int)) (by omega) (by omega)]; omega)
      have hB := hbx.size
      go_wp2_with (go_at_call 17; ((with_reducible refine (WriteByte_int w.heap.size w.heap.size _ _ _ h1.out _ hsb hl hB).mono ?_); rintro e w1 ⟨rfl, hs1, hb1⟩; have hB1 : w.heap.size ≤ w1.heap.size := Nat.le_trans hB hb1.size))
      go_wp2_with (go_at_call 17; ((with_reducible refine (WriteByte_int w.heap.size w.heap.size _ _ _ h2.out _ hs1 hl2 hB1).mono ?_); rintro e w2 ⟨rfl, hs2, hb2⟩))
      go_roundw
      case rel =>
        refine ⟨k + 1, by omega, by go_num, ?_, hbx.trans (hb1.trans hb2)⟩
        have := WT.out
        simp only [Array.getElem_toList] at this
        rw [this]; exact hs2
      case measure => simp [intOf]; omega
    · obtain rfl : k = s.size := by omega
      have hB := hbx.size
      rw [List.take_of_length_le (by rw [hlen.out]; omega)] at hsb
      go_wp2_with (go_at_call 18; ((with_reducible refine (Try.Builder_String_any w.heap.size w.heap.size _ _ hsb hB).mono ?_); rintro e w1 ⟨rfl, hb1⟩))
      go_ret
      exact ⟨rfl, hbx.trans hb1⟩
end Go.Proofs.Ythflhnllgfnapaa
