/- Small words on texts: their bytes, what is returned. -/
import Derived.Test.YtcpkhaebcmgehaaGreatDoorProg
import Derived.WalkKit
import Derived.Lib.Strings
import Derived.Lib.Hide
import Derived.Test.YtcpkhaebcmgehaaGreatDoorLgSpec
import Derived.Test.YtcpkhaebcmgehaaGreatDoorRowMore
import Derived.Deep.RegionWith
namespace Go.Proofs.YtcpkhaebcmgehaaGreatDoor.Lg
open Go.RowKit
set_option linter.unusedVariables false
set_option maxRecDepth 100000
abbrev tl (s : ByteArray) : List UInt8 := s.data.toList
theorem tl_inj {a b : ByteArray} (h : tl a = tl b) : a = b := by
  rcases a with ⟨⟨a⟩⟩
  rcases b with ⟨⟨b⟩⟩
  simpa [tl] using h
def bs (l : List UInt8) : ByteArray := ⟨l.toArray⟩
theorem bs_tl (s : ByteArray) : bs (tl s) = s := rfl
theorem tl_bs (l : List UInt8) : tl (bs l) = l := rfl
theorem tl_len (s : ByteArray) : (tl s).length = s.size := (Lib.size_eq s).symm
theorem tl_get {s : ByteArray} {k : Nat} (hk : k < s.size) : (tl s)[k]? = some (s[k]'hk) := by
  rw [List.getElem?_eq_getElem (by rw [tl_len]; exact hk)]
  rfl
theorem take_next {s : ByteArray} {k : Nat} (hk : k < s.size) : (tl s).take (k + 1) = (tl s).take k ++ [s[k]'hk] := by
  rw [List.take_add_one, tl_get hk]; rfl
theorem take_all (s : ByteArray) : (tl s).take s.size = tl s := List.take_of_length_le (by rw [tl_len]; exact Nat.le_refl _)
theorem all_next {s : ByteArray} {p : UInt8 → Bool} {k : Nat} (hk : k < s.size) : ((tl s).take (k + 1)).all p = (((tl s).take k).all p && p (s[k]'hk)) := by
  rw [take_next hk, List.all_append]; simp
theorem ret_val {a b : Value} (h : b = a) : Ending.returned a = .returned b := by rw [h]
theorem ret_bool {a b : Bool} (h : b = a) : Ending.returned (.bool a) = .returned (.bool b) := by rw [h]
theorem ret_int {k : IntKind} {a b : Int} (h : b = a) : Ending.returned (.int k a) = .returned (.int k b) := by rw [h]
theorem empty_of {s : ByteArray} (h : s.size = 0) : s = ⟨#[]⟩ := tl_inj (List.eq_nil_of_length_eq_zero (by rw [tl_len]; exact h))
theorem s_ne {a b : ByteArray} (h : a ≠ b) : (a.toList == b.toList) = false := by
  rw [Lib.toList_data, Lib.toList_data]
  exact beq_eq_false_iff_ne.2 (fun e => h (tl_inj e))
theorem some_ne {s : ByteArray} (h : s.size ≠ 0) : s.toList.isEmpty = false := by
  rw [Lib.toList_data]
  cases e : tl s with
  | nil => exact absurd (by rw [← tl_len, e]; rfl) h
  | cons a l => simp [tl] at e; simp [e]
/-- texts as a slice reads them -/
def Strs (w : World) (A : Option Addr) (l : List ByteArray) : Prop := Reads w w.heap.size 1 A l.length (l.map Value.string)
theorem Strs.below {w w' : World} {A : Option Addr} {l : List ByteArray} (h : Strs w A l) (hb : Below w.heap.size w w') : Strs w' A l := (Reads.below h hb).more hb.size
theorem Strs.at_ {w : World} {A : Option Addr} {l : List ByteArray} (h : Strs w A l) {k : Nat} (hk : k < l.length) : ∃ ad, A = some ad ∧ ad.block < w.heap.size ∧ w.cell? (ad.add k) = some (.string l[k]) := by
  obtain ⟨ad, u, h1, h2, h3, h4⟩ := Reads.at_ h hk
  refine ⟨ad, h1, h2, ?_⟩
  rw [h4]
  simp [hk] at h3
  rw [← h3]
theorem pr_cases (c : UInt8) : (printable c = true ∧ ¬ (c.toNat : Int) < 33 ∧ ¬ (126 : Int) < c.toNat) ∨ (printable c = false ∧ ((c.toNat : Int) < 33 ∨ (¬ (c.toNat : Int) < 33 ∧ (126 : Int) < c.toNat))) := by
  unfold printable
  generalize c.toNat = n
  simp only [Bool.and_eq_true, decide_eq_true_eq, Bool.and_eq_false_iff, decide_eq_false_iff_not]
  omega
end Go.Proofs.YtcpkhaebcmgehaaGreatDoor.Lg
