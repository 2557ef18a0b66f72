/- Joined by mkmerged.py: BxRow. -/
import Derived.Test.YtlndnpfjneeeeaaGreatDoorMh14
import Derived.Laws.IdiomCopy
import Derived.Lib.Overlaps
import Derived.Lib.AppendZerosOnto
/- BxRow, what a claim needs of it (prune.py). -/
namespace Go.Proofs.YtlndnpfjneeeeaaGreatDoor.Bx
open Go.RowKit
open Fs (fc fc_len fc_append fc_at fc_cell B)
set_option linter.unusedVariables false
set_option maxRecDepth 100000
section
variable {P : Program}
end
theorem own_open {w : World} {B n : Nat} {v : Value} {l : List Fl} (h : w.ownsRow B 75 2 v n (fc l)) : n = l.length ∧ ((v = .slice none 0 0 ∧ l = []) ∨ ∃ g cap cur, v = .slice (some ⟨g, 0, none⟩) l.length cap ∧ B ≤ g ∧ w.heap[g]? = some (.cells cur 75 (0, 0)) ∧ l.length ≤ cap ∧ cap ≤ maxLen ∧ cur.size = cap * 2 ∧ cur.toList.take (l.length * 2) = fc l) := by
  have hn : n = l.length := by have := h.1; rw [fc_len] at this; omega
  subst hn
  refine ⟨rfl, ?_⟩
  rcases h.2 with ⟨rfl, h0⟩ | ⟨g, cap, cur, rfl, hB, hg, h1, h2, h3, h4⟩
  · exact .inl ⟨rfl, List.eq_nil_of_length_eq_zero h0⟩
  · exact .inr ⟨g, cap, cur, rfl, hB, hg, h1, h2, h3, h4⟩
theorem own_slc {w : World} {B n : Nat} {v : Value} {l : List Fl} (h : w.ownsRow B 75 2 v n (fc l)) : ∃ A c, v = .slice A l.length c ∧ l.length ≤ c := by
  obtain ⟨_, ⟨rfl, rfl⟩ | ⟨g, cap, cur, rfl, _, _, h1, _⟩⟩ := own_open h
  · exact ⟨none, 0, rfl, Nat.le_refl _⟩
  · exact ⟨_, cap, rfl, h1⟩
theorem own_low {w : World} {B B' : Nat} {e : TypeId} {size : Nat} {v : Value} {n : Nat} {xs : List Value} (h : w.ownsRow B e size v n xs) (hB : B' ≤ B) : w.ownsRow B' e size v n xs := by
  refine ⟨h.1, ?_⟩
  rcases h.2 with h0 | ⟨g, cap, cur, hv, hg, hc⟩
  · exact .inl h0
  · exact .inr ⟨g, cap, cur, hv, Nat.le_trans hB hg, hc⟩
theorem fc_take (l : List Fl) (k : Nat) : (fc l).take (k * 2) = fc (l.take k) := by
  by_cases h : k ≤ l.length
  · have e : fc l = fc (l.take k) ++ fc (l.drop k) := by rw [← fc_append, List.take_append_drop]
    rw [e, List.take_append_of_le_length (by rw [fc_len]; simp; omega), List.take_of_length_le (by rw [fc_len]; simp; omega)]
  · rw [List.take_of_length_le (by rw [fc_len]; omega), List.take_of_length_le (by omega)]
theorem fc_drop (l : List Fl) (k : Nat) : (fc l).drop (k * 2) = fc (l.drop k) := by
  by_cases h : k ≤ l.length
  · have e : fc l = fc (l.take k) ++ fc (l.drop k) := by rw [← fc_append, List.take_append_drop]
    have hl : (fc (l.take k)).length = k * 2 := by rw [fc_len]; simp; omega
    rw [e, ← hl, List.drop_left]
  · rw [List.drop_eq_nil_of_le (by rw [fc_len]; omega), List.drop_eq_nil_of_le (by omega)]; rfl
end Go.Proofs.YtlndnpfjneeeeaaGreatDoor.Bx
