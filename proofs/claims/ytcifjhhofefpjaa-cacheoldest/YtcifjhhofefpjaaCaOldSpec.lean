/- Things put one behind the other: the last ones stay. Plain. -/
import Derived.Test.YtcifjhhofefpjaaCaSpec
namespace Go.Proofs.Ytcifjhhofefpjaa.Ca
set_option linter.unusedVariables false
def key (i : Nat) : ByteArray := ⟨#[UInt8.ofNat i]⟩
theorem key_inj {i j : Nat} (hi : i < 256) (hj : j < 256) (h : key i = key j) : i = j := by
  unfold key at h
  injection h with h
  have h1 : [UInt8.ofNat i] = [UInt8.ofNat j] := congrArg Array.toList h
  injection h1 with h1 _
  have h2 := congrArg UInt8.toNat h1
  rw [UInt8.toNat_ofNat_of_lt' (by show i < 256; omega), UInt8.toNat_ofNat_of_lt' (by show j < 256; omega)] at h2
  exact h2
def nth (i : Nat) : Th Int := ⟨key i, (i : Int), 0⟩
/-- what is there when k things have been put -/
def old (most k : Nat) : List (Th Int) := (List.range' (k - min most k) (min most k)).map nth
theorem old_len (most k : Nat) : (old most k).length = min most k := by simp [old]
theorem old_zero (most : Nat) : old most 0 = [] := by simp [old]
theorem old_get {most k j : Nat} (hj : j < min most k) : (old most k)[j]? = some (nth (k - min most k + j)) := by
  simp [old, hj]
theorem mem_old {most k : Nat} {x : Th Int} (h : x ∈ old most k) : ∃ i, i < k ∧ x = nth i := by
  obtain ⟨i, hi, rfl⟩ := List.mem_map.1 h
  rw [List.mem_range'_1] at hi
  exact ⟨i, by omega, rfl⟩
theorem put_old {most k : Nat} (hm : 1 ≤ most) (hk : k < 256) : put most (old most k) (key k) (k : Int) = (old most (k + 1), 0) := by
  have hat : at_ (key k) (old most k) = none := part_of_none (fun x hx => by
    obtain ⟨i, hi, rfl⟩ := mem_old hx
    exact has_not.2 (fun e => by have := key_inj (by omega) hk e; omega))
  unfold put
  rw [hat, old_len]
  by_cases hlt : k < most
  · have h1 : min most k = k := by omega
    have h2 : min most (k + 1) = k + 1 := by omega
    show (if min most k < most then _ else _) = _
    rw [if_pos (by omega)]
    refine Prod.ext ?_ rfl
    show old most k ++ [nth k] = old most (k + 1)
    unfold old
    rw [h1, h2, Nat.sub_self, Nat.sub_self, List.range'_concat, List.map_append]
    simp
  · have h1 : min most k = most := by omega
    have h2 : min most (k + 1) = most := by omega
    show (if min most k < most then _ else _) = _
    rw [if_neg (by omega)]
    obtain ⟨n, rfl⟩ : ∃ n, most = n + 1 := ⟨most - 1, by omega⟩
    have hold : old (n + 1) k = [] ++ nth (k - (n + 1)) :: (List.range' (k - (n + 1) + 1) n).map nth := by
      unfold old
      rw [h1, List.range'_succ]
      rfl
    rw [hold, part_of_some (free_iff.2 rfl) (fun y hy => by cases hy)]
    refine Prod.ext ?_ rfl
    show [] ++ (List.range' (k - (n + 1) + 1) n).map nth ++ [nth k] = old (n + 1) (k + 1)
    unfold old
    rw [h2, List.range'_concat, List.map_append, List.nil_append]
    rw [show k + 1 - (n + 1) = k - (n + 1) + 1 by omega, show k - (n + 1) + 1 + 1 * n = k by omega]
    simp
end Go.Proofs.Ytcifjhhofefpjaa.Ca
