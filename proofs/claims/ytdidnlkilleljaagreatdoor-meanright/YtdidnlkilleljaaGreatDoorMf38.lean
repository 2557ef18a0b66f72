/- Joined by mkmerged.py: FlRoot. -/
import Derived.Test.YtdidnlkilleljaaGreatDoorMf37
import Derived.Test.YtdidnlkilleljaaGreatDoorMf18
/- FlRoot, what a claim needs of it (prune.py). -/
namespace Go.Proofs.YtdidnlkilleljaaGreatDoor
open Go.RowKit
set_option linter.unusedVariables false
theorem fls_root {w : World} {A : Option Addr} {l : List Fl} (h : Fs.Fls w A l) : Fls w w.heap.size A l := fun h0 => by
  obtain ⟨ad, e, hb, hc⟩ := h.2 h0
  refine ⟨ad, e, hb, fun k hk => ?_⟩
  obtain ⟨c0, c1⟩ := Fs.fc_at hk
  refine ⟨hc _ _ c0, ?_⟩
  have := hc _ _ c1
  have e2 : (ad.add (k * 2)).add 1 = ad.add (k * 2 + 1) := by
    unfold Addr.add
    by_cases hk0 : k * 2 = 0 <;> simp [hk0, Nat.add_assoc]
  rw [e2]
  exact this
end Go.Proofs.YtdidnlkilleljaaGreatDoor
