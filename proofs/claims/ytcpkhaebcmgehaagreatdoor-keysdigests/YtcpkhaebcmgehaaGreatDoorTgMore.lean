/- What targets and files fit in; rows of them read within more blocks. -/
import Derived.Test.YtcpkhaebcmgehaaGreatDoorKgFiles
namespace Go.Proofs.YtcpkhaebcmgehaaGreatDoor
open Go.RowKit
set_option linter.unusedVariables false
set_option maxRecDepth 100000
def Tg.Fit (t : Tg) : Prop := t.n.size ≤ maxLen ∧ t.c.size ≤ maxLen ∧ t.ds.length ≤ maxLen ∧ t.ss.length ≤ maxLen
def Fl.Fit (f : Fl) : Prop := f.p.size ≤ maxLen ∧ f.d.size ≤ maxLen
theorem Tgs.more {w : World} {B B' : Nat} {A : Option Addr} {l : List Tg} (h : Tgs w B A l) (hB : B ≤ B') : Tgs w B' A l := fun hl => by
  obtain ⟨ad, e, h1, h2⟩ := h hl
  refine ⟨ad, e, by omega, fun k hk => ?_⟩
  obtain ⟨Ad, cd, As, cs, c0, c1, c2, c3, c4, c5⟩ := h2 k hk
  exact ⟨Ad, cd, As, cs, c0, c1, c2, c3, c4.more hB, c5.more hB⟩
theorem Fls.none_ (w : World) (B : Nat) (A : Option Addr) : Fls w B A [] := fun h => absurd h (by simp)
theorem Tgs.none_ (w : World) (B : Nat) (A : Option Addr) : Tgs w B A [] := fun h => absurd h (by simp)
theorem mem_upto {α : Type} {l : List α} {Q : α → Prop} {k : Nat} (hk : k < l.length) (h : ∀ j (hj : j < l.length), j < k → Q l[j]) (h1 : Q l[k]) : ∀ j (hj : j < l.length), j < k + 1 → Q l[j] := by
  intro j hj hlt
  rcases Nat.lt_or_ge j k with h2 | h2
  · exact h j hj h2
  · obtain rfl : j = k := by omega
    exact h1
theorem mem_all {α : Type} {l : List α} {Q : α → Prop} (h : ∀ j (hj : j < l.length), j < l.length → Q l[j]) : ∀ x ∈ l, Q x := by
  intro x hx
  obtain ⟨j, hj, rfl⟩ := List.mem_iff_getElem.1 hx
  exact h j hj hj
end Go.Proofs.YtcpkhaebcmgehaaGreatDoor
