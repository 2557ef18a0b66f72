/- Behind an append of an empty step: the step's four cells and the row's header are stored, in either order. -/
import Derived.Test.YtoofflnaebkigaaDoorLgRmem
namespace Go.Proofs.YtoofflnaebkigaaDoor.Lg
open Go.RowKit
set_option linter.unusedVariables false
theorem set_last {vs : List Value} {u v : Value} {d : Nat} (h : vs.length = d) : (vs ++ [v]).set d u = vs ++ [u] := by
  subst h
  simp
/-- the four stores -/
theorem row_set4 {w : World} {b n ce ge : Nat} {cells : List Value} {a0 b0 c0 d0 : Value} (hl : cells.length = n * 4)
    (h : w.ownsRow b 59 4 (.slice (some ⟨ge, 0, none⟩) (n + 1) ce) (n + 1) (cells ++ [a0, b0, c0, d0])) (a' b' c' d' : Value) :
    ((((w.setCell ⟨ge, n * 4, none⟩ a').setCell ⟨ge, n * 4 + 1, none⟩ b').setCell ⟨ge, n * 4 + 2, none⟩ c').setCell ⟨ge, n * 4 + 3, none⟩ d').ownsRow b 59 4 (.slice (some ⟨ge, 0, none⟩) (n + 1) ce) (n + 1) (cells ++ [a', b', c', d']) := by
  have h1 := own_set h (j := n * 4) (by omega) a'
  have h2 := own_set h1 (j := n * 4 + 1) (by omega) b'
  have h3 := own_set h2 (j := n * 4 + 2) (by omega) c'
  have h4 := own_set h3 (j := n * 4 + 3) (by omega) d'
  rwa [set_four hl] at h4
theorem four_other {w : World} {B g s m : Nat} {T : TypeId} {v : Value} {xs : List Value} (h : w.ownsRow B T s v m xs) (hv : v.ownBlock ≠ some g) (i0 i1 i2 i3 : Nat) (a b c d : Value) :
    ((((w.setCell ⟨g, i0, none⟩ a).setCell ⟨g, i1, none⟩ b).setCell ⟨g, i2, none⟩ c).setCell ⟨g, i3, none⟩ d).ownsRow B T s v m xs :=
  ownsRow_setCell_other (ownsRow_setCell_other (ownsRow_setCell_other (ownsRow_setCell_other h hv _) hv _) hv _) hv _
theorem os_setCell (w : World) (a : Addr) (u : Value) : (w.setCell a u).os = w.os := rfl
theorem tape_setCell (w : World) (a : Addr) (u : Value) : (w.setCell a u).tape = w.tape := rfl
theorem output_setCell (w : World) (a : Addr) (u : Value) : (w.setCell a u).output = w.output := rfl
theorem heap_o {w : World} {x g i : Nat} {u : Value} (h : x ≠ g) : (w.setCell ⟨g, i, none⟩ u).heap[x]? = w.heap[x]? := Below.heap_setCell w ⟨g, i, none⟩ u x h
/-- both orders of the stores -/
theorem laid_both {w4 wx : World} {b B0 n d ce ck ge gk : Nat} {cells vs : List Value} {z0 z1 z2 z3 u0 a b' c' d' : Value} (hl : cells.length = n * 4) (hd : vs.length = d) (hne : ge ≠ gk)
    (hs : w4.ownsRow b 59 4 (.slice (some ⟨ge, 0, none⟩) (n + 1) ce) (n + 1) (cells ++ [z0, z1, z2, z3]))
    (hk : w4.ownsRow B0 44 1 (.slice (some ⟨gk, 0, none⟩) (d + 1) ck) (d + 1) (vs ++ [u0]))
    (hx : wx = (((((w4.setCell ⟨ge, n * 4, none⟩ a).setCell ⟨ge, n * 4 + 1, none⟩ b').setCell ⟨ge, n * 4 + 2, none⟩ c').setCell ⟨ge, n * 4 + 3, none⟩ d').setCell ⟨gk, d, none⟩ (.slice (some ⟨ge, 0, none⟩) (n + 1) ce)) ∨
      wx = (((((w4.setCell ⟨gk, d, none⟩ (.slice (some ⟨ge, 0, none⟩) (n + 1) ce)).setCell ⟨ge, n * 4, none⟩ a).setCell ⟨ge, n * 4 + 1, none⟩ b').setCell ⟨ge, n * 4 + 2, none⟩ c').setCell ⟨ge, n * 4 + 3, none⟩ d')) :
    wx.ownsRow b 59 4 (.slice (some ⟨ge, 0, none⟩) (n + 1) ce) (n + 1) (cells ++ [a, b', c', d']) ∧
    wx.ownsRow B0 44 1 (.slice (some ⟨gk, 0, none⟩) (d + 1) ck) (d + 1) (vs ++ [.slice (some ⟨ge, 0, none⟩) (n + 1) ce]) ∧
    (∀ x, x ≠ ge → x ≠ gk → wx.heap[x]? = w4.heap[x]?) ∧ wx.heap.size = w4.heap.size ∧ wx.os = w4.os ∧ wx.tape = w4.tape ∧ wx.output = w4.output := by
  have e1 : (Value.slice (some ⟨ge, 0, none⟩) (n + 1) ce).ownBlock ≠ some gk := fun e => hne (Option.some.inj e)
  have e2 : (Value.slice (some ⟨gk, 0, none⟩) (d + 1) ck).ownBlock ≠ some ge := fun e => hne (Option.some.inj e).symm
  rcases hx with rfl | rfl
  · refine ⟨ownsRow_setCell_other (row_set4 hl hs _ _ _ _) e1 _, ?_, fun x h1 h2 => ?_, ?_, by simp only [os_setCell], by simp only [tape_setCell], by simp only [output_setCell]⟩
    · have := own_set (four_other hk e2 (n * 4) (n * 4 + 1) (n * 4 + 2) (n * 4 + 3) a b' c' d') (j := d) (by omega) (.slice (some ⟨ge, 0, none⟩) (n + 1) ce)
      rwa [set_last hd] at this
    · rw [heap_o h2, heap_o h1, heap_o h1, heap_o h1, heap_o h1]
    · simp only [size_setCell]
  · refine ⟨row_set4 hl (ownsRow_setCell_other hs e1 _) _ _ _ _, ?_, fun x h1 h2 => ?_, ?_, by simp only [os_setCell], by simp only [tape_setCell], by simp only [output_setCell]⟩
    · have := own_set hk (j := d) (by omega) (.slice (some ⟨ge, 0, none⟩) (n + 1) ce)
      rw [set_last hd] at this
      exact four_other this e2 _ _ _ _ _ _ _ _
    · rw [heap_o h1, heap_o h1, heap_o h1, heap_o h1, heap_o h2]
    · simp only [size_setCell]
/-- the step was appended whole: the row's header alone is stored -/
theorem laid_one {w4 wx : World} {b B0 n d ce ck ge gk : Nat} {cells vs : List Value} {u0 a b' c' d' : Value} (hd : vs.length = d) (hne : ge ≠ gk)
    (hs : w4.ownsRow b 59 4 (.slice (some ⟨ge, 0, none⟩) (n + 1) ce) (n + 1) (cells ++ [a, b', c', d']))
    (hk : w4.ownsRow B0 44 1 (.slice (some ⟨gk, 0, none⟩) (d + 1) ck) (d + 1) (vs ++ [u0]))
    (hx : wx = w4.setCell ⟨gk, d, none⟩ (.slice (some ⟨ge, 0, none⟩) (n + 1) ce)) :
    wx.ownsRow b 59 4 (.slice (some ⟨ge, 0, none⟩) (n + 1) ce) (n + 1) (cells ++ [a, b', c', d']) ∧
    wx.ownsRow B0 44 1 (.slice (some ⟨gk, 0, none⟩) (d + 1) ck) (d + 1) (vs ++ [.slice (some ⟨ge, 0, none⟩) (n + 1) ce]) ∧
    (∀ x, x ≠ ge → x ≠ gk → wx.heap[x]? = w4.heap[x]?) ∧ wx.heap.size = w4.heap.size ∧ wx.os = w4.os ∧ wx.tape = w4.tape ∧ wx.output = w4.output := by
  have e1 : (Value.slice (some ⟨ge, 0, none⟩) (n + 1) ce).ownBlock ≠ some gk := fun e => hne (Option.some.inj e)
  subst hx
  refine ⟨ownsRow_setCell_other hs e1 _, ?_, fun x h1 h2 => ?_, ?_, rfl, rfl, rfl⟩
  · have := own_set hk (j := d) (by omega) (.slice (some ⟨ge, 0, none⟩) (n + 1) ce)
    rwa [set_last hd] at this
  · rw [heap_o h2]
  · simp only [size_setCell]
end Go.Proofs.YtoofflnaebkigaaDoor.Lg
