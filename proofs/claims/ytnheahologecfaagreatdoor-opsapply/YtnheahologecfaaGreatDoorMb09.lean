/- Joined by mkmerged.py: LgRlay, LgRsA, LgRsB. -/
import Derived.Test.YtnheahologecfaaGreatDoorMb08
import Derived.Test.YtnheahologecfaaGreatDoorMb05
/- LgRlay, what a claim needs of it (prune.py). -/
namespace Go.Proofs.YtnheahologecfaaGreatDoor.Lg
open Go.RowKit
set_option linter.unusedVariables false
theorem set_last {vs : List Value} {u v : Value} {d : Nat} (h : vs.length = d) : (vs ++ [v]).set d u = vs ++ [u] := by
  subst h
  simp
theorem row_set4 {w : World} {b n ce ge : Nat} {cells : List Value} {a0 b0 c0 d0 : Value} (hl : cells.length = n * 4)
    (h : w.ownsRow b 64 4 (.slice (some ⟨ge, 0, none⟩) (n + 1) ce) (n + 1) (cells ++ [a0, b0, c0, d0])) (a' b' c' d' : Value) :
    ((((w.setCell ⟨ge, n * 4, none⟩ a').setCell ⟨ge, n * 4 + 1, none⟩ b').setCell ⟨ge, n * 4 + 2, none⟩ c').setCell ⟨ge, n * 4 + 3, none⟩ d').ownsRow b 64 4 (.slice (some ⟨ge, 0, none⟩) (n + 1) ce) (n + 1) (cells ++ [a', b', c', d']) := by
  have h1 := own_set h (j := n * 4) (by omega) a'
  have h2 := own_set h1 (j := n * 4 + 1) (by omega) b'
  have h3 := own_set h2 (j := n * 4 + 2) (by omega) c'
  have h4 := own_set h3 (j := n * 4 + 3) (by omega) d'
  rwa [set_four hl] at h4
theorem four_other {w : World} {B g s m : Nat} {T : TypeId} {v : Value} {xs : List Value} (h : w.ownsRow B T s v m xs) (hv : v.ownBlock ≠ some g) (i0 i1 i2 i3 : Nat) (a b c d : Value) :
    ((((w.setCell ⟨g, i0, none⟩ a).setCell ⟨g, i1, none⟩ b).setCell ⟨g, i2, none⟩ c).setCell ⟨g, i3, none⟩ d).ownsRow B T s v m xs :=
  ownsRow_setCell_other (ownsRow_setCell_other (ownsRow_setCell_other (ownsRow_setCell_other h hv _) hv _) hv _) hv _
theorem os_setCell (w : World) (a : Addr) (u : Value) : (w.setCell a u).os = w.os := rfl
theorem tape_setCell (w : World) (a : Addr) (u : Value) : (w.setCell a u).tape = w.tape := rfl
theorem output_setCell (w : World) (a : Addr) (u : Value) : (w.setCell a u).output = w.output := rfl
theorem heap_o {w : World} {x g i : Nat} {u : Value} (h : x ≠ g) : (w.setCell ⟨g, i, none⟩ u).heap[x]? = w.heap[x]? := Below.heap_setCell w ⟨g, i, none⟩ u x h
theorem laid_both {w4 wx : World} {b B0 n d ce ck ge gk : Nat} {cells vs : List Value} {z0 z1 z2 z3 u0 a b' c' d' : Value} (hl : cells.length = n * 4) (hd : vs.length = d) (hne : ge ≠ gk)
    (hs : w4.ownsRow b 64 4 (.slice (some ⟨ge, 0, none⟩) (n + 1) ce) (n + 1) (cells ++ [z0, z1, z2, z3]))
    (hk : w4.ownsRow B0 45 1 (.slice (some ⟨gk, 0, none⟩) (d + 1) ck) (d + 1) (vs ++ [u0]))
    (hx : wx = (((((w4.setCell ⟨ge, n * 4, none⟩ a).setCell ⟨ge, n * 4 + 1, none⟩ b').setCell ⟨ge, n * 4 + 2, none⟩ c').setCell ⟨ge, n * 4 + 3, none⟩ d').setCell ⟨gk, d, none⟩ (.slice (some ⟨ge, 0, none⟩) (n + 1) ce)) ∨
      wx = (((((w4.setCell ⟨gk, d, none⟩ (.slice (some ⟨ge, 0, none⟩) (n + 1) ce)).setCell ⟨ge, n * 4, none⟩ a).setCell ⟨ge, n * 4 + 1, none⟩ b').setCell ⟨ge, n * 4 + 2, none⟩ c').setCell ⟨ge, n * 4 + 3, none⟩ d')) :
    wx.ownsRow b 64 4 (.slice (some ⟨ge, 0, none⟩) (n + 1) ce) (n + 1) (cells ++ [a, b', c', d']) ∧
    wx.ownsRow B0 45 1 (.slice (some ⟨gk, 0, none⟩) (d + 1) ck) (d + 1) (vs ++ [.slice (some ⟨ge, 0, none⟩) (n + 1) ce]) ∧
    (∀ x, x ≠ ge → x ≠ gk → wx.heap[x]? = w4.heap[x]?) ∧ wx.heap.size = w4.heap.size ∧ wx.os = w4.os ∧ wx.tape = w4.tape ∧ wx.output = w4.output := by
  have e1 : (Value.slice (some ⟨ge, 0, none⟩) (n + 1) ce).ownBlock ≠ some gk := fun e => hne (Option.some.inj e)
  have e2 : (Value.slice (some ⟨gk, 0, none⟩) (d + 1) ck).ownBlock ≠ some ge := fun e => hne (Option.some.inj e).symm
  rcases hx with rfl | rfl
  · refine ⟨ownsRow_setCell_other (row_set4 hl hs _ _ _ _) e1 _, ?_, fun x h1 h2 => ?_, ?_, by simp only [os_setCell], by simp only [tape_setCell], by simp only [output_setCell]⟩
    · have := own_set (four_other hk e2 (n * 4) (n * 4 + 1) (n * 4 + 2) (n * 4 + 3) a b' c' d') (j := d) (by omega) (.slice (some ⟨ge, 0, none⟩) (n + 1) ce)
      rwa [set_last hd] at this
    · rw [heap_o h2, heap_o h1, heap_o h1, heap_o h1, heap_o h1]
    · simp only [size_setCell]
  · refine ⟨row_set4 hl (ownsRow_setCell_other hs e1 _) _ _ _ _, ?_, fun x h1 h2 => ?_, ?_, by simp only [os_setCell], by simp only [tape_setCell], by simp only [output_setCell]⟩
    · have := own_set hk (j := d) (by omega) (.slice (some ⟨ge, 0, none⟩) (n + 1) ce)
      rw [set_last hd] at this
      exact four_other this e2 _ _ _ _ _ _ _ _
    · rw [heap_o h1, heap_o h1, heap_o h1, heap_o h1, heap_o h2]
    · simp only [size_setCell]
theorem laid_one {w4 wx : World} {b B0 n d ce ck ge gk : Nat} {cells vs : List Value} {u0 a b' c' d' : Value} (hd : vs.length = d) (hne : ge ≠ gk)
    (hs : w4.ownsRow b 64 4 (.slice (some ⟨ge, 0, none⟩) (n + 1) ce) (n + 1) (cells ++ [a, b', c', d']))
    (hk : w4.ownsRow B0 45 1 (.slice (some ⟨gk, 0, none⟩) (d + 1) ck) (d + 1) (vs ++ [u0]))
    (hx : wx = w4.setCell ⟨gk, d, none⟩ (.slice (some ⟨ge, 0, none⟩) (n + 1) ce)) :
    wx.ownsRow b 64 4 (.slice (some ⟨ge, 0, none⟩) (n + 1) ce) (n + 1) (cells ++ [a, b', c', d']) ∧
    wx.ownsRow B0 45 1 (.slice (some ⟨gk, 0, none⟩) (d + 1) ck) (d + 1) (vs ++ [.slice (some ⟨ge, 0, none⟩) (n + 1) ce]) ∧
    (∀ x, x ≠ ge → x ≠ gk → wx.heap[x]? = w4.heap[x]?) ∧ wx.heap.size = w4.heap.size ∧ wx.os = w4.os ∧ wx.tape = w4.tape ∧ wx.output = w4.output := by
  have e1 : (Value.slice (some ⟨ge, 0, none⟩) (n + 1) ce).ownBlock ≠ some gk := fun e => hne (Option.some.inj e)
  subst hx
  refine ⟨ownsRow_setCell_other hs e1 _, ?_, fun x h1 h2 => ?_, ?_, rfl, rfl, rfl⟩
  · have := own_set hk (j := d) (by omega) (.slice (some ⟨ge, 0, none⟩) (n + 1) ce)
    rwa [set_last hd] at this
  · rw [heap_o h2]
  · simp only [size_setCell]
end Go.Proofs.YtnheahologecfaaGreatDoor.Lg
/- LgRsA, what a claim needs of it (prune.py). -/
namespace Go.Proofs.YtnheahologecfaaGreatDoor.Lg
open Go.RowKit
set_option linter.unusedVariables false
set_option maxRecDepth 100000
theorem rstep_copy (ad : Addr) (y : ByteArray) (l : List ByteArray) (c : Nat) (w : World) (hr : Strs w (some ad) (⟨#[99, 111, 112, 121]⟩ :: y :: l)) (hl : (y :: l).length ≤ 1000000) (hs : ∀ p ∈ y :: l, p.size ≤ 1000000) (hc : (y :: l).length + 1 ≤ c) :
    Calls Tryz.prog 179 #[.slice (some ad) ((y :: l).length + 1) c] w fun e w' => StepSays w' (fun b => b = ad.block) ([99, 111, 112, 121] :: (y :: l).map tl) e ∧ Below w.heap.size w w' := by
  obtain ⟨_, h1, h2, h3⟩ := hr.at_ (k := 0) (by simp)
  injection h1 with h1
  subst h1
  have h4 : w.cell? ad = some (.string ⟨#[99, 111, 112, 121]⟩) := h3
  have ht := hr.tail
  clear h3
  have LI := Lib.hid (fun W (hW : Below w.heap.size w W) => ht.lies hW)
  have SW := Lib.hid (stepW_copy ((y :: l).map tl))
  have c1 : ¬ c = 1 := by simp at hc; omega
  have RP : Hid (∀ W, Below w.heap.size w W → Calls Tryz.prog 241 #[.slice (some ⟨ad.block, ad.off + 1, none⟩) (y :: l).length (c - 1)] W fun e w' => e = .returned (.bool (allP (y :: l))) ∧ W = w') :=
    Lib.hid fun W hW => rpaths_any _ (y :: l) (c - 1) W (ht.below hW) (by omega) (fun p hp => by have := hs p hp; omega)
  rw [len_map, allP_map] at SW
  generalize y :: l = l at *
  have e1 : (1 : Int) ≤ ((l.length + 1 : Nat) : Int) := by omega
  have e2 : ((l.length + 1 : Nat) : Int) ≤ (c : Int) := by omega
  have e3 : (0 : Int) < ((l.length + 1 : Nat) : Int) := by omega
  clear hr ht hs
  by_cases hn : l.length = 2
  · have g1 : ((l.length : Int) == 2) = true := by simp; omega
    cases hp : allP l
    · have BAD := Lib.hid (SW.out.trans (if_neg (by rw [hp]; simp)))
      rw [hp] at RP
      clear hp hn SW
      go_enter Tryz.func179, Tryz.ntmps179
      go_wp2_with ((go_at_call 241; ((with_reducible refine (RP.out _ (((Below.refl _ _).alloc (Nat.le_refl _) _).alloc (by simp) _)).mono ?_); rintro e w1 ⟨rfl, rfl⟩)))
      ((try simp only [Exit.inBlock, Exit.then]); refine bodyPost_ret_by (results_cell_row2 rfl _ _ w.heap.size 64 _ (0, 0) _ rfl heap_two rfl rfl (by kernel_rfl)) rfl ?_)
      exact ⟨StepSays.bad BAD.out (by omega), (((Below.refl _ _).alloc (Nat.le_refl _) _).alloc (by simp) _)⟩
    · have GOOD := Lib.hid (SW.out.trans (if_pos ⟨hn, hp⟩))
      rw [hp] at RP
      clear hp hn SW
      go_enter Tryz.func179, Tryz.ntmps179
      go_wp2_with ((go_at_call 241; ((with_reducible refine (RP.out _ (((Below.refl _ _).alloc (Nat.le_refl _) _).alloc (by simp) _)).mono ?_); rintro e w1 ⟨rfl, rfl⟩)))
      ((try simp only [Exit.inBlock, Exit.then]); refine bodyPost_ret_by (results_cell_row2 rfl _ _ w.heap.size 64 _ (0, 0) _ rfl heap_two rfl rfl (by kernel_rfl)) rfl ?_)
      exact ⟨StepSays.good GOOD.out (by omega) (by rw [len_map]) (LI.out _ (((Below.refl _ _).alloc (Nat.le_refl _) _).alloc (by simp) _)), (((Below.refl _ _).alloc (Nat.le_refl _) _).alloc (by simp) _)⟩
  · have g1 : ((l.length : Int) == 2) = false := by simp; omega
    have BAD := Lib.hid (SW.out.trans (if_neg (fun h => hn h.1)))
    clear hn SW
    go_enter Tryz.func179, Tryz.ntmps179
    go_wp2_with (fail)
    ((try simp only [Exit.inBlock, Exit.then]); refine bodyPost_ret_by (results_cell_row2 rfl _ _ w.heap.size 64 _ (0, 0) _ rfl heap_two rfl rfl (by kernel_rfl)) rfl ?_)
    exact ⟨StepSays.bad BAD.out (by omega), (((Below.refl _ _).alloc (Nat.le_refl _) _).alloc (by simp) _)⟩
theorem rstep_upper (ad : Addr) (y : ByteArray) (l : List ByteArray) (c : Nat) (w : World) (hr : Strs w (some ad) (⟨#[117, 112, 112, 101, 114]⟩ :: y :: l)) (hl : (y :: l).length ≤ 1000000) (hs : ∀ p ∈ y :: l, p.size ≤ 1000000) (hc : (y :: l).length + 1 ≤ c) :
    Calls Tryz.prog 179 #[.slice (some ad) ((y :: l).length + 1) c] w fun e w' => StepSays w' (fun b => b = ad.block) ([117, 112, 112, 101, 114] :: (y :: l).map tl) e ∧ Below w.heap.size w w' := by
  obtain ⟨_, h1, h2, h3⟩ := hr.at_ (k := 0) (by simp)
  injection h1 with h1
  subst h1
  have h4 : w.cell? ad = some (.string ⟨#[117, 112, 112, 101, 114]⟩) := h3
  have ht := hr.tail
  clear h3
  have LI := Lib.hid (fun W (hW : Below w.heap.size w W) => ht.lies hW)
  have SW := Lib.hid (stepW_upper ((y :: l).map tl))
  have c1 : ¬ c = 1 := by simp at hc; omega
  have RP : Hid (∀ W, Below w.heap.size w W → Calls Tryz.prog 241 #[.slice (some ⟨ad.block, ad.off + 1, none⟩) (y :: l).length (c - 1)] W fun e w' => e = .returned (.bool (allP (y :: l))) ∧ W = w') :=
    Lib.hid fun W hW => rpaths_any _ (y :: l) (c - 1) W (ht.below hW) (by omega) (fun p hp => by have := hs p hp; omega)
  rw [len_map, allP_map] at SW
  generalize y :: l = l at *
  have e1 : (1 : Int) ≤ ((l.length + 1 : Nat) : Int) := by omega
  have e2 : ((l.length + 1 : Nat) : Int) ≤ (c : Int) := by omega
  have e3 : (0 : Int) < ((l.length + 1 : Nat) : Int) := by omega
  clear hr ht hs
  by_cases hn : l.length = 1
  · have g1 : ((l.length : Int) == 1) = true := by simp; omega
    cases hp : allP l
    · have BAD := Lib.hid (SW.out.trans (if_neg (by rw [hp]; simp)))
      rw [hp] at RP
      clear hp hn SW
      go_enter Tryz.func179, Tryz.ntmps179
      go_wp2_with ((go_at_call 241; ((with_reducible refine (RP.out _ (((Below.refl _ _).alloc (Nat.le_refl _) _).alloc (by simp) _)).mono ?_); rintro e w1 ⟨rfl, rfl⟩)))
      ((try simp only [Exit.inBlock, Exit.then]); refine bodyPost_ret_by (results_cell_row2 rfl _ _ w.heap.size 64 _ (0, 0) _ rfl heap_two rfl rfl (by kernel_rfl)) rfl ?_)
      exact ⟨StepSays.bad BAD.out (by omega), (((Below.refl _ _).alloc (Nat.le_refl _) _).alloc (by simp) _)⟩
    · have GOOD := Lib.hid (SW.out.trans (if_pos ⟨hn, hp⟩))
      rw [hp] at RP
      clear hp hn SW
      go_enter Tryz.func179, Tryz.ntmps179
      go_wp2_with ((go_at_call 241; ((with_reducible refine (RP.out _ (((Below.refl _ _).alloc (Nat.le_refl _) _).alloc (by simp) _)).mono ?_); rintro e w1 ⟨rfl, rfl⟩)))
      ((try simp only [Exit.inBlock, Exit.then]); refine bodyPost_ret_by (results_cell_row2 rfl _ _ w.heap.size 64 _ (0, 0) _ rfl heap_two rfl rfl (by kernel_rfl)) rfl ?_)
      exact ⟨StepSays.good GOOD.out (by omega) (by rw [len_map]) (LI.out _ (((Below.refl _ _).alloc (Nat.le_refl _) _).alloc (by simp) _)), (((Below.refl _ _).alloc (Nat.le_refl _) _).alloc (by simp) _)⟩
  · have g1 : ((l.length : Int) == 1) = false := by simp; omega
    have BAD := Lib.hid (SW.out.trans (if_neg (fun h => hn h.1)))
    clear hn SW
    go_enter Tryz.func179, Tryz.ntmps179
    go_wp2_with (fail)
    ((try simp only [Exit.inBlock, Exit.then]); refine bodyPost_ret_by (results_cell_row2 rfl _ _ w.heap.size 64 _ (0, 0) _ rfl heap_two rfl rfl (by kernel_rfl)) rfl ?_)
    exact ⟨StepSays.bad BAD.out (by omega), (((Below.refl _ _).alloc (Nat.le_refl _) _).alloc (by simp) _)⟩
theorem rstep_sort (ad : Addr) (y : ByteArray) (l : List ByteArray) (c : Nat) (w : World) (hr : Strs w (some ad) (⟨#[115, 111, 114, 116]⟩ :: y :: l)) (hl : (y :: l).length ≤ 1000000) (hs : ∀ p ∈ y :: l, p.size ≤ 1000000) (hc : (y :: l).length + 1 ≤ c) :
    Calls Tryz.prog 179 #[.slice (some ad) ((y :: l).length + 1) c] w fun e w' => StepSays w' (fun b => b = ad.block) ([115, 111, 114, 116] :: (y :: l).map tl) e ∧ Below w.heap.size w w' := by
  obtain ⟨_, h1, h2, h3⟩ := hr.at_ (k := 0) (by simp)
  injection h1 with h1
  subst h1
  have h4 : w.cell? ad = some (.string ⟨#[115, 111, 114, 116]⟩) := h3
  have ht := hr.tail
  clear h3
  have LI := Lib.hid (fun W (hW : Below w.heap.size w W) => ht.lies hW)
  have SW := Lib.hid (stepW_sort ((y :: l).map tl))
  have c1 : ¬ c = 1 := by simp at hc; omega
  have RP : Hid (∀ W, Below w.heap.size w W → Calls Tryz.prog 241 #[.slice (some ⟨ad.block, ad.off + 1, none⟩) (y :: l).length (c - 1)] W fun e w' => e = .returned (.bool (allP (y :: l))) ∧ W = w') :=
    Lib.hid fun W hW => rpaths_any _ (y :: l) (c - 1) W (ht.below hW) (by omega) (fun p hp => by have := hs p hp; omega)
  rw [len_map, allP_map] at SW
  generalize y :: l = l at *
  have e1 : (1 : Int) ≤ ((l.length + 1 : Nat) : Int) := by omega
  have e2 : ((l.length + 1 : Nat) : Int) ≤ (c : Int) := by omega
  have e3 : (0 : Int) < ((l.length + 1 : Nat) : Int) := by omega
  clear hr ht hs
  by_cases hn : l.length = 1
  · have g1 : ((l.length : Int) == 1) = true := by simp; omega
    cases hp : allP l
    · have BAD := Lib.hid (SW.out.trans (if_neg (by rw [hp]; simp)))
      rw [hp] at RP
      clear hp hn SW
      go_enter Tryz.func179, Tryz.ntmps179
      go_wp2_with ((go_at_call 241; ((with_reducible refine (RP.out _ (((Below.refl _ _).alloc (Nat.le_refl _) _).alloc (by simp) _)).mono ?_); rintro e w1 ⟨rfl, rfl⟩)))
      ((try simp only [Exit.inBlock, Exit.then]); refine bodyPost_ret_by (results_cell_row2 rfl _ _ w.heap.size 64 _ (0, 0) _ rfl heap_two rfl rfl (by kernel_rfl)) rfl ?_)
      exact ⟨StepSays.bad BAD.out (by omega), (((Below.refl _ _).alloc (Nat.le_refl _) _).alloc (by simp) _)⟩
    · have GOOD := Lib.hid (SW.out.trans (if_pos ⟨hn, hp⟩))
      rw [hp] at RP
      clear hp hn SW
      go_enter Tryz.func179, Tryz.ntmps179
      go_wp2_with ((go_at_call 241; ((with_reducible refine (RP.out _ (((Below.refl _ _).alloc (Nat.le_refl _) _).alloc (by simp) _)).mono ?_); rintro e w1 ⟨rfl, rfl⟩)))
      ((try simp only [Exit.inBlock, Exit.then]); refine bodyPost_ret_by (results_cell_row2 rfl _ _ w.heap.size 64 _ (0, 0) _ rfl heap_two rfl rfl (by kernel_rfl)) rfl ?_)
      exact ⟨StepSays.good GOOD.out (by omega) (by rw [len_map]) (LI.out _ (((Below.refl _ _).alloc (Nat.le_refl _) _).alloc (by simp) _)), (((Below.refl _ _).alloc (Nat.le_refl _) _).alloc (by simp) _)⟩
  · have g1 : ((l.length : Int) == 1) = false := by simp; omega
    have BAD := Lib.hid (SW.out.trans (if_neg (fun h => hn h.1)))
    clear hn SW
    go_enter Tryz.func179, Tryz.ntmps179
    go_wp2_with (fail)
    ((try simp only [Exit.inBlock, Exit.then]); refine bodyPost_ret_by (results_cell_row2 rfl _ _ w.heap.size 64 _ (0, 0) _ rfl heap_two rfl rfl (by kernel_rfl)) rfl ?_)
    exact ⟨StepSays.bad BAD.out (by omega), (((Below.refl _ _).alloc (Nat.le_refl _) _).alloc (by simp) _)⟩
theorem rstep_drop (ad : Addr) (y : ByteArray) (l : List ByteArray) (c : Nat) (w : World) (hr : Strs w (some ad) (⟨#[100, 114, 111, 112]⟩ :: y :: l)) (hl : (y :: l).length ≤ 1000000) (hs : ∀ p ∈ y :: l, p.size ≤ 1000000) (hc : (y :: l).length + 1 ≤ c) :
    Calls Tryz.prog 179 #[.slice (some ad) ((y :: l).length + 1) c] w fun e w' => StepSays w' (fun b => b = ad.block) ([100, 114, 111, 112] :: (y :: l).map tl) e ∧ Below w.heap.size w w' := by
  obtain ⟨_, h1, h2, h3⟩ := hr.at_ (k := 0) (by simp)
  injection h1 with h1
  subst h1
  have h4 : w.cell? ad = some (.string ⟨#[100, 114, 111, 112]⟩) := h3
  have ht := hr.tail
  clear h3
  have LI := Lib.hid (fun W (hW : Below w.heap.size w W) => ht.lies hW)
  have SW := Lib.hid (stepW_drop ((y :: l).map tl))
  have c1 : ¬ c = 1 := by simp at hc; omega
  have RP : Hid (∀ W, Below w.heap.size w W → Calls Tryz.prog 241 #[.slice (some ⟨ad.block, ad.off + 1, none⟩) (y :: l).length (c - 1)] W fun e w' => e = .returned (.bool (allP (y :: l))) ∧ W = w') :=
    Lib.hid fun W hW => rpaths_any _ (y :: l) (c - 1) W (ht.below hW) (by omega) (fun p hp => by have := hs p hp; omega)
  rw [len_map, allP_map] at SW
  generalize y :: l = l at *
  have e1 : (1 : Int) ≤ ((l.length + 1 : Nat) : Int) := by omega
  have e2 : ((l.length + 1 : Nat) : Int) ≤ (c : Int) := by omega
  have e3 : (0 : Int) < ((l.length + 1 : Nat) : Int) := by omega
  clear hr ht hs
  by_cases hn : l.length = 1
  · have g1 : ((l.length : Int) == 1) = true := by simp; omega
    cases hp : allP l
    · have BAD := Lib.hid (SW.out.trans (if_neg (by rw [hp]; simp)))
      rw [hp] at RP
      clear hp hn SW
      go_enter Tryz.func179, Tryz.ntmps179
      go_wp2_with ((go_at_call 241; ((with_reducible refine (RP.out _ (((Below.refl _ _).alloc (Nat.le_refl _) _).alloc (by simp) _)).mono ?_); rintro e w1 ⟨rfl, rfl⟩)))
      ((try simp only [Exit.inBlock, Exit.then]); refine bodyPost_ret_by (results_cell_row2 rfl _ _ w.heap.size 64 _ (0, 0) _ rfl heap_two rfl rfl (by kernel_rfl)) rfl ?_)
      exact ⟨StepSays.bad BAD.out (by omega), (((Below.refl _ _).alloc (Nat.le_refl _) _).alloc (by simp) _)⟩
    · have GOOD := Lib.hid (SW.out.trans (if_pos ⟨hn, hp⟩))
      rw [hp] at RP
      clear hp hn SW
      go_enter Tryz.func179, Tryz.ntmps179
      go_wp2_with ((go_at_call 241; ((with_reducible refine (RP.out _ (((Below.refl _ _).alloc (Nat.le_refl _) _).alloc (by simp) _)).mono ?_); rintro e w1 ⟨rfl, rfl⟩)))
      ((try simp only [Exit.inBlock, Exit.then]); refine bodyPost_ret_by (results_cell_row2 rfl _ _ w.heap.size 64 _ (0, 0) _ rfl heap_two rfl rfl (by kernel_rfl)) rfl ?_)
      exact ⟨StepSays.good GOOD.out (by omega) (by rw [len_map]) (LI.out _ (((Below.refl _ _).alloc (Nat.le_refl _) _).alloc (by simp) _)), (((Below.refl _ _).alloc (Nat.le_refl _) _).alloc (by simp) _)⟩
  · have g1 : ((l.length : Int) == 1) = false := by simp; omega
    have BAD := Lib.hid (SW.out.trans (if_neg (fun h => hn h.1)))
    clear hn SW
    go_enter Tryz.func179, Tryz.ntmps179
    go_wp2_with (fail)
    ((try simp only [Exit.inBlock, Exit.then]); refine bodyPost_ret_by (results_cell_row2 rfl _ _ w.heap.size 64 _ (0, 0) _ rfl heap_two rfl rfl (by kernel_rfl)) rfl ?_)
    exact ⟨StepSays.bad BAD.out (by omega), (((Below.refl _ _).alloc (Nat.le_refl _) _).alloc (by simp) _)⟩
theorem rstep_if (ad : Addr) (y : ByteArray) (l : List ByteArray) (c : Nat) (w : World) (hr : Strs w (some ad) (⟨#[105, 102]⟩ :: y :: l)) (hl : (y :: l).length ≤ 1000000) (hs : ∀ p ∈ y :: l, p.size ≤ 1000000) (hc : (y :: l).length + 1 ≤ c) :
    Calls Tryz.prog 179 #[.slice (some ad) ((y :: l).length + 1) c] w fun e w' => StepSays w' (fun b => b = ad.block) ([105, 102] :: (y :: l).map tl) e ∧ Below w.heap.size w w' := by
  obtain ⟨_, h1, h2, h3⟩ := hr.at_ (k := 0) (by simp)
  injection h1 with h1
  subst h1
  have h4 : w.cell? ad = some (.string ⟨#[105, 102]⟩) := h3
  have ht := hr.tail
  clear h3
  have LI := Lib.hid (fun W (hW : Below w.heap.size w W) => ht.lies hW)
  have SW := Lib.hid (stepW_if ((y :: l).map tl))
  have c1 : ¬ c = 1 := by simp at hc; omega
  have RP : Hid (∀ W, Below w.heap.size w W → Calls Tryz.prog 241 #[.slice (some ⟨ad.block, ad.off + 1, none⟩) (y :: l).length (c - 1)] W fun e w' => e = .returned (.bool (allP (y :: l))) ∧ W = w') :=
    Lib.hid fun W hW => rpaths_any _ (y :: l) (c - 1) W (ht.below hW) (by omega) (fun p hp => by have := hs p hp; omega)
  rw [len_map, allP_map] at SW
  generalize y :: l = l at *
  have e1 : (1 : Int) ≤ ((l.length + 1 : Nat) : Int) := by omega
  have e2 : ((l.length + 1 : Nat) : Int) ≤ (c : Int) := by omega
  have e3 : (0 : Int) < ((l.length + 1 : Nat) : Int) := by omega
  clear hr ht hs
  by_cases hn : l.length = 1
  · have g1 : ((l.length : Int) == 1) = true := by simp; omega
    cases hp : allP l
    · have BAD := Lib.hid (SW.out.trans (if_neg (by rw [hp]; simp)))
      rw [hp] at RP
      clear hp hn SW
      go_enter Tryz.func179, Tryz.ntmps179
      go_wp2_with ((go_at_call 241; ((with_reducible refine (RP.out _ (((Below.refl _ _).alloc (Nat.le_refl _) _).alloc (by simp) _)).mono ?_); rintro e w1 ⟨rfl, rfl⟩)))
      ((try simp only [Exit.inBlock, Exit.then]); refine bodyPost_ret_by (results_cell_row2 rfl _ _ w.heap.size 64 _ (0, 0) _ rfl heap_two rfl rfl (by kernel_rfl)) rfl ?_)
      exact ⟨StepSays.bad BAD.out (by omega), (((Below.refl _ _).alloc (Nat.le_refl _) _).alloc (by simp) _)⟩
    · have GOOD := Lib.hid (SW.out.trans (if_pos ⟨hn, hp⟩))
      rw [hp] at RP
      clear hp hn SW
      go_enter Tryz.func179, Tryz.ntmps179
      go_wp2_with ((go_at_call 241; ((with_reducible refine (RP.out _ (((Below.refl _ _).alloc (Nat.le_refl _) _).alloc (by simp) _)).mono ?_); rintro e w1 ⟨rfl, rfl⟩)))
      ((try simp only [Exit.inBlock, Exit.then]); refine bodyPost_ret_by (results_cell_row2 rfl _ _ w.heap.size 64 _ (0, 0) _ rfl heap_two rfl rfl (by kernel_rfl)) rfl ?_)
      exact ⟨StepSays.good GOOD.out (by omega) (by rw [len_map]) (LI.out _ (((Below.refl _ _).alloc (Nat.le_refl _) _).alloc (by simp) _)), (((Below.refl _ _).alloc (Nat.le_refl _) _).alloc (by simp) _)⟩
  · have g1 : ((l.length : Int) == 1) = false := by simp; omega
    have BAD := Lib.hid (SW.out.trans (if_neg (fun h => hn h.1)))
    clear hn SW
    go_enter Tryz.func179, Tryz.ntmps179
    go_wp2_with (fail)
    ((try simp only [Exit.inBlock, Exit.then]); refine bodyPost_ret_by (results_cell_row2 rfl _ _ w.heap.size 64 _ (0, 0) _ rfl heap_two rfl rfl (by kernel_rfl)) rfl ?_)
    exact ⟨StepSays.bad BAD.out (by omega), (((Below.refl _ _).alloc (Nat.le_refl _) _).alloc (by simp) _)⟩
end Go.Proofs.YtnheahologecfaaGreatDoor.Lg
/- LgRsB, what a claim needs of it (prune.py). -/
namespace Go.Proofs.YtnheahologecfaaGreatDoor.Lg
open Go.RowKit
set_option linter.unusedVariables false
set_option maxRecDepth 100000
theorem rstep_cat (ad : Addr) (y : ByteArray) (l : List ByteArray) (c : Nat) (w : World) (hr : Strs w (some ad) (⟨#[99, 97, 116]⟩ :: y :: l)) (hl : (y :: l).length ≤ 1000000) (hs : ∀ p ∈ y :: l, p.size ≤ 1000000) (hc : (y :: l).length + 1 ≤ c) :
    Calls Tryz.prog 179 #[.slice (some ad) ((y :: l).length + 1) c] w fun e w' => StepSays w' (fun b => b = ad.block) ([99, 97, 116] :: (y :: l).map tl) e ∧ Below w.heap.size w w' := by
  obtain ⟨_, h1, h2, h3⟩ := hr.at_ (k := 0) (by simp)
  injection h1 with h1
  subst h1
  have h4 : w.cell? ad = some (.string ⟨#[99, 97, 116]⟩) := h3
  have ht := hr.tail
  clear h3
  have LI := Lib.hid (fun W (hW : Below w.heap.size w W) => ht.lies hW)
  have SW := Lib.hid (stepW_cat ((y :: l).map tl))
  have c1 : ¬ c = 1 := by simp at hc; omega
  have RP : Hid (∀ W, Below w.heap.size w W → Calls Tryz.prog 241 #[.slice (some ⟨ad.block, ad.off + 1, none⟩) (y :: l).length (c - 1)] W fun e w' => e = .returned (.bool (allP (y :: l))) ∧ W = w') :=
    Lib.hid fun W hW => rpaths_any _ (y :: l) (c - 1) W (ht.below hW) (by omega) (fun p hp => by have := hs p hp; omega)
  rw [len_map, allP_map] at SW
  generalize y :: l = l at *
  have e1 : (1 : Int) ≤ ((l.length + 1 : Nat) : Int) := by omega
  have e2 : ((l.length + 1 : Nat) : Int) ≤ (c : Int) := by omega
  have e3 : (0 : Int) < ((l.length + 1 : Nat) : Int) := by omega
  clear hr ht hs
  by_cases hn : 2 ≤ l.length
  · have g1 : (2 : Int) ≤ (l.length : Int) := by omega
    by_cases hm : l.length ≤ 8
    · have g2 : (l.length : Int) ≤ 8 := by omega
      cases hp : allP l
      · have BAD := Lib.hid (SW.out.trans (if_neg (by rw [hp]; simp)))
        rw [hp] at RP
        clear hp hn hm SW
        go_enter Tryz.func179, Tryz.ntmps179
        go_wp2_with ((go_at_call 241; ((with_reducible refine (RP.out _ (((Below.refl _ _).alloc (Nat.le_refl _) _).alloc (by simp) _)).mono ?_); rintro e w1 ⟨rfl, rfl⟩)))
        ((try simp only [Exit.inBlock, Exit.then]); refine bodyPost_ret_by (results_cell_row2 rfl _ _ w.heap.size 64 _ (0, 0) _ rfl heap_two rfl rfl (by kernel_rfl)) rfl ?_)
        exact ⟨StepSays.bad BAD.out (by omega), (((Below.refl _ _).alloc (Nat.le_refl _) _).alloc (by simp) _)⟩
      · have GOOD := Lib.hid (SW.out.trans (if_pos ⟨hn, hm, hp⟩))
        rw [hp] at RP
        clear hp hn hm SW
        go_enter Tryz.func179, Tryz.ntmps179
        go_wp2_with ((go_at_call 241; ((with_reducible refine (RP.out _ (((Below.refl _ _).alloc (Nat.le_refl _) _).alloc (by simp) _)).mono ?_); rintro e w1 ⟨rfl, rfl⟩)))
        ((try simp only [Exit.inBlock, Exit.then]); refine bodyPost_ret_by (results_cell_row2 rfl _ _ w.heap.size 64 _ (0, 0) _ rfl heap_two rfl rfl (by kernel_rfl)) rfl ?_)
        exact ⟨StepSays.good GOOD.out (by omega) (by rw [len_map]) (LI.out _ (((Below.refl _ _).alloc (Nat.le_refl _) _).alloc (by simp) _)), (((Below.refl _ _).alloc (Nat.le_refl _) _).alloc (by simp) _)⟩
    · have g2 : ¬ (l.length : Int) ≤ 8 := by omega
      have BAD := Lib.hid (SW.out.trans (if_neg (fun h => hm h.2.1)))
      clear hn hm SW
      go_enter Tryz.func179, Tryz.ntmps179
      go_wp2_with (fail)
      ((try simp only [Exit.inBlock, Exit.then]); refine bodyPost_ret_by (results_cell_row2 rfl _ _ w.heap.size 64 _ (0, 0) _ rfl heap_two rfl rfl (by kernel_rfl)) rfl ?_)
      exact ⟨StepSays.bad BAD.out (by omega), (((Below.refl _ _).alloc (Nat.le_refl _) _).alloc (by simp) _)⟩
  · have g1 : ¬ (2 : Int) ≤ (l.length : Int) := by omega
    have BAD := Lib.hid (SW.out.trans (if_neg (fun h => hn h.1)))
    clear hn SW
    go_enter Tryz.func179, Tryz.ntmps179
    go_wp2_with (fail)
    ((try simp only [Exit.inBlock, Exit.then]); refine bodyPost_ret_by (results_cell_row2 rfl _ _ w.heap.size 64 _ (0, 0) _ rfl heap_two rfl rfl (by kernel_rfl)) rfl ?_)
    exact ⟨StepSays.bad BAD.out (by omega), (((Below.refl _ _).alloc (Nat.le_refl _) _).alloc (by simp) _)⟩
theorem rstep_put (ad : Addr) (y : ByteArray) (l : List ByteArray) (c : Nat) (w : World) (hr : Strs w (some ad) (⟨#[112, 117, 116]⟩ :: y :: l)) (hl : (y :: l).length ≤ 1000000) (hs : ∀ p ∈ y :: l, p.size ≤ 1000000) (hc : (y :: l).length + 1 ≤ c) :
    Calls Tryz.prog 179 #[.slice (some ad) ((y :: l).length + 1) c] w fun e w' => StepSays w' (fun b => b = ad.block) ([112, 117, 116] :: (y :: l).map tl) e ∧ Below w.heap.size w w' := by
  obtain ⟨_, h1, h2, h3⟩ := hr.at_ (k := 0) (by simp)
  injection h1 with h1
  subst h1
  have h4 : w.cell? ad = some (.string ⟨#[112, 117, 116]⟩) := h3
  have ht := hr.tail
  clear h3
  have LI := Lib.hid (fun W (hW : Below w.heap.size w W) => ht.lies hW)
  have SW := Lib.hid (stepW_put ((y :: l).map tl))
  have c1 : ¬ c = 1 := by simp at hc; omega
  rcases l with _ | ⟨z, _ | ⟨u, l⟩⟩
  · have BAD := Lib.hid (SW.out.trans (if_neg (by simp)))
    have e2 : (2 : Int) ≤ (c : Int) := by simp at hc; omega
    have hc2 : 2 ≤ c := by simp at hc; omega
    clear SW hr ht hs hl hc
    go_enter Tryz.func179, Tryz.ntmps179
    go_wp2_with (fail)
    ((try simp only [Exit.inBlock, Exit.then]); refine bodyPost_ret_by (results_cell_row2 rfl _ _ w.heap.size 64 _ (0, 0) _ rfl heap_two rfl rfl (by kernel_rfl)) rfl ?_)
    exact ⟨StepSays.bad BAD.out (by omega), (((Below.refl _ _).alloc (Nat.le_refl _) _).alloc (by simp) _)⟩
  · obtain ⟨_, k1, k2, k3⟩ := ht.at_ (k := 1) (by simp)
    injection k1 with k1
    subst k1
    have k4 : w.cell? ⟨ad.block, ad.off + 1 + 1, none⟩ = some (.string z) := k3
    have RT := Lib.hid (fun W => rtext_any z (by have := hs z (by simp); omega) W)
    have RP : Hid (∀ W, Below w.heap.size w W → Calls Tryz.prog 241 #[.slice (some ⟨ad.block, ad.off + 1, none⟩) 1 (c - 1)] W fun e w' => e = .returned (.bool (allP [y])) ∧ W = w') :=
      Lib.hid fun W hW => rpaths_any _ [y] (c - 1) W (ht.head.below hW) (by simp) (fun p hp => by have := hs p (by simp at hp; simp [hp]); omega)
    have e2 : (3 : Int) ≤ (c : Int) := by simp at hc; omega
    have e4 : (1 : Int) ≤ ((c - 1 : Nat) : Int) := by simp at hc; omega
    have hc2 : 3 ≤ c := by simp at hc; omega
    clear k3 hr ht hs hl hc
    cases hp : allP [y]
    · have BAD := Lib.hid (SW.out.trans (if_neg (by rw [← allP_map] at hp; intro h; have := h.2.1; simp at this hp; rw [hp] at this; cases this)))
      rw [hp] at RP
      clear hp SW
      go_enter Tryz.func179, Tryz.ntmps179
      go_wp2_with (first | (go_at_call 241; ((with_reducible refine (RP.out _ (((Below.refl _ _).alloc (Nat.le_refl _) _).alloc (by simp) _)).mono ?_); rintro e w1 ⟨rfl, rfl⟩)) | (go_at_call 242; ((with_reducible refine (RT.out _).mono ?_); rintro e w1 ⟨rfl, rfl⟩)))
      ((try simp only [Exit.inBlock, Exit.then]); refine bodyPost_ret_by (results_cell_row2 rfl _ _ w.heap.size 64 _ (0, 0) _ rfl heap_two rfl rfl (by kernel_rfl)) rfl ?_)
      exact ⟨StepSays.bad BAD.out (by omega), (((Below.refl _ _).alloc (Nat.le_refl _) _).alloc (by simp) _)⟩
    · cases hq : textOk (tl z)
      · have BAD := Lib.hid (SW.out.trans (if_neg (by simp [hq])))
        rw [hp] at RP
        rw [hq] at RT
        clear hp hq SW
        go_enter Tryz.func179, Tryz.ntmps179
        go_wp2_with (first | (go_at_call 241; ((with_reducible refine (RP.out _ (((Below.refl _ _).alloc (Nat.le_refl _) _).alloc (by simp) _)).mono ?_); rintro e w1 ⟨rfl, rfl⟩)) | (go_at_call 242; ((with_reducible refine (RT.out _).mono ?_); rintro e w1 ⟨rfl, rfl⟩)))
        ((try simp only [Exit.inBlock, Exit.then]); refine bodyPost_ret_by (results_cell_row2 rfl _ _ w.heap.size 64 _ (0, 0) _ rfl heap_two rfl rfl (by kernel_rfl)) rfl ?_)
        exact ⟨StepSays.bad BAD.out (by omega), (((Below.refl _ _).alloc (Nat.le_refl _) _).alloc (by simp) _)⟩
      · have GOOD := Lib.hid (SW.out.trans (if_pos (by rw [← allP_map] at hp; simp at hp; simp [hp, hq])))
        rw [hp] at RP
        rw [hq] at RT
        clear hp hq SW
        go_enter Tryz.func179, Tryz.ntmps179
        go_wp2_with (first | (go_at_call 241; ((with_reducible refine (RP.out _ (((Below.refl _ _).alloc (Nat.le_refl _) _).alloc (by simp) _)).mono ?_); rintro e w1 ⟨rfl, rfl⟩)) | (go_at_call 242; ((with_reducible refine (RT.out _).mono ?_); rintro e w1 ⟨rfl, rfl⟩)))
        ((try simp only [Exit.inBlock, Exit.then]); refine bodyPost_ret_by (results_cell_row2 rfl _ _ w.heap.size 64 _ (0, 0) _ rfl heap_two rfl rfl (by kernel_rfl)) rfl ?_)
        exact ⟨StepSays.good GOOD.out (by omega) (by simp) (LI.out _ (((Below.refl _ _).alloc (Nat.le_refl _) _).alloc (by simp) _)), (((Below.refl _ _).alloc (Nat.le_refl _) _).alloc (by simp) _)⟩
  · have BAD := Lib.hid (SW.out.trans (if_neg (by simp)))
    generalize hq : y :: z :: u :: l = q at *
    have g1 : ((q.length : Int) == 2) = false := by subst hq; simp; omega
    have e1 : (1 : Int) ≤ ((q.length + 1 : Nat) : Int) := by omega
    have e2 : ((q.length + 1 : Nat) : Int) ≤ (c : Int) := by omega
    have e3 : (0 : Int) < ((q.length + 1 : Nat) : Int) := by omega
    clear hq SW hr ht hs
    go_enter Tryz.func179, Tryz.ntmps179
    go_wp2_with (fail)
    ((try simp only [Exit.inBlock, Exit.then]); refine bodyPost_ret_by (results_cell_row2 rfl _ _ w.heap.size 64 _ (0, 0) _ rfl heap_two rfl rfl (by kernel_rfl)) rfl ?_)
    exact ⟨StepSays.bad BAD.out (by omega), (((Below.refl _ _).alloc (Nat.le_refl _) _).alloc (by simp) _)⟩
theorem rstep_need (ad : Addr) (y : ByteArray) (l : List ByteArray) (c : Nat) (w : World) (hr : Strs w (some ad) (⟨#[110, 101, 101, 100]⟩ :: y :: l)) (hl : (y :: l).length ≤ 1000000) (hs : ∀ p ∈ y :: l, p.size ≤ 1000000) (hc : (y :: l).length + 1 ≤ c) :
    Calls Tryz.prog 179 #[.slice (some ad) ((y :: l).length + 1) c] w fun e w' => StepSays w' (fun b => b = ad.block) ([110, 101, 101, 100] :: (y :: l).map tl) e ∧ Below w.heap.size w w' := by
  obtain ⟨_, h1, h2, h3⟩ := hr.at_ (k := 0) (by simp)
  injection h1 with h1
  subst h1
  have h4 : w.cell? ad = some (.string ⟨#[110, 101, 101, 100]⟩) := h3
  have ht := hr.tail
  clear h3
  have LI := Lib.hid (fun W (hW : Below w.heap.size w W) => ht.lies hW)
  have SW := Lib.hid (stepW_need ((y :: l).map tl))
  have c1 : ¬ c = 1 := by simp at hc; omega
  rcases l with _ | ⟨z, l⟩
  · obtain ⟨_, k1, k2, k3⟩ := ht.at_ (k := 0) (by simp)
    injection k1 with k1
    subst k1
    have k4 : w.cell? ⟨ad.block, ad.off + 1, none⟩ = some (.string y) := k3
    have RT := Lib.hid (fun W => rname_any y (by have := hs y (by simp); omega) W)
    have e2 : (2 : Int) ≤ (c : Int) := by simp at hc; omega
    have hc2 : 2 ≤ c := by simp at hc; omega
    clear k3 hr ht hs hl hc
    cases hp : nameOk (tl y)
    · have BAD := Lib.hid (SW.out.trans (if_neg (by simp [hp])))
      have N0 : nameE (tl y) = 14 := by rw [nameE, hp]; rfl
      rw [N0] at RT
      clear N0
      clear hp SW
      go_enter Tryz.func179, Tryz.ntmps179
      go_wp2_with ((go_at_call 89; ((with_reducible refine (RT.out _).mono ?_); rintro e w1 ⟨rfl, rfl⟩)))
      ((try simp only [Exit.inBlock, Exit.then]); refine bodyPost_ret_by (results_cell_row2 rfl _ _ w.heap.size 64 _ (0, 0) _ rfl heap_two rfl rfl (by kernel_rfl)) rfl ?_)
      exact ⟨StepSays.bad BAD.out (by omega), (((Below.refl _ _).alloc (Nat.le_refl _) _).alloc (by simp) _)⟩
    · have GOOD := Lib.hid (SW.out.trans (if_pos (by simp [hp])))
      have N0 : nameE (tl y) = 0 := by rw [nameE, hp]; rfl
      rw [N0] at RT
      clear N0
      clear hp SW
      go_enter Tryz.func179, Tryz.ntmps179
      go_wp2_with ((go_at_call 89; ((with_reducible refine (RT.out _).mono ?_); rintro e w1 ⟨rfl, rfl⟩)))
      ((try simp only [Exit.inBlock, Exit.then]); refine bodyPost_ret_by (results_cell_row2 rfl _ _ w.heap.size 64 _ (0, 0) _ rfl heap_two rfl rfl (by kernel_rfl)) rfl ?_)
      exact ⟨StepSays.good GOOD.out (by omega) (by simp) (LI.out _ (((Below.refl _ _).alloc (Nat.le_refl _) _).alloc (by simp) _)), (((Below.refl _ _).alloc (Nat.le_refl _) _).alloc (by simp) _)⟩
  · have BAD := Lib.hid (SW.out.trans (if_neg (by simp)))
    generalize hq : y :: z :: l = q at *
    have g1 : ((q.length : Int) == 1) = false := by subst hq; simp; omega
    have e1 : (1 : Int) ≤ ((q.length + 1 : Nat) : Int) := by omega
    have e2 : ((q.length + 1 : Nat) : Int) ≤ (c : Int) := by omega
    have e3 : (0 : Int) < ((q.length + 1 : Nat) : Int) := by omega
    clear hq SW hr ht hs
    go_enter Tryz.func179, Tryz.ntmps179
    go_wp2_with (fail)
    ((try simp only [Exit.inBlock, Exit.then]); refine bodyPost_ret_by (results_cell_row2 rfl _ _ w.heap.size 64 _ (0, 0) _ rfl heap_two rfl rfl (by kernel_rfl)) rfl ?_)
    exact ⟨StepSays.bad BAD.out (by omega), (((Below.refl _ _).alloc (Nat.le_refl _) _).alloc (by simp) _)⟩
theorem rstep_fail (ad : Addr) (y : ByteArray) (l : List ByteArray) (c : Nat) (w : World) (hr : Strs w (some ad) (⟨#[102, 97, 105, 108]⟩ :: y :: l)) (hl : (y :: l).length ≤ 1000000) (hs : ∀ p ∈ y :: l, p.size ≤ 1000000) (hc : (y :: l).length + 1 ≤ c) :
    Calls Tryz.prog 179 #[.slice (some ad) ((y :: l).length + 1) c] w fun e w' => StepSays w' (fun b => b = ad.block) ([102, 97, 105, 108] :: (y :: l).map tl) e ∧ Below w.heap.size w w' := by
  obtain ⟨_, h1, h2, h3⟩ := hr.at_ (k := 0) (by simp)
  injection h1 with h1
  subst h1
  have h4 : w.cell? ad = some (.string ⟨#[102, 97, 105, 108]⟩) := h3
  have ht := hr.tail
  clear h3
  have LI := Lib.hid (fun W (hW : Below w.heap.size w W) => ht.lies hW)
  have SW := Lib.hid (stepW_fail ((y :: l).map tl))
  have c1 : ¬ c = 1 := by simp at hc; omega
  rcases l with _ | ⟨z, l⟩
  · obtain ⟨_, k1, k2, k3⟩ := ht.at_ (k := 0) (by simp)
    injection k1 with k1
    subst k1
    have k4 : w.cell? ⟨ad.block, ad.off + 1, none⟩ = some (.string y) := k3
    have RT := Lib.hid (fun W => rtext_any y (by have := hs y (by simp); omega) W)
    have e2 : (2 : Int) ≤ (c : Int) := by simp at hc; omega
    have hc2 : 2 ≤ c := by simp at hc; omega
    clear k3 hr ht hs hl hc
    cases hp : textOk (tl y)
    · have BAD := Lib.hid (SW.out.trans (if_neg (by simp [hp])))
      rw [hp] at RT
      clear hp SW
      go_enter Tryz.func179, Tryz.ntmps179
      go_wp2_with ((go_at_call 242; ((with_reducible refine (RT.out _).mono ?_); rintro e w1 ⟨rfl, rfl⟩)))
      ((try simp only [Exit.inBlock, Exit.then]); refine bodyPost_ret_by (results_cell_row2 rfl _ _ w.heap.size 64 _ (0, 0) _ rfl heap_two rfl rfl (by kernel_rfl)) rfl ?_)
      exact ⟨StepSays.bad BAD.out (by omega), (((Below.refl _ _).alloc (Nat.le_refl _) _).alloc (by simp) _)⟩
    · have GOOD := Lib.hid (SW.out.trans (if_pos (by simp [hp])))
      rw [hp] at RT
      clear hp SW
      go_enter Tryz.func179, Tryz.ntmps179
      go_wp2_with ((go_at_call 242; ((with_reducible refine (RT.out _).mono ?_); rintro e w1 ⟨rfl, rfl⟩)))
      ((try simp only [Exit.inBlock, Exit.then]); refine bodyPost_ret_by (results_cell_row2 rfl _ _ w.heap.size 64 _ (0, 0) _ rfl heap_two rfl rfl (by kernel_rfl)) rfl ?_)
      exact ⟨StepSays.good GOOD.out (by omega) (by simp) (LI.out _ (((Below.refl _ _).alloc (Nat.le_refl _) _).alloc (by simp) _)), (((Below.refl _ _).alloc (Nat.le_refl _) _).alloc (by simp) _)⟩
  · have BAD := Lib.hid (SW.out.trans (if_neg (by simp)))
    generalize hq : y :: z :: l = q at *
    have g1 : ((q.length : Int) == 1) = false := by subst hq; simp; omega
    have e1 : (1 : Int) ≤ ((q.length + 1 : Nat) : Int) := by omega
    have e2 : ((q.length + 1 : Nat) : Int) ≤ (c : Int) := by omega
    have e3 : (0 : Int) < ((q.length + 1 : Nat) : Int) := by omega
    clear hq SW hr ht hs
    go_enter Tryz.func179, Tryz.ntmps179
    go_wp2_with (fail)
    ((try simp only [Exit.inBlock, Exit.then]); refine bodyPost_ret_by (results_cell_row2 rfl _ _ w.heap.size 64 _ (0, 0) _ rfl heap_two rfl rfl (by kernel_rfl)) rfl ?_)
    exact ⟨StepSays.bad BAD.out (by omega), (((Below.refl _ _).alloc (Nat.le_refl _) _).alloc (by simp) _)⟩
theorem rstep_loop (ad : Addr) (y : ByteArray) (l : List ByteArray) (c : Nat) (w : World) (hr : Strs w (some ad) (⟨#[108, 111, 111, 112]⟩ :: y :: l)) (hl : (y :: l).length ≤ 1000000) (hs : ∀ p ∈ y :: l, p.size ≤ 1000000) (hc : (y :: l).length + 1 ≤ c) :
    Calls Tryz.prog 179 #[.slice (some ad) ((y :: l).length + 1) c] w fun e w' => StepSays w' (fun b => b = ad.block) ([108, 111, 111, 112] :: (y :: l).map tl) e ∧ Below w.heap.size w w' := by
  obtain ⟨_, h1, h2, h3⟩ := hr.at_ (k := 0) (by simp)
  injection h1 with h1
  subst h1
  have h4 : w.cell? ad = some (.string ⟨#[108, 111, 111, 112]⟩) := h3
  have ht := hr.tail
  clear h3
  have LI := Lib.hid (fun W (hW : Below w.heap.size w W) => ht.lies hW)
  have SW := Lib.hid (stepW_loop ((y :: l).map tl))
  have c1 : ¬ c = 1 := by simp at hc; omega
  clear LI
  rcases l with _ | ⟨z, l⟩
  · obtain ⟨_, k1, k2, k3⟩ := ht.at_ (k := 0) (by simp)
    injection k1 with k1
    subst k1
    have k4 : w.cell? ⟨ad.block, ad.off + 1, none⟩ = some (.string y) := k3
    have RT := Lib.hid (fun W => rnumber_any y (by have := hs y (by simp); omega) W)
    have e2 : (2 : Int) ≤ (c : Int) := by simp at hc; omega
    have hc2 : 2 ≤ c := by simp at hc; omega
    clear k3 hr ht hs hl hc
    cases hp : number (tl y) with
    | none =>
      have BAD : Hid (stepW ([108, 111, 111, 112] :: [y].map tl) = none) := Lib.hid (SW.out.trans (by simp [hp]))
      rw [numV_none hp] at RT
      clear hp SW
      go_enter Tryz.func179, Tryz.ntmps179
      go_wp2_with ((go_at_call 243; ((with_reducible refine (RT.out _).mono ?_); rintro e w1 ⟨rfl, rfl⟩)))
      ((try simp only [Exit.inBlock, Exit.then]); refine bodyPost_ret_by (results_cell_row2 rfl _ _ w.heap.size 64 _ (0, 0) _ rfl heap_two rfl rfl (by kernel_rfl)) rfl ?_)
      exact ⟨StepSays.bad BAD.out (by omega), (((Below.refl _ _).alloc (Nat.le_refl _) _).alloc (by simp) _)⟩
    | some k =>
      have GOOD : Hid (stepW ([108, 111, 111, 112] :: [y].map tl) = some (9, [], (k : Int))) := Lib.hid (SW.out.trans (by simp [hp]))
      rw [numV_some hp] at RT
      clear hp SW
      go_enter Tryz.func179, Tryz.ntmps179
      go_wp2_with ((go_at_call 243; ((with_reducible refine (RT.out _).mono ?_); rintro e w1 ⟨rfl, rfl⟩)))
      ((try simp only [Exit.inBlock, Exit.then]); refine bodyPost_ret_by (results_cell_row2 rfl _ _ w.heap.size 64 _ (0, 0) _ rfl heap_two rfl rfl (by kernel_rfl)) rfl ?_)
      exact ⟨StepSays.good GOOD.out (by omega) rfl Lies.none_, (((Below.refl _ _).alloc (Nat.le_refl _) _).alloc (by simp) _)⟩
  · have BAD : Hid (stepW ([108, 111, 111, 112] :: (y :: z :: l).map tl) = none) := Lib.hid SW.out
    generalize hq : y :: z :: l = q at *
    have g1 : ((q.length : Int) == 1) = false := by subst hq; simp; omega
    have e1 : (1 : Int) ≤ ((q.length + 1 : Nat) : Int) := by omega
    have e2 : ((q.length + 1 : Nat) : Int) ≤ (c : Int) := by omega
    have e3 : (0 : Int) < ((q.length + 1 : Nat) : Int) := by omega
    clear hq SW hr ht hs
    go_enter Tryz.func179, Tryz.ntmps179
    go_wp2_with (fail)
    ((try simp only [Exit.inBlock, Exit.then]); refine bodyPost_ret_by (results_cell_row2 rfl _ _ w.heap.size 64 _ (0, 0) _ rfl heap_two rfl rfl (by kernel_rfl)) rfl ?_)
    exact ⟨StepSays.bad BAD.out (by omega), (((Below.refl _ _).alloc (Nat.le_refl _) _).alloc (by simp) _)⟩
end Go.Proofs.YtnheahologecfaaGreatDoor.Lg
