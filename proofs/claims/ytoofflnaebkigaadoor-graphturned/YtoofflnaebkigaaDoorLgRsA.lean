/- The contract of the reference's step at the words with paths behind them. -/
import Derived.Test.YtoofflnaebkigaaDoorLgStepB
namespace Go.Proofs.YtoofflnaebkigaaDoor.Lg
open Go.RowKit
set_option linter.unusedVariables false
set_option maxRecDepth 100000
theorem rstep_copy (ad : Addr) (y : ByteArray) (l : List ByteArray) (c : Nat) (w : World) (hr : Strs w (some ad) (⟨#[99, 111, 112, 121]⟩ :: y :: l)) (hl : (y :: l).length ≤ 1000000) (hs : ∀ p ∈ y :: l, p.size ≤ 1000000) (hc : (y :: l).length + 1 ≤ c) :
    Calls Tryd.prog 42 #[.slice (some ad) ((y :: l).length + 1) c] w fun e w' => StepSays w' (fun b => b = ad.block) ([99, 111, 112, 121] :: (y :: l).map tl) e ∧ Below w.heap.size w w' := by
  obtain ⟨_, h1, h2, h3⟩ := hr.at_ (k := 0) (by simp)
  injection h1 with h1
  subst h1
  have h4 : w.cell? ad = some (.string ⟨#[99, 111, 112, 121]⟩) := h3
  have ht := hr.tail
  clear h3
  have LI := Lib.hid (fun W (hW : Below w.heap.size w W) => ht.lies hW)
  have SW := Lib.hid (stepW_copy ((y :: l).map tl))
  have c1 : ¬ c = 1 := by simp at hc; omega
  have RP : Hid (∀ W, Below w.heap.size w W → Calls Tryd.prog 49 #[.slice (some ⟨ad.block, ad.off + 1, none⟩) (y :: l).length (c - 1)] W fun e w' => e = .returned (.bool (allP (y :: l))) ∧ W = w') :=
    Lib.hid fun W hW => rpaths_any _ (y :: l) (c - 1) W (ht.below hW) (by omega) (fun p hp => by have := hs p hp; omega)
  rw [len_map, allP_map] at SW
  generalize y :: l = l at *
  have e1 : (1 : Int) ≤ ((l.length + 1 : Nat) : Int) := by omega
  have e2 : ((l.length + 1 : Nat) : Int) ≤ (c : Int) := by omega
  have e3 : (0 : Int) < ((l.length + 1 : Nat) : Int) := by omega
  clear hr ht hs
  by_cases hn : l.length = 2
  · have g1 : ((l.length : Int) == 2) = true := by simp; omega
    cases hp : allP l
    · have BAD := Lib.hid (SW.out.trans (if_neg (by rw [hp]; simp)))
      rw [hp] at RP
      clear hp hn SW
      go_enter Tryd.func42, Tryd.ntmps42
      go_wp2_with ((go_at_call 49; ((with_reducible refine (RP.out _ (((Below.refl _ _).alloc (Nat.le_refl _) _).alloc (by simp) _)).mono ?_); rintro e w1 ⟨rfl, rfl⟩)))
      ((try simp only [Exit.inBlock, Exit.then]); refine bodyPost_ret_by (results_cell_row2 rfl _ _ w.heap.size 59 _ (0, 0) _ rfl heap_two rfl rfl (by kernel_rfl)) rfl ?_)
      exact ⟨StepSays.bad BAD.out (by omega), (((Below.refl _ _).alloc (Nat.le_refl _) _).alloc (by simp) _)⟩
    · have GOOD := Lib.hid (SW.out.trans (if_pos ⟨hn, hp⟩))
      rw [hp] at RP
      clear hp hn SW
      go_enter Tryd.func42, Tryd.ntmps42
      go_wp2_with ((go_at_call 49; ((with_reducible refine (RP.out _ (((Below.refl _ _).alloc (Nat.le_refl _) _).alloc (by simp) _)).mono ?_); rintro e w1 ⟨rfl, rfl⟩)))
      ((try simp only [Exit.inBlock, Exit.then]); refine bodyPost_ret_by (results_cell_row2 rfl _ _ w.heap.size 59 _ (0, 0) _ rfl heap_two rfl rfl (by kernel_rfl)) rfl ?_)
      exact ⟨StepSays.good GOOD.out (by omega) (by rw [len_map]) (LI.out _ (((Below.refl _ _).alloc (Nat.le_refl _) _).alloc (by simp) _)), (((Below.refl _ _).alloc (Nat.le_refl _) _).alloc (by simp) _)⟩
  · have g1 : ((l.length : Int) == 2) = false := by simp; omega
    have BAD := Lib.hid (SW.out.trans (if_neg (fun h => hn h.1)))
    clear hn SW
    go_enter Tryd.func42, Tryd.ntmps42
    go_wp2_with (fail)
    ((try simp only [Exit.inBlock, Exit.then]); refine bodyPost_ret_by (results_cell_row2 rfl _ _ w.heap.size 59 _ (0, 0) _ rfl heap_two rfl rfl (by kernel_rfl)) rfl ?_)
    exact ⟨StepSays.bad BAD.out (by omega), (((Below.refl _ _).alloc (Nat.le_refl _) _).alloc (by simp) _)⟩
theorem rstep_upper (ad : Addr) (y : ByteArray) (l : List ByteArray) (c : Nat) (w : World) (hr : Strs w (some ad) (⟨#[117, 112, 112, 101, 114]⟩ :: y :: l)) (hl : (y :: l).length ≤ 1000000) (hs : ∀ p ∈ y :: l, p.size ≤ 1000000) (hc : (y :: l).length + 1 ≤ c) :
    Calls Tryd.prog 42 #[.slice (some ad) ((y :: l).length + 1) c] w fun e w' => StepSays w' (fun b => b = ad.block) ([117, 112, 112, 101, 114] :: (y :: l).map tl) e ∧ Below w.heap.size w w' := by
  obtain ⟨_, h1, h2, h3⟩ := hr.at_ (k := 0) (by simp)
  injection h1 with h1
  subst h1
  have h4 : w.cell? ad = some (.string ⟨#[117, 112, 112, 101, 114]⟩) := h3
  have ht := hr.tail
  clear h3
  have LI := Lib.hid (fun W (hW : Below w.heap.size w W) => ht.lies hW)
  have SW := Lib.hid (stepW_upper ((y :: l).map tl))
  have c1 : ¬ c = 1 := by simp at hc; omega
  have RP : Hid (∀ W, Below w.heap.size w W → Calls Tryd.prog 49 #[.slice (some ⟨ad.block, ad.off + 1, none⟩) (y :: l).length (c - 1)] W fun e w' => e = .returned (.bool (allP (y :: l))) ∧ W = w') :=
    Lib.hid fun W hW => rpaths_any _ (y :: l) (c - 1) W (ht.below hW) (by omega) (fun p hp => by have := hs p hp; omega)
  rw [len_map, allP_map] at SW
  generalize y :: l = l at *
  have e1 : (1 : Int) ≤ ((l.length + 1 : Nat) : Int) := by omega
  have e2 : ((l.length + 1 : Nat) : Int) ≤ (c : Int) := by omega
  have e3 : (0 : Int) < ((l.length + 1 : Nat) : Int) := by omega
  clear hr ht hs
  by_cases hn : l.length = 1
  · have g1 : ((l.length : Int) == 1) = true := by simp; omega
    cases hp : allP l
    · have BAD := Lib.hid (SW.out.trans (if_neg (by rw [hp]; simp)))
      rw [hp] at RP
      clear hp hn SW
      go_enter Tryd.func42, Tryd.ntmps42
      go_wp2_with ((go_at_call 49; ((with_reducible refine (RP.out _ (((Below.refl _ _).alloc (Nat.le_refl _) _).alloc (by simp) _)).mono ?_); rintro e w1 ⟨rfl, rfl⟩)))
      ((try simp only [Exit.inBlock, Exit.then]); refine bodyPost_ret_by (results_cell_row2 rfl _ _ w.heap.size 59 _ (0, 0) _ rfl heap_two rfl rfl (by kernel_rfl)) rfl ?_)
      exact ⟨StepSays.bad BAD.out (by omega), (((Below.refl _ _).alloc (Nat.le_refl _) _).alloc (by simp) _)⟩
    · have GOOD := Lib.hid (SW.out.trans (if_pos ⟨hn, hp⟩))
      rw [hp] at RP
      clear hp hn SW
      go_enter Tryd.func42, Tryd.ntmps42
      go_wp2_with ((go_at_call 49; ((with_reducible refine (RP.out _ (((Below.refl _ _).alloc (Nat.le_refl _) _).alloc (by simp) _)).mono ?_); rintro e w1 ⟨rfl, rfl⟩)))
      ((try simp only [Exit.inBlock, Exit.then]); refine bodyPost_ret_by (results_cell_row2 rfl _ _ w.heap.size 59 _ (0, 0) _ rfl heap_two rfl rfl (by kernel_rfl)) rfl ?_)
      exact ⟨StepSays.good GOOD.out (by omega) (by rw [len_map]) (LI.out _ (((Below.refl _ _).alloc (Nat.le_refl _) _).alloc (by simp) _)), (((Below.refl _ _).alloc (Nat.le_refl _) _).alloc (by simp) _)⟩
  · have g1 : ((l.length : Int) == 1) = false := by simp; omega
    have BAD := Lib.hid (SW.out.trans (if_neg (fun h => hn h.1)))
    clear hn SW
    go_enter Tryd.func42, Tryd.ntmps42
    go_wp2_with (fail)
    ((try simp only [Exit.inBlock, Exit.then]); refine bodyPost_ret_by (results_cell_row2 rfl _ _ w.heap.size 59 _ (0, 0) _ rfl heap_two rfl rfl (by kernel_rfl)) rfl ?_)
    exact ⟨StepSays.bad BAD.out (by omega), (((Below.refl _ _).alloc (Nat.le_refl _) _).alloc (by simp) _)⟩
theorem rstep_sort (ad : Addr) (y : ByteArray) (l : List ByteArray) (c : Nat) (w : World) (hr : Strs w (some ad) (⟨#[115, 111, 114, 116]⟩ :: y :: l)) (hl : (y :: l).length ≤ 1000000) (hs : ∀ p ∈ y :: l, p.size ≤ 1000000) (hc : (y :: l).length + 1 ≤ c) :
    Calls Tryd.prog 42 #[.slice (some ad) ((y :: l).length + 1) c] w fun e w' => StepSays w' (fun b => b = ad.block) ([115, 111, 114, 116] :: (y :: l).map tl) e ∧ Below w.heap.size w w' := by
  obtain ⟨_, h1, h2, h3⟩ := hr.at_ (k := 0) (by simp)
  injection h1 with h1
  subst h1
  have h4 : w.cell? ad = some (.string ⟨#[115, 111, 114, 116]⟩) := h3
  have ht := hr.tail
  clear h3
  have LI := Lib.hid (fun W (hW : Below w.heap.size w W) => ht.lies hW)
  have SW := Lib.hid (stepW_sort ((y :: l).map tl))
  have c1 : ¬ c = 1 := by simp at hc; omega
  have RP : Hid (∀ W, Below w.heap.size w W → Calls Tryd.prog 49 #[.slice (some ⟨ad.block, ad.off + 1, none⟩) (y :: l).length (c - 1)] W fun e w' => e = .returned (.bool (allP (y :: l))) ∧ W = w') :=
    Lib.hid fun W hW => rpaths_any _ (y :: l) (c - 1) W (ht.below hW) (by omega) (fun p hp => by have := hs p hp; omega)
  rw [len_map, allP_map] at SW
  generalize y :: l = l at *
  have e1 : (1 : Int) ≤ ((l.length + 1 : Nat) : Int) := by omega
  have e2 : ((l.length + 1 : Nat) : Int) ≤ (c : Int) := by omega
  have e3 : (0 : Int) < ((l.length + 1 : Nat) : Int) := by omega
  clear hr ht hs
  by_cases hn : l.length = 1
  · have g1 : ((l.length : Int) == 1) = true := by simp; omega
    cases hp : allP l
    · have BAD := Lib.hid (SW.out.trans (if_neg (by rw [hp]; simp)))
      rw [hp] at RP
      clear hp hn SW
      go_enter Tryd.func42, Tryd.ntmps42
      go_wp2_with ((go_at_call 49; ((with_reducible refine (RP.out _ (((Below.refl _ _).alloc (Nat.le_refl _) _).alloc (by simp) _)).mono ?_); rintro e w1 ⟨rfl, rfl⟩)))
      ((try simp only [Exit.inBlock, Exit.then]); refine bodyPost_ret_by (results_cell_row2 rfl _ _ w.heap.size 59 _ (0, 0) _ rfl heap_two rfl rfl (by kernel_rfl)) rfl ?_)
      exact ⟨StepSays.bad BAD.out (by omega), (((Below.refl _ _).alloc (Nat.le_refl _) _).alloc (by simp) _)⟩
    · have GOOD := Lib.hid (SW.out.trans (if_pos ⟨hn, hp⟩))
      rw [hp] at RP
      clear hp hn SW
      go_enter Tryd.func42, Tryd.ntmps42
      go_wp2_with ((go_at_call 49; ((with_reducible refine (RP.out _ (((Below.refl _ _).alloc (Nat.le_refl _) _).alloc (by simp) _)).mono ?_); rintro e w1 ⟨rfl, rfl⟩)))
      ((try simp only [Exit.inBlock, Exit.then]); refine bodyPost_ret_by (results_cell_row2 rfl _ _ w.heap.size 59 _ (0, 0) _ rfl heap_two rfl rfl (by kernel_rfl)) rfl ?_)
      exact ⟨StepSays.good GOOD.out (by omega) (by rw [len_map]) (LI.out _ (((Below.refl _ _).alloc (Nat.le_refl _) _).alloc (by simp) _)), (((Below.refl _ _).alloc (Nat.le_refl _) _).alloc (by simp) _)⟩
  · have g1 : ((l.length : Int) == 1) = false := by simp; omega
    have BAD := Lib.hid (SW.out.trans (if_neg (fun h => hn h.1)))
    clear hn SW
    go_enter Tryd.func42, Tryd.ntmps42
    go_wp2_with (fail)
    ((try simp only [Exit.inBlock, Exit.then]); refine bodyPost_ret_by (results_cell_row2 rfl _ _ w.heap.size 59 _ (0, 0) _ rfl heap_two rfl rfl (by kernel_rfl)) rfl ?_)
    exact ⟨StepSays.bad BAD.out (by omega), (((Below.refl _ _).alloc (Nat.le_refl _) _).alloc (by simp) _)⟩
theorem rstep_drop (ad : Addr) (y : ByteArray) (l : List ByteArray) (c : Nat) (w : World) (hr : Strs w (some ad) (⟨#[100, 114, 111, 112]⟩ :: y :: l)) (hl : (y :: l).length ≤ 1000000) (hs : ∀ p ∈ y :: l, p.size ≤ 1000000) (hc : (y :: l).length + 1 ≤ c) :
    Calls Tryd.prog 42 #[.slice (some ad) ((y :: l).length + 1) c] w fun e w' => StepSays w' (fun b => b = ad.block) ([100, 114, 111, 112] :: (y :: l).map tl) e ∧ Below w.heap.size w w' := by
  obtain ⟨_, h1, h2, h3⟩ := hr.at_ (k := 0) (by simp)
  injection h1 with h1
  subst h1
  have h4 : w.cell? ad = some (.string ⟨#[100, 114, 111, 112]⟩) := h3
  have ht := hr.tail
  clear h3
  have LI := Lib.hid (fun W (hW : Below w.heap.size w W) => ht.lies hW)
  have SW := Lib.hid (stepW_drop ((y :: l).map tl))
  have c1 : ¬ c = 1 := by simp at hc; omega
  have RP : Hid (∀ W, Below w.heap.size w W → Calls Tryd.prog 49 #[.slice (some ⟨ad.block, ad.off + 1, none⟩) (y :: l).length (c - 1)] W fun e w' => e = .returned (.bool (allP (y :: l))) ∧ W = w') :=
    Lib.hid fun W hW => rpaths_any _ (y :: l) (c - 1) W (ht.below hW) (by omega) (fun p hp => by have := hs p hp; omega)
  rw [len_map, allP_map] at SW
  generalize y :: l = l at *
  have e1 : (1 : Int) ≤ ((l.length + 1 : Nat) : Int) := by omega
  have e2 : ((l.length + 1 : Nat) : Int) ≤ (c : Int) := by omega
  have e3 : (0 : Int) < ((l.length + 1 : Nat) : Int) := by omega
  clear hr ht hs
  by_cases hn : l.length = 1
  · have g1 : ((l.length : Int) == 1) = true := by simp; omega
    cases hp : allP l
    · have BAD := Lib.hid (SW.out.trans (if_neg (by rw [hp]; simp)))
      rw [hp] at RP
      clear hp hn SW
      go_enter Tryd.func42, Tryd.ntmps42
      go_wp2_with ((go_at_call 49; ((with_reducible refine (RP.out _ (((Below.refl _ _).alloc (Nat.le_refl _) _).alloc (by simp) _)).mono ?_); rintro e w1 ⟨rfl, rfl⟩)))
      ((try simp only [Exit.inBlock, Exit.then]); refine bodyPost_ret_by (results_cell_row2 rfl _ _ w.heap.size 59 _ (0, 0) _ rfl heap_two rfl rfl (by kernel_rfl)) rfl ?_)
      exact ⟨StepSays.bad BAD.out (by omega), (((Below.refl _ _).alloc (Nat.le_refl _) _).alloc (by simp) _)⟩
    · have GOOD := Lib.hid (SW.out.trans (if_pos ⟨hn, hp⟩))
      rw [hp] at RP
      clear hp hn SW
      go_enter Tryd.func42, Tryd.ntmps42
      go_wp2_with ((go_at_call 49; ((with_reducible refine (RP.out _ (((Below.refl _ _).alloc (Nat.le_refl _) _).alloc (by simp) _)).mono ?_); rintro e w1 ⟨rfl, rfl⟩)))
      ((try simp only [Exit.inBlock, Exit.then]); refine bodyPost_ret_by (results_cell_row2 rfl _ _ w.heap.size 59 _ (0, 0) _ rfl heap_two rfl rfl (by kernel_rfl)) rfl ?_)
      exact ⟨StepSays.good GOOD.out (by omega) (by rw [len_map]) (LI.out _ (((Below.refl _ _).alloc (Nat.le_refl _) _).alloc (by simp) _)), (((Below.refl _ _).alloc (Nat.le_refl _) _).alloc (by simp) _)⟩
  · have g1 : ((l.length : Int) == 1) = false := by simp; omega
    have BAD := Lib.hid (SW.out.trans (if_neg (fun h => hn h.1)))
    clear hn SW
    go_enter Tryd.func42, Tryd.ntmps42
    go_wp2_with (fail)
    ((try simp only [Exit.inBlock, Exit.then]); refine bodyPost_ret_by (results_cell_row2 rfl _ _ w.heap.size 59 _ (0, 0) _ rfl heap_two rfl rfl (by kernel_rfl)) rfl ?_)
    exact ⟨StepSays.bad BAD.out (by omega), (((Below.refl _ _).alloc (Nat.le_refl _) _).alloc (by simp) _)⟩
theorem rstep_if (ad : Addr) (y : ByteArray) (l : List ByteArray) (c : Nat) (w : World) (hr : Strs w (some ad) (⟨#[105, 102]⟩ :: y :: l)) (hl : (y :: l).length ≤ 1000000) (hs : ∀ p ∈ y :: l, p.size ≤ 1000000) (hc : (y :: l).length + 1 ≤ c) :
    Calls Tryd.prog 42 #[.slice (some ad) ((y :: l).length + 1) c] w fun e w' => StepSays w' (fun b => b = ad.block) ([105, 102] :: (y :: l).map tl) e ∧ Below w.heap.size w w' := by
  obtain ⟨_, h1, h2, h3⟩ := hr.at_ (k := 0) (by simp)
  injection h1 with h1
  subst h1
  have h4 : w.cell? ad = some (.string ⟨#[105, 102]⟩) := h3
  have ht := hr.tail
  clear h3
  have LI := Lib.hid (fun W (hW : Below w.heap.size w W) => ht.lies hW)
  have SW := Lib.hid (stepW_if ((y :: l).map tl))
  have c1 : ¬ c = 1 := by simp at hc; omega
  have RP : Hid (∀ W, Below w.heap.size w W → Calls Tryd.prog 49 #[.slice (some ⟨ad.block, ad.off + 1, none⟩) (y :: l).length (c - 1)] W fun e w' => e = .returned (.bool (allP (y :: l))) ∧ W = w') :=
    Lib.hid fun W hW => rpaths_any _ (y :: l) (c - 1) W (ht.below hW) (by omega) (fun p hp => by have := hs p hp; omega)
  rw [len_map, allP_map] at SW
  generalize y :: l = l at *
  have e1 : (1 : Int) ≤ ((l.length + 1 : Nat) : Int) := by omega
  have e2 : ((l.length + 1 : Nat) : Int) ≤ (c : Int) := by omega
  have e3 : (0 : Int) < ((l.length + 1 : Nat) : Int) := by omega
  clear hr ht hs
  by_cases hn : l.length = 1
  · have g1 : ((l.length : Int) == 1) = true := by simp; omega
    cases hp : allP l
    · have BAD := Lib.hid (SW.out.trans (if_neg (by rw [hp]; simp)))
      rw [hp] at RP
      clear hp hn SW
      go_enter Tryd.func42, Tryd.ntmps42
      go_wp2_with ((go_at_call 49; ((with_reducible refine (RP.out _ (((Below.refl _ _).alloc (Nat.le_refl _) _).alloc (by simp) _)).mono ?_); rintro e w1 ⟨rfl, rfl⟩)))
      ((try simp only [Exit.inBlock, Exit.then]); refine bodyPost_ret_by (results_cell_row2 rfl _ _ w.heap.size 59 _ (0, 0) _ rfl heap_two rfl rfl (by kernel_rfl)) rfl ?_)
      exact ⟨StepSays.bad BAD.out (by omega), (((Below.refl _ _).alloc (Nat.le_refl _) _).alloc (by simp) _)⟩
    · have GOOD := Lib.hid (SW.out.trans (if_pos ⟨hn, hp⟩))
      rw [hp] at RP
      clear hp hn SW
      go_enter Tryd.func42, Tryd.ntmps42
      go_wp2_with ((go_at_call 49; ((with_reducible refine (RP.out _ (((Below.refl _ _).alloc (Nat.le_refl _) _).alloc (by simp) _)).mono ?_); rintro e w1 ⟨rfl, rfl⟩)))
      ((try simp only [Exit.inBlock, Exit.then]); refine bodyPost_ret_by (results_cell_row2 rfl _ _ w.heap.size 59 _ (0, 0) _ rfl heap_two rfl rfl (by kernel_rfl)) rfl ?_)
      exact ⟨StepSays.good GOOD.out (by omega) (by rw [len_map]) (LI.out _ (((Below.refl _ _).alloc (Nat.le_refl _) _).alloc (by simp) _)), (((Below.refl _ _).alloc (Nat.le_refl _) _).alloc (by simp) _)⟩
  · have g1 : ((l.length : Int) == 1) = false := by simp; omega
    have BAD := Lib.hid (SW.out.trans (if_neg (fun h => hn h.1)))
    clear hn SW
    go_enter Tryd.func42, Tryd.ntmps42
    go_wp2_with (fail)
    ((try simp only [Exit.inBlock, Exit.then]); refine bodyPost_ret_by (results_cell_row2 rfl _ _ w.heap.size 59 _ (0, 0) _ rfl heap_two rfl rfl (by kernel_rfl)) rfl ?_)
    exact ⟨StepSays.bad BAD.out (by omega), (((Below.refl _ _).alloc (Nat.le_refl _) _).alloc (by simp) _)⟩
end Go.Proofs.YtoofflnaebkigaaDoor.Lg
