/- The contract of the reference's step at 'cat', 'put', 'need', 'fail', 'loop'. -/
import Derived.Test.YtoofflnaebkigaaDoorLgStepB
namespace Go.Proofs.YtoofflnaebkigaaDoor.Lg
open Go.RowKit
set_option linter.unusedVariables false
set_option maxRecDepth 100000
theorem rstep_cat (ad : Addr) (y : ByteArray) (l : List ByteArray) (c : Nat) (w : World) (hr : Strs w (some ad) (⟨#[99, 97, 116]⟩ :: y :: l)) (hl : (y :: l).length ≤ 1000000) (hs : ∀ p ∈ y :: l, p.size ≤ 1000000) (hc : (y :: l).length + 1 ≤ c) :
    Calls Tryd.prog 42 #[.slice (some ad) ((y :: l).length + 1) c] w fun e w' => StepSays w' (fun b => b = ad.block) ([99, 97, 116] :: (y :: l).map tl) e ∧ Below w.heap.size w w' := by
  obtain ⟨_, h1, h2, h3⟩ := hr.at_ (k := 0) (by simp)
  injection h1 with h1
  subst h1
  have h4 : w.cell? ad = some (.string ⟨#[99, 97, 116]⟩) := h3
  have ht := hr.tail
  clear h3
  have LI := Lib.hid (fun W (hW : Below w.heap.size w W) => ht.lies hW)
  have SW := Lib.hid (stepW_cat ((y :: l).map tl))
  have c1 : ¬ c = 1 := by simp at hc; omega
  have RP : Hid (∀ W, Below w.heap.size w W → Calls Tryd.prog 49 #[.slice (some ⟨ad.block, ad.off + 1, none⟩) (y :: l).length (c - 1)] W fun e w' => e = .returned (.bool (allP (y :: l))) ∧ W = w') :=
    Lib.hid fun W hW => rpaths_any _ (y :: l) (c - 1) W (ht.below hW) (by omega) (fun p hp => by have := hs p hp; omega)
  rw [len_map, allP_map] at SW
  generalize y :: l = l at *
  have e1 : (1 : Int) ≤ ((l.length + 1 : Nat) : Int) := by omega
  have e2 : ((l.length + 1 : Nat) : Int) ≤ (c : Int) := by omega
  have e3 : (0 : Int) < ((l.length + 1 : Nat) : Int) := by omega
  clear hr ht hs
  by_cases hn : 2 ≤ l.length
  · have g1 : (2 : Int) ≤ (l.length : Int) := by omega
    by_cases hm : l.length ≤ 8
    · have g2 : (l.length : Int) ≤ 8 := by omega
      cases hp : allP l
      · have BAD := Lib.hid (SW.out.trans (if_neg (by rw [hp]; simp)))
        rw [hp] at RP
        clear hp hn hm SW
        go_enter Tryd.func42, Tryd.ntmps42
        go_wp2_with ((go_at_call 49; ((with_reducible refine (RP.out _ (((Below.refl _ _).alloc (Nat.le_refl _) _).alloc (by simp) _)).mono ?_); rintro e w1 ⟨rfl, rfl⟩)))
        ((try simp only [Exit.inBlock, Exit.then]); refine bodyPost_ret_by (results_cell_row2 rfl _ _ w.heap.size 59 _ (0, 0) _ rfl heap_two rfl rfl (by kernel_rfl)) rfl ?_)
        exact ⟨StepSays.bad BAD.out (by omega), (((Below.refl _ _).alloc (Nat.le_refl _) _).alloc (by simp) _)⟩
      · have GOOD := Lib.hid (SW.out.trans (if_pos ⟨hn, hm, hp⟩))
        rw [hp] at RP
        clear hp hn hm SW
        go_enter Tryd.func42, Tryd.ntmps42
        go_wp2_with ((go_at_call 49; ((with_reducible refine (RP.out _ (((Below.refl _ _).alloc (Nat.le_refl _) _).alloc (by simp) _)).mono ?_); rintro e w1 ⟨rfl, rfl⟩)))
        ((try simp only [Exit.inBlock, Exit.then]); refine bodyPost_ret_by (results_cell_row2 rfl _ _ w.heap.size 59 _ (0, 0) _ rfl heap_two rfl rfl (by kernel_rfl)) rfl ?_)
        exact ⟨StepSays.good GOOD.out (by omega) (by rw [len_map]) (LI.out _ (((Below.refl _ _).alloc (Nat.le_refl _) _).alloc (by simp) _)), (((Below.refl _ _).alloc (Nat.le_refl _) _).alloc (by simp) _)⟩
    · have g2 : ¬ (l.length : Int) ≤ 8 := by omega
      have BAD := Lib.hid (SW.out.trans (if_neg (fun h => hm h.2.1)))
      clear hn hm SW
      go_enter Tryd.func42, Tryd.ntmps42
      go_wp2_with (fail)
      ((try simp only [Exit.inBlock, Exit.then]); refine bodyPost_ret_by (results_cell_row2 rfl _ _ w.heap.size 59 _ (0, 0) _ rfl heap_two rfl rfl (by kernel_rfl)) rfl ?_)
      exact ⟨StepSays.bad BAD.out (by omega), (((Below.refl _ _).alloc (Nat.le_refl _) _).alloc (by simp) _)⟩
  · have g1 : ¬ (2 : Int) ≤ (l.length : Int) := by omega
    have BAD := Lib.hid (SW.out.trans (if_neg (fun h => hn h.1)))
    clear hn SW
    go_enter Tryd.func42, Tryd.ntmps42
    go_wp2_with (fail)
    ((try simp only [Exit.inBlock, Exit.then]); refine bodyPost_ret_by (results_cell_row2 rfl _ _ w.heap.size 59 _ (0, 0) _ rfl heap_two rfl rfl (by kernel_rfl)) rfl ?_)
    exact ⟨StepSays.bad BAD.out (by omega), (((Below.refl _ _).alloc (Nat.le_refl _) _).alloc (by simp) _)⟩
theorem rstep_put (ad : Addr) (y : ByteArray) (l : List ByteArray) (c : Nat) (w : World) (hr : Strs w (some ad) (⟨#[112, 117, 116]⟩ :: y :: l)) (hl : (y :: l).length ≤ 1000000) (hs : ∀ p ∈ y :: l, p.size ≤ 1000000) (hc : (y :: l).length + 1 ≤ c) :
    Calls Tryd.prog 42 #[.slice (some ad) ((y :: l).length + 1) c] w fun e w' => StepSays w' (fun b => b = ad.block) ([112, 117, 116] :: (y :: l).map tl) e ∧ Below w.heap.size w w' := by
  obtain ⟨_, h1, h2, h3⟩ := hr.at_ (k := 0) (by simp)
  injection h1 with h1
  subst h1
  have h4 : w.cell? ad = some (.string ⟨#[112, 117, 116]⟩) := h3
  have ht := hr.tail
  clear h3
  have LI := Lib.hid (fun W (hW : Below w.heap.size w W) => ht.lies hW)
  have SW := Lib.hid (stepW_put ((y :: l).map tl))
  have c1 : ¬ c = 1 := by simp at hc; omega
  rcases l with _ | ⟨z, _ | ⟨u, l⟩⟩
  · have BAD := Lib.hid (SW.out.trans (if_neg (by simp)))
    have e2 : (2 : Int) ≤ (c : Int) := by simp at hc; omega
    have hc2 : 2 ≤ c := by simp at hc; omega
    clear SW hr ht hs hl hc
    go_enter Tryd.func42, Tryd.ntmps42
    go_wp2_with (fail)
    ((try simp only [Exit.inBlock, Exit.then]); refine bodyPost_ret_by (results_cell_row2 rfl _ _ w.heap.size 59 _ (0, 0) _ rfl heap_two rfl rfl (by kernel_rfl)) rfl ?_)
    exact ⟨StepSays.bad BAD.out (by omega), (((Below.refl _ _).alloc (Nat.le_refl _) _).alloc (by simp) _)⟩
  · obtain ⟨_, k1, k2, k3⟩ := ht.at_ (k := 1) (by simp)
    injection k1 with k1
    subst k1
    have k4 : w.cell? ⟨ad.block, ad.off + 1 + 1, none⟩ = some (.string z) := k3
    have RT := Lib.hid (fun W => rtext_any z (by have := hs z (by simp); omega) W)
    have RP : Hid (∀ W, Below w.heap.size w W → Calls Tryd.prog 49 #[.slice (some ⟨ad.block, ad.off + 1, none⟩) 1 (c - 1)] W fun e w' => e = .returned (.bool (allP [y])) ∧ W = w') :=
      Lib.hid fun W hW => rpaths_any _ [y] (c - 1) W (ht.head.below hW) (by simp) (fun p hp => by have := hs p (by simp at hp; simp [hp]); omega)
    have e2 : (3 : Int) ≤ (c : Int) := by simp at hc; omega
    have e4 : (1 : Int) ≤ ((c - 1 : Nat) : Int) := by simp at hc; omega
    have hc2 : 3 ≤ c := by simp at hc; omega
    clear k3 hr ht hs hl hc
    cases hp : allP [y]
    · have BAD := Lib.hid (SW.out.trans (if_neg (by rw [← allP_map] at hp; intro h; have := h.2.1; simp at this hp; rw [hp] at this; cases this)))
      rw [hp] at RP
      clear hp SW
      go_enter Tryd.func42, Tryd.ntmps42
      go_wp2_with (first | (go_at_call 49; ((with_reducible refine (RP.out _ (((Below.refl _ _).alloc (Nat.le_refl _) _).alloc (by simp) _)).mono ?_); rintro e w1 ⟨rfl, rfl⟩)) | (go_at_call 50; ((with_reducible refine (RT.out _).mono ?_); rintro e w1 ⟨rfl, rfl⟩)))
      ((try simp only [Exit.inBlock, Exit.then]); refine bodyPost_ret_by (results_cell_row2 rfl _ _ w.heap.size 59 _ (0, 0) _ rfl heap_two rfl rfl (by kernel_rfl)) rfl ?_)
      exact ⟨StepSays.bad BAD.out (by omega), (((Below.refl _ _).alloc (Nat.le_refl _) _).alloc (by simp) _)⟩
    · cases hq : textOk (tl z)
      · have BAD := Lib.hid (SW.out.trans (if_neg (by simp [hq])))
        rw [hp] at RP
        rw [hq] at RT
        clear hp hq SW
        go_enter Tryd.func42, Tryd.ntmps42
        go_wp2_with (first | (go_at_call 49; ((with_reducible refine (RP.out _ (((Below.refl _ _).alloc (Nat.le_refl _) _).alloc (by simp) _)).mono ?_); rintro e w1 ⟨rfl, rfl⟩)) | (go_at_call 50; ((with_reducible refine (RT.out _).mono ?_); rintro e w1 ⟨rfl, rfl⟩)))
        ((try simp only [Exit.inBlock, Exit.then]); refine bodyPost_ret_by (results_cell_row2 rfl _ _ w.heap.size 59 _ (0, 0) _ rfl heap_two rfl rfl (by kernel_rfl)) rfl ?_)
        exact ⟨StepSays.bad BAD.out (by omega), (((Below.refl _ _).alloc (Nat.le_refl _) _).alloc (by simp) _)⟩
      · have GOOD := Lib.hid (SW.out.trans (if_pos (by rw [← allP_map] at hp; simp at hp; simp [hp, hq])))
        rw [hp] at RP
        rw [hq] at RT
        clear hp hq SW
        go_enter Tryd.func42, Tryd.ntmps42
        go_wp2_with (first | (go_at_call 49; ((with_reducible refine (RP.out _ (((Below.refl _ _).alloc (Nat.le_refl _) _).alloc (by simp) _)).mono ?_); rintro e w1 ⟨rfl, rfl⟩)) | (go_at_call 50; ((with_reducible refine (RT.out _).mono ?_); rintro e w1 ⟨rfl, rfl⟩)))
        ((try simp only [Exit.inBlock, Exit.then]); refine bodyPost_ret_by (results_cell_row2 rfl _ _ w.heap.size 59 _ (0, 0) _ rfl heap_two rfl rfl (by kernel_rfl)) rfl ?_)
        exact ⟨StepSays.good GOOD.out (by omega) (by simp) (LI.out _ (((Below.refl _ _).alloc (Nat.le_refl _) _).alloc (by simp) _)), (((Below.refl _ _).alloc (Nat.le_refl _) _).alloc (by simp) _)⟩
  · have BAD := Lib.hid (SW.out.trans (if_neg (by simp)))
    generalize hq : y :: z :: u :: l = q at *
    have g1 : ((q.length : Int) == 2) = false := by subst hq; simp; omega
    have e1 : (1 : Int) ≤ ((q.length + 1 : Nat) : Int) := by omega
    have e2 : ((q.length + 1 : Nat) : Int) ≤ (c : Int) := by omega
    have e3 : (0 : Int) < ((q.length + 1 : Nat) : Int) := by omega
    clear hq SW hr ht hs
    go_enter Tryd.func42, Tryd.ntmps42
    go_wp2_with (fail)
    ((try simp only [Exit.inBlock, Exit.then]); refine bodyPost_ret_by (results_cell_row2 rfl _ _ w.heap.size 59 _ (0, 0) _ rfl heap_two rfl rfl (by kernel_rfl)) rfl ?_)
    exact ⟨StepSays.bad BAD.out (by omega), (((Below.refl _ _).alloc (Nat.le_refl _) _).alloc (by simp) _)⟩
theorem rstep_need (ad : Addr) (y : ByteArray) (l : List ByteArray) (c : Nat) (w : World) (hr : Strs w (some ad) (⟨#[110, 101, 101, 100]⟩ :: y :: l)) (hl : (y :: l).length ≤ 1000000) (hs : ∀ p ∈ y :: l, p.size ≤ 1000000) (hc : (y :: l).length + 1 ≤ c) :
    Calls Tryd.prog 42 #[.slice (some ad) ((y :: l).length + 1) c] w fun e w' => StepSays w' (fun b => b = ad.block) ([110, 101, 101, 100] :: (y :: l).map tl) e ∧ Below w.heap.size w w' := by
  obtain ⟨_, h1, h2, h3⟩ := hr.at_ (k := 0) (by simp)
  injection h1 with h1
  subst h1
  have h4 : w.cell? ad = some (.string ⟨#[110, 101, 101, 100]⟩) := h3
  have ht := hr.tail
  clear h3
  have LI := Lib.hid (fun W (hW : Below w.heap.size w W) => ht.lies hW)
  have SW := Lib.hid (stepW_need ((y :: l).map tl))
  have c1 : ¬ c = 1 := by simp at hc; omega
  rcases l with _ | ⟨z, l⟩
  · obtain ⟨_, k1, k2, k3⟩ := ht.at_ (k := 0) (by simp)
    injection k1 with k1
    subst k1
    have k4 : w.cell? ⟨ad.block, ad.off + 1, none⟩ = some (.string y) := k3
    have RT := Lib.hid (fun W => rname_any y (by have := hs y (by simp); omega) W)
    have e2 : (2 : Int) ≤ (c : Int) := by simp at hc; omega
    have hc2 : 2 ≤ c := by simp at hc; omega
    clear k3 hr ht hs hl hc
    cases hp : nameOk (tl y)
    · have BAD := Lib.hid (SW.out.trans (if_neg (by simp [hp])))
      have N0 : nameE (tl y) = 14 := by rw [nameE, hp]; rfl
      rw [N0] at RT
      clear N0
      clear hp SW
      go_enter Tryd.func42, Tryd.ntmps42
      go_wp2_with ((go_at_call 24; ((with_reducible refine (RT.out _).mono ?_); rintro e w1 ⟨rfl, rfl⟩)))
      ((try simp only [Exit.inBlock, Exit.then]); refine bodyPost_ret_by (results_cell_row2 rfl _ _ w.heap.size 59 _ (0, 0) _ rfl heap_two rfl rfl (by kernel_rfl)) rfl ?_)
      exact ⟨StepSays.bad BAD.out (by omega), (((Below.refl _ _).alloc (Nat.le_refl _) _).alloc (by simp) _)⟩
    · have GOOD := Lib.hid (SW.out.trans (if_pos (by simp [hp])))
      have N0 : nameE (tl y) = 0 := by rw [nameE, hp]; rfl
      rw [N0] at RT
      clear N0
      clear hp SW
      go_enter Tryd.func42, Tryd.ntmps42
      go_wp2_with ((go_at_call 24; ((with_reducible refine (RT.out _).mono ?_); rintro e w1 ⟨rfl, rfl⟩)))
      ((try simp only [Exit.inBlock, Exit.then]); refine bodyPost_ret_by (results_cell_row2 rfl _ _ w.heap.size 59 _ (0, 0) _ rfl heap_two rfl rfl (by kernel_rfl)) rfl ?_)
      exact ⟨StepSays.good GOOD.out (by omega) (by simp) (LI.out _ (((Below.refl _ _).alloc (Nat.le_refl _) _).alloc (by simp) _)), (((Below.refl _ _).alloc (Nat.le_refl _) _).alloc (by simp) _)⟩
  · have BAD := Lib.hid (SW.out.trans (if_neg (by simp)))
    generalize hq : y :: z :: l = q at *
    have g1 : ((q.length : Int) == 1) = false := by subst hq; simp; omega
    have e1 : (1 : Int) ≤ ((q.length + 1 : Nat) : Int) := by omega
    have e2 : ((q.length + 1 : Nat) : Int) ≤ (c : Int) := by omega
    have e3 : (0 : Int) < ((q.length + 1 : Nat) : Int) := by omega
    clear hq SW hr ht hs
    go_enter Tryd.func42, Tryd.ntmps42
    go_wp2_with (fail)
    ((try simp only [Exit.inBlock, Exit.then]); refine bodyPost_ret_by (results_cell_row2 rfl _ _ w.heap.size 59 _ (0, 0) _ rfl heap_two rfl rfl (by kernel_rfl)) rfl ?_)
    exact ⟨StepSays.bad BAD.out (by omega), (((Below.refl _ _).alloc (Nat.le_refl _) _).alloc (by simp) _)⟩
theorem rstep_fail (ad : Addr) (y : ByteArray) (l : List ByteArray) (c : Nat) (w : World) (hr : Strs w (some ad) (⟨#[102, 97, 105, 108]⟩ :: y :: l)) (hl : (y :: l).length ≤ 1000000) (hs : ∀ p ∈ y :: l, p.size ≤ 1000000) (hc : (y :: l).length + 1 ≤ c) :
    Calls Tryd.prog 42 #[.slice (some ad) ((y :: l).length + 1) c] w fun e w' => StepSays w' (fun b => b = ad.block) ([102, 97, 105, 108] :: (y :: l).map tl) e ∧ Below w.heap.size w w' := by
  obtain ⟨_, h1, h2, h3⟩ := hr.at_ (k := 0) (by simp)
  injection h1 with h1
  subst h1
  have h4 : w.cell? ad = some (.string ⟨#[102, 97, 105, 108]⟩) := h3
  have ht := hr.tail
  clear h3
  have LI := Lib.hid (fun W (hW : Below w.heap.size w W) => ht.lies hW)
  have SW := Lib.hid (stepW_fail ((y :: l).map tl))
  have c1 : ¬ c = 1 := by simp at hc; omega
  rcases l with _ | ⟨z, l⟩
  · obtain ⟨_, k1, k2, k3⟩ := ht.at_ (k := 0) (by simp)
    injection k1 with k1
    subst k1
    have k4 : w.cell? ⟨ad.block, ad.off + 1, none⟩ = some (.string y) := k3
    have RT := Lib.hid (fun W => rtext_any y (by have := hs y (by simp); omega) W)
    have e2 : (2 : Int) ≤ (c : Int) := by simp at hc; omega
    have hc2 : 2 ≤ c := by simp at hc; omega
    clear k3 hr ht hs hl hc
    cases hp : textOk (tl y)
    · have BAD := Lib.hid (SW.out.trans (if_neg (by simp [hp])))
      rw [hp] at RT
      clear hp SW
      go_enter Tryd.func42, Tryd.ntmps42
      go_wp2_with ((go_at_call 50; ((with_reducible refine (RT.out _).mono ?_); rintro e w1 ⟨rfl, rfl⟩)))
      ((try simp only [Exit.inBlock, Exit.then]); refine bodyPost_ret_by (results_cell_row2 rfl _ _ w.heap.size 59 _ (0, 0) _ rfl heap_two rfl rfl (by kernel_rfl)) rfl ?_)
      exact ⟨StepSays.bad BAD.out (by omega), (((Below.refl _ _).alloc (Nat.le_refl _) _).alloc (by simp) _)⟩
    · have GOOD := Lib.hid (SW.out.trans (if_pos (by simp [hp])))
      rw [hp] at RT
      clear hp SW
      go_enter Tryd.func42, Tryd.ntmps42
      go_wp2_with ((go_at_call 50; ((with_reducible refine (RT.out _).mono ?_); rintro e w1 ⟨rfl, rfl⟩)))
      ((try simp only [Exit.inBlock, Exit.then]); refine bodyPost_ret_by (results_cell_row2 rfl _ _ w.heap.size 59 _ (0, 0) _ rfl heap_two rfl rfl (by kernel_rfl)) rfl ?_)
      exact ⟨StepSays.good GOOD.out (by omega) (by simp) (LI.out _ (((Below.refl _ _).alloc (Nat.le_refl _) _).alloc (by simp) _)), (((Below.refl _ _).alloc (Nat.le_refl _) _).alloc (by simp) _)⟩
  · have BAD := Lib.hid (SW.out.trans (if_neg (by simp)))
    generalize hq : y :: z :: l = q at *
    have g1 : ((q.length : Int) == 1) = false := by subst hq; simp; omega
    have e1 : (1 : Int) ≤ ((q.length + 1 : Nat) : Int) := by omega
    have e2 : ((q.length + 1 : Nat) : Int) ≤ (c : Int) := by omega
    have e3 : (0 : Int) < ((q.length + 1 : Nat) : Int) := by omega
    clear hq SW hr ht hs
    go_enter Tryd.func42, Tryd.ntmps42
    go_wp2_with (fail)
    ((try simp only [Exit.inBlock, Exit.then]); refine bodyPost_ret_by (results_cell_row2 rfl _ _ w.heap.size 59 _ (0, 0) _ rfl heap_two rfl rfl (by kernel_rfl)) rfl ?_)
    exact ⟨StepSays.bad BAD.out (by omega), (((Below.refl _ _).alloc (Nat.le_refl _) _).alloc (by simp) _)⟩
theorem rstep_loop (ad : Addr) (y : ByteArray) (l : List ByteArray) (c : Nat) (w : World) (hr : Strs w (some ad) (⟨#[108, 111, 111, 112]⟩ :: y :: l)) (hl : (y :: l).length ≤ 1000000) (hs : ∀ p ∈ y :: l, p.size ≤ 1000000) (hc : (y :: l).length + 1 ≤ c) :
    Calls Tryd.prog 42 #[.slice (some ad) ((y :: l).length + 1) c] w fun e w' => StepSays w' (fun b => b = ad.block) ([108, 111, 111, 112] :: (y :: l).map tl) e ∧ Below w.heap.size w w' := by
  obtain ⟨_, h1, h2, h3⟩ := hr.at_ (k := 0) (by simp)
  injection h1 with h1
  subst h1
  have h4 : w.cell? ad = some (.string ⟨#[108, 111, 111, 112]⟩) := h3
  have ht := hr.tail
  clear h3
  have LI := Lib.hid (fun W (hW : Below w.heap.size w W) => ht.lies hW)
  have SW := Lib.hid (stepW_loop ((y :: l).map tl))
  have c1 : ¬ c = 1 := by simp at hc; omega
  clear LI
  rcases l with _ | ⟨z, l⟩
  · obtain ⟨_, k1, k2, k3⟩ := ht.at_ (k := 0) (by simp)
    injection k1 with k1
    subst k1
    have k4 : w.cell? ⟨ad.block, ad.off + 1, none⟩ = some (.string y) := k3
    have RT := Lib.hid (fun W => rnumber_any y (by have := hs y (by simp); omega) W)
    have e2 : (2 : Int) ≤ (c : Int) := by simp at hc; omega
    have hc2 : 2 ≤ c := by simp at hc; omega
    clear k3 hr ht hs hl hc
    cases hp : number (tl y) with
    | none =>
      have BAD : Hid (stepW ([108, 111, 111, 112] :: [y].map tl) = none) := Lib.hid (SW.out.trans (by simp [hp]))
      rw [numV_none hp] at RT
      clear hp SW
      go_enter Tryd.func42, Tryd.ntmps42
      go_wp2_with ((go_at_call 51; ((with_reducible refine (RT.out _).mono ?_); rintro e w1 ⟨rfl, rfl⟩)))
      ((try simp only [Exit.inBlock, Exit.then]); refine bodyPost_ret_by (results_cell_row2 rfl _ _ w.heap.size 59 _ (0, 0) _ rfl heap_two rfl rfl (by kernel_rfl)) rfl ?_)
      exact ⟨StepSays.bad BAD.out (by omega), (((Below.refl _ _).alloc (Nat.le_refl _) _).alloc (by simp) _)⟩
    | some k =>
      have GOOD : Hid (stepW ([108, 111, 111, 112] :: [y].map tl) = some (9, [], (k : Int))) := Lib.hid (SW.out.trans (by simp [hp]))
      rw [numV_some hp] at RT
      clear hp SW
      go_enter Tryd.func42, Tryd.ntmps42
      go_wp2_with ((go_at_call 51; ((with_reducible refine (RT.out _).mono ?_); rintro e w1 ⟨rfl, rfl⟩)))
      ((try simp only [Exit.inBlock, Exit.then]); refine bodyPost_ret_by (results_cell_row2 rfl _ _ w.heap.size 59 _ (0, 0) _ rfl heap_two rfl rfl (by kernel_rfl)) rfl ?_)
      exact ⟨StepSays.good GOOD.out (by omega) rfl Lies.none_, (((Below.refl _ _).alloc (Nat.le_refl _) _).alloc (by simp) _)⟩
  · have BAD : Hid (stepW ([108, 111, 111, 112] :: (y :: z :: l).map tl) = none) := Lib.hid SW.out
    generalize hq : y :: z :: l = q at *
    have g1 : ((q.length : Int) == 1) = false := by subst hq; simp; omega
    have e1 : (1 : Int) ≤ ((q.length + 1 : Nat) : Int) := by omega
    have e2 : ((q.length + 1 : Nat) : Int) ≤ (c : Int) := by omega
    have e3 : (0 : Int) < ((q.length + 1 : Nat) : Int) := by omega
    clear hq SW hr ht hs
    go_enter Tryd.func42, Tryd.ntmps42
    go_wp2_with (fail)
    ((try simp only [Exit.inBlock, Exit.then]); refine bodyPost_ret_by (results_cell_row2 rfl _ _ w.heap.size 59 _ (0, 0) _ rfl heap_two rfl rfl (by kernel_rfl)) rfl ?_)
    exact ⟨StepSays.bad BAD.out (by omega), (((Below.refl _ _).alloc (Nat.le_refl _) _).alloc (by simp) _)⟩
end Go.Proofs.YtoofflnaebkigaaDoor.Lg
