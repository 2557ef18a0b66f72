/- Joined by mkmerged.py: LgRsB, LgRsC, LgRstep. -/
import Derived.Test.YtdidnlkilleljaaGreatDoorMg07
import Derived.Test.YtdidnlkilleljaaGreatDoorMg12
/- LgRsB, what a claim needs of it (prune.py). -/
namespace Go.Proofs.YtdidnlkilleljaaGreatDoor.Lg
open Go.RowKit
set_option linter.unusedVariables false
set_option maxRecDepth 100000
theorem rstep_cat (ad : Addr) (y : ByteArray) (l : List ByteArray) (c : Nat) (w : World) (hr : Strs w (some ad) (⟨#[99, 97, 116]⟩ :: y :: l)) (hl : (y :: l).length ≤ 1000000) (hs : ∀ p ∈ y :: l, p.size ≤ 1000000) (hc : (y :: l).length + 1 ≤ c) :
    Calls Tryz.prog 124 #[.slice (some ad) ((y :: l).length + 1) c] w fun e w' => StepSays w' (fun b => b = ad.block) ([99, 97, 116] :: (y :: l).map tl) e ∧ Below w.heap.size w w' := by
  obtain ⟨_, h1, h2, h3⟩ := hr.at_ (k := 0) (by simp)
  injection h1 with h1
  subst h1
  have h4 : w.cell? ad = some (.string ⟨#[99, 97, 116]⟩) := h3
  have ht := hr.tail
  clear h3
  have LI := Lib.hid (fun W (hW : Below w.heap.size w W) => ht.lies hW)
  have SW := Lib.hid (stepW_cat ((y :: l).map tl))
  have c1 : ¬ c = 1 := by simp at hc; omega
  have RP : Hid (∀ W, Below w.heap.size w W → Calls Tryz.prog 175 #[.slice (some ⟨ad.block, ad.off + 1, none⟩) (y :: l).length (c - 1)] W fun e w' => e = .returned (.bool (allP (y :: l))) ∧ W = w') :=
    Lib.hid fun W hW => rpaths_any _ (y :: l) (c - 1) W (ht.below hW) (by omega) (fun p hp => by have := hs p hp; omega)
  rw [len_map, allP_map] at SW
  generalize y :: l = l at *
  have e1 : (1 : Int) ≤ ((l.length + 1 : Nat) : Int) := by omega
  have e2 : ((l.length + 1 : Nat) : Int) ≤ (c : Int) := by omega
  have e3 : (0 : Int) < ((l.length + 1 : Nat) : Int) := by omega
  clear hr ht hs
  by_cases hn : 2 ≤ l.length
  · have g1 : (2 : Int) ≤ (l.length : Int) := by omega
    by_cases hm : l.length ≤ 8
    · have g2 : (l.length : Int) ≤ 8 := by omega
      cases hp : allP l
      · have BAD := Lib.hid (SW.out.trans (if_neg (by rw [hp]; simp)))
        rw [hp] at RP
        clear hp hn hm SW
        go_enter Tryz.func124, Tryz.ntmps124
        go_wp2_with ((go_at_call 175; ((with_reducible refine (RP.out _ (((Below.refl _ _).alloc (Nat.le_refl _) _).alloc (by simp) _)).mono ?_); rintro e w1 ⟨rfl, rfl⟩)))
        ((try simp only [Exit.inBlock, Exit.then]); refine bodyPost_ret_by (results_cell_row2 rfl _ _ w.heap.size 61 _ (0, 0) _ rfl heap_two rfl rfl (by kernel_rfl)) rfl ?_)
        exact ⟨StepSays.bad BAD.out (by omega), (((Below.refl _ _).alloc (Nat.le_refl _) _).alloc (by simp) _)⟩
      · have GOOD := Lib.hid (SW.out.trans (if_pos ⟨hn, hm, hp⟩))
        rw [hp] at RP
        clear hp hn hm SW
        go_enter Tryz.func124, Tryz.ntmps124
        go_wp2_with ((go_at_call 175; ((with_reducible refine (RP.out _ (((Below.refl _ _).alloc (Nat.le_refl _) _).alloc (by simp) _)).mono ?_); rintro e w1 ⟨rfl, rfl⟩)))
        ((try simp only [Exit.inBlock, Exit.then]); refine bodyPost_ret_by (results_cell_row2 rfl _ _ w.heap.size 61 _ (0, 0) _ rfl heap_two rfl rfl (by kernel_rfl)) rfl ?_)
        exact ⟨StepSays.good GOOD.out (by omega) (by rw [len_map]) (LI.out _ (((Below.refl _ _).alloc (Nat.le_refl _) _).alloc (by simp) _)), (((Below.refl _ _).alloc (Nat.le_refl _) _).alloc (by simp) _)⟩
    · have g2 : ¬ (l.length : Int) ≤ 8 := by omega
      have BAD := Lib.hid (SW.out.trans (if_neg (fun h => hm h.2.1)))
      clear hn hm SW
      go_enter Tryz.func124, Tryz.ntmps124
      go_wp2_with (fail)
      ((try simp only [Exit.inBlock, Exit.then]); refine bodyPost_ret_by (results_cell_row2 rfl _ _ w.heap.size 61 _ (0, 0) _ rfl heap_two rfl rfl (by kernel_rfl)) rfl ?_)
      exact ⟨StepSays.bad BAD.out (by omega), (((Below.refl _ _).alloc (Nat.le_refl _) _).alloc (by simp) _)⟩
  · have g1 : ¬ (2 : Int) ≤ (l.length : Int) := by omega
    have BAD := Lib.hid (SW.out.trans (if_neg (fun h => hn h.1)))
    clear hn SW
    go_enter Tryz.func124, Tryz.ntmps124
    go_wp2_with (fail)
    ((try simp only [Exit.inBlock, Exit.then]); refine bodyPost_ret_by (results_cell_row2 rfl _ _ w.heap.size 61 _ (0, 0) _ rfl heap_two rfl rfl (by kernel_rfl)) rfl ?_)
    exact ⟨StepSays.bad BAD.out (by omega), (((Below.refl _ _).alloc (Nat.le_refl _) _).alloc (by simp) _)⟩
theorem rstep_put (ad : Addr) (y : ByteArray) (l : List ByteArray) (c : Nat) (w : World) (hr : Strs w (some ad) (⟨#[112, 117, 116]⟩ :: y :: l)) (hl : (y :: l).length ≤ 1000000) (hs : ∀ p ∈ y :: l, p.size ≤ 1000000) (hc : (y :: l).length + 1 ≤ c) :
    Calls Tryz.prog 124 #[.slice (some ad) ((y :: l).length + 1) c] w fun e w' => StepSays w' (fun b => b = ad.block) ([112, 117, 116] :: (y :: l).map tl) e ∧ Below w.heap.size w w' := by
  obtain ⟨_, h1, h2, h3⟩ := hr.at_ (k := 0) (by simp)
  injection h1 with h1
  subst h1
  have h4 : w.cell? ad = some (.string ⟨#[112, 117, 116]⟩) := h3
  have ht := hr.tail
  clear h3
  have LI := Lib.hid (fun W (hW : Below w.heap.size w W) => ht.lies hW)
  have SW := Lib.hid (stepW_put ((y :: l).map tl))
  have c1 : ¬ c = 1 := by simp at hc; omega
  rcases l with _ | ⟨z, _ | ⟨u, l⟩⟩
  · have BAD := Lib.hid (SW.out.trans (if_neg (by simp)))
    have e2 : (2 : Int) ≤ (c : Int) := by simp at hc; omega
    have hc2 : 2 ≤ c := by simp at hc; omega
    clear SW hr ht hs hl hc
    go_enter Tryz.func124, Tryz.ntmps124
    go_wp2_with (fail)
    ((try simp only [Exit.inBlock, Exit.then]); refine bodyPost_ret_by (results_cell_row2 rfl _ _ w.heap.size 61 _ (0, 0) _ rfl heap_two rfl rfl (by kernel_rfl)) rfl ?_)
    exact ⟨StepSays.bad BAD.out (by omega), (((Below.refl _ _).alloc (Nat.le_refl _) _).alloc (by simp) _)⟩
  · obtain ⟨_, k1, k2, k3⟩ := ht.at_ (k := 1) (by simp)
    injection k1 with k1
    subst k1
    have k4 : w.cell? ⟨ad.block, ad.off + 1 + 1, none⟩ = some (.string z) := k3
    have RT := Lib.hid (fun W => rtext_any z (by have := hs z (by simp); omega) W)
    have RP : Hid (∀ W, Below w.heap.size w W → Calls Tryz.prog 175 #[.slice (some ⟨ad.block, ad.off + 1, none⟩) 1 (c - 1)] W fun e w' => e = .returned (.bool (allP [y])) ∧ W = w') :=
      Lib.hid fun W hW => rpaths_any _ [y] (c - 1) W (ht.head.below hW) (by simp) (fun p hp => by have := hs p (by simp at hp; simp [hp]); omega)
    have e2 : (3 : Int) ≤ (c : Int) := by simp at hc; omega
    have e4 : (1 : Int) ≤ ((c - 1 : Nat) : Int) := by simp at hc; omega
    have hc2 : 3 ≤ c := by simp at hc; omega
    clear k3 hr ht hs hl hc
    cases hp : allP [y]
    · have BAD := Lib.hid (SW.out.trans (if_neg (by rw [← allP_map] at hp; intro h; have := h.2.1; simp at this hp; rw [hp] at this; cases this)))
      rw [hp] at RP
      clear hp SW
      go_enter Tryz.func124, Tryz.ntmps124
      go_wp2_with (first | (go_at_call 175; ((with_reducible refine (RP.out _ (((Below.refl _ _).alloc (Nat.le_refl _) _).alloc (by simp) _)).mono ?_); rintro e w1 ⟨rfl, rfl⟩)) | (go_at_call 176; ((with_reducible refine (RT.out _).mono ?_); rintro e w1 ⟨rfl, rfl⟩)))
      ((try simp only [Exit.inBlock, Exit.then]); refine bodyPost_ret_by (results_cell_row2 rfl _ _ w.heap.size 61 _ (0, 0) _ rfl heap_two rfl rfl (by kernel_rfl)) rfl ?_)
      exact ⟨StepSays.bad BAD.out (by omega), (((Below.refl _ _).alloc (Nat.le_refl _) _).alloc (by simp) _)⟩
    · cases hq : textOk (tl z)
      · have BAD := Lib.hid (SW.out.trans (if_neg (by simp [hq])))
        rw [hp] at RP
        rw [hq] at RT
        clear hp hq SW
        go_enter Tryz.func124, Tryz.ntmps124
        go_wp2_with (first | (go_at_call 175; ((with_reducible refine (RP.out _ (((Below.refl _ _).alloc (Nat.le_refl _) _).alloc (by simp) _)).mono ?_); rintro e w1 ⟨rfl, rfl⟩)) | (go_at_call 176; ((with_reducible refine (RT.out _).mono ?_); rintro e w1 ⟨rfl, rfl⟩)))
        ((try simp only [Exit.inBlock, Exit.then]); refine bodyPost_ret_by (results_cell_row2 rfl _ _ w.heap.size 61 _ (0, 0) _ rfl heap_two rfl rfl (by kernel_rfl)) rfl ?_)
        exact ⟨StepSays.bad BAD.out (by omega), (((Below.refl _ _).alloc (Nat.le_refl _) _).alloc (by simp) _)⟩
      · have GOOD := Lib.hid (SW.out.trans (if_pos (by rw [← allP_map] at hp; simp at hp; simp [hp, hq])))
        rw [hp] at RP
        rw [hq] at RT
        clear hp hq SW
        go_enter Tryz.func124, Tryz.ntmps124
        go_wp2_with (first | (go_at_call 175; ((with_reducible refine (RP.out _ (((Below.refl _ _).alloc (Nat.le_refl _) _).alloc (by simp) _)).mono ?_); rintro e w1 ⟨rfl, rfl⟩)) | (go_at_call 176; ((with_reducible refine (RT.out _).mono ?_); rintro e w1 ⟨rfl, rfl⟩)))
        ((try simp only [Exit.inBlock, Exit.then]); refine bodyPost_ret_by (results_cell_row2 rfl _ _ w.heap.size 61 _ (0, 0) _ rfl heap_two rfl rfl (by kernel_rfl)) rfl ?_)
        exact ⟨StepSays.good GOOD.out (by omega) (by simp) (LI.out _ (((Below.refl _ _).alloc (Nat.le_refl _) _).alloc (by simp) _)), (((Below.refl _ _).alloc (Nat.le_refl _) _).alloc (by simp) _)⟩
  · have BAD := Lib.hid (SW.out.trans (if_neg (by simp)))
    generalize hq : y :: z :: u :: l = q at *
    have g1 : ((q.length : Int) == 2) = false := by subst hq; simp; omega
    have e1 : (1 : Int) ≤ ((q.length + 1 : Nat) : Int) := by omega
    have e2 : ((q.length + 1 : Nat) : Int) ≤ (c : Int) := by omega
    have e3 : (0 : Int) < ((q.length + 1 : Nat) : Int) := by omega
    clear hq SW hr ht hs
    go_enter Tryz.func124, Tryz.ntmps124
    go_wp2_with (fail)
    ((try simp only [Exit.inBlock, Exit.then]); refine bodyPost_ret_by (results_cell_row2 rfl _ _ w.heap.size 61 _ (0, 0) _ rfl heap_two rfl rfl (by kernel_rfl)) rfl ?_)
    exact ⟨StepSays.bad BAD.out (by omega), (((Below.refl _ _).alloc (Nat.le_refl _) _).alloc (by simp) _)⟩
theorem rstep_need (ad : Addr) (y : ByteArray) (l : List ByteArray) (c : Nat) (w : World) (hr : Strs w (some ad) (⟨#[110, 101, 101, 100]⟩ :: y :: l)) (hl : (y :: l).length ≤ 1000000) (hs : ∀ p ∈ y :: l, p.size ≤ 1000000) (hc : (y :: l).length + 1 ≤ c) :
    Calls Tryz.prog 124 #[.slice (some ad) ((y :: l).length + 1) c] w fun e w' => StepSays w' (fun b => b = ad.block) ([110, 101, 101, 100] :: (y :: l).map tl) e ∧ Below w.heap.size w w' := by
  obtain ⟨_, h1, h2, h3⟩ := hr.at_ (k := 0) (by simp)
  injection h1 with h1
  subst h1
  have h4 : w.cell? ad = some (.string ⟨#[110, 101, 101, 100]⟩) := h3
  have ht := hr.tail
  clear h3
  have LI := Lib.hid (fun W (hW : Below w.heap.size w W) => ht.lies hW)
  have SW := Lib.hid (stepW_need ((y :: l).map tl))
  have c1 : ¬ c = 1 := by simp at hc; omega
  rcases l with _ | ⟨z, l⟩
  · obtain ⟨_, k1, k2, k3⟩ := ht.at_ (k := 0) (by simp)
    injection k1 with k1
    subst k1
    have k4 : w.cell? ⟨ad.block, ad.off + 1, none⟩ = some (.string y) := k3
    have RT := Lib.hid (fun W => rname_any y (by have := hs y (by simp); omega) W)
    have e2 : (2 : Int) ≤ (c : Int) := by simp at hc; omega
    have hc2 : 2 ≤ c := by simp at hc; omega
    clear k3 hr ht hs hl hc
    cases hp : nameOk (tl y)
    · have BAD := Lib.hid (SW.out.trans (if_neg (by simp [hp])))
      have N0 : nameE (tl y) = 14 := by rw [nameE, hp]; rfl
      rw [N0] at RT
      clear N0
      clear hp SW
      go_enter Tryz.func124, Tryz.ntmps124
      go_wp2_with ((go_at_call 177; ((with_reducible refine (RT.out _).mono ?_); rintro e w1 ⟨rfl, rfl⟩)))
      ((try simp only [Exit.inBlock, Exit.then]); refine bodyPost_ret_by (results_cell_row2 rfl _ _ w.heap.size 61 _ (0, 0) _ rfl heap_two rfl rfl (by kernel_rfl)) rfl ?_)
      exact ⟨StepSays.bad BAD.out (by omega), (((Below.refl _ _).alloc (Nat.le_refl _) _).alloc (by simp) _)⟩
    · have GOOD := Lib.hid (SW.out.trans (if_pos (by simp [hp])))
      have N0 : nameE (tl y) = 0 := by rw [nameE, hp]; rfl
      rw [N0] at RT
      clear N0
      clear hp SW
      go_enter Tryz.func124, Tryz.ntmps124
      go_wp2_with ((go_at_call 177; ((with_reducible refine (RT.out _).mono ?_); rintro e w1 ⟨rfl, rfl⟩)))
      ((try simp only [Exit.inBlock, Exit.then]); refine bodyPost_ret_by (results_cell_row2 rfl _ _ w.heap.size 61 _ (0, 0) _ rfl heap_two rfl rfl (by kernel_rfl)) rfl ?_)
      exact ⟨StepSays.good GOOD.out (by omega) (by simp) (LI.out _ (((Below.refl _ _).alloc (Nat.le_refl _) _).alloc (by simp) _)), (((Below.refl _ _).alloc (Nat.le_refl _) _).alloc (by simp) _)⟩
  · have BAD := Lib.hid (SW.out.trans (if_neg (by simp)))
    generalize hq : y :: z :: l = q at *
    have g1 : ((q.length : Int) == 1) = false := by subst hq; simp; omega
    have e1 : (1 : Int) ≤ ((q.length + 1 : Nat) : Int) := by omega
    have e2 : ((q.length + 1 : Nat) : Int) ≤ (c : Int) := by omega
    have e3 : (0 : Int) < ((q.length + 1 : Nat) : Int) := by omega
    clear hq SW hr ht hs
    go_enter Tryz.func124, Tryz.ntmps124
    go_wp2_with (fail)
    ((try simp only [Exit.inBlock, Exit.then]); refine bodyPost_ret_by (results_cell_row2 rfl _ _ w.heap.size 61 _ (0, 0) _ rfl heap_two rfl rfl (by kernel_rfl)) rfl ?_)
    exact ⟨StepSays.bad BAD.out (by omega), (((Below.refl _ _).alloc (Nat.le_refl _) _).alloc (by simp) _)⟩
theorem rstep_fail (ad : Addr) (y : ByteArray) (l : List ByteArray) (c : Nat) (w : World) (hr : Strs w (some ad) (⟨#[102, 97, 105, 108]⟩ :: y :: l)) (hl : (y :: l).length ≤ 1000000) (hs : ∀ p ∈ y :: l, p.size ≤ 1000000) (hc : (y :: l).length + 1 ≤ c) :
    Calls Tryz.prog 124 #[.slice (some ad) ((y :: l).length + 1) c] w fun e w' => StepSays w' (fun b => b = ad.block) ([102, 97, 105, 108] :: (y :: l).map tl) e ∧ Below w.heap.size w w' := by
  obtain ⟨_, h1, h2, h3⟩ := hr.at_ (k := 0) (by simp)
  injection h1 with h1
  subst h1
  have h4 : w.cell? ad = some (.string ⟨#[102, 97, 105, 108]⟩) := h3
  have ht := hr.tail
  clear h3
  have LI := Lib.hid (fun W (hW : Below w.heap.size w W) => ht.lies hW)
  have SW := Lib.hid (stepW_fail ((y :: l).map tl))
  have c1 : ¬ c = 1 := by simp at hc; omega
  rcases l with _ | ⟨z, l⟩
  · obtain ⟨_, k1, k2, k3⟩ := ht.at_ (k := 0) (by simp)
    injection k1 with k1
    subst k1
    have k4 : w.cell? ⟨ad.block, ad.off + 1, none⟩ = some (.string y) := k3
    have RT := Lib.hid (fun W => rtext_any y (by have := hs y (by simp); omega) W)
    have e2 : (2 : Int) ≤ (c : Int) := by simp at hc; omega
    have hc2 : 2 ≤ c := by simp at hc; omega
    clear k3 hr ht hs hl hc
    cases hp : textOk (tl y)
    · have BAD := Lib.hid (SW.out.trans (if_neg (by simp [hp])))
      rw [hp] at RT
      clear hp SW
      go_enter Tryz.func124, Tryz.ntmps124
      go_wp2_with ((go_at_call 176; ((with_reducible refine (RT.out _).mono ?_); rintro e w1 ⟨rfl, rfl⟩)))
      ((try simp only [Exit.inBlock, Exit.then]); refine bodyPost_ret_by (results_cell_row2 rfl _ _ w.heap.size 61 _ (0, 0) _ rfl heap_two rfl rfl (by kernel_rfl)) rfl ?_)
      exact ⟨StepSays.bad BAD.out (by omega), (((Below.refl _ _).alloc (Nat.le_refl _) _).alloc (by simp) _)⟩
    · have GOOD := Lib.hid (SW.out.trans (if_pos (by simp [hp])))
      rw [hp] at RT
      clear hp SW
      go_enter Tryz.func124, Tryz.ntmps124
      go_wp2_with ((go_at_call 176; ((with_reducible refine (RT.out _).mono ?_); rintro e w1 ⟨rfl, rfl⟩)))
      ((try simp only [Exit.inBlock, Exit.then]); refine bodyPost_ret_by (results_cell_row2 rfl _ _ w.heap.size 61 _ (0, 0) _ rfl heap_two rfl rfl (by kernel_rfl)) rfl ?_)
      exact ⟨StepSays.good GOOD.out (by omega) (by simp) (LI.out _ (((Below.refl _ _).alloc (Nat.le_refl _) _).alloc (by simp) _)), (((Below.refl _ _).alloc (Nat.le_refl _) _).alloc (by simp) _)⟩
  · have BAD := Lib.hid (SW.out.trans (if_neg (by simp)))
    generalize hq : y :: z :: l = q at *
    have g1 : ((q.length : Int) == 1) = false := by subst hq; simp; omega
    have e1 : (1 : Int) ≤ ((q.length + 1 : Nat) : Int) := by omega
    have e2 : ((q.length + 1 : Nat) : Int) ≤ (c : Int) := by omega
    have e3 : (0 : Int) < ((q.length + 1 : Nat) : Int) := by omega
    clear hq SW hr ht hs
    go_enter Tryz.func124, Tryz.ntmps124
    go_wp2_with (fail)
    ((try simp only [Exit.inBlock, Exit.then]); refine bodyPost_ret_by (results_cell_row2 rfl _ _ w.heap.size 61 _ (0, 0) _ rfl heap_two rfl rfl (by kernel_rfl)) rfl ?_)
    exact ⟨StepSays.bad BAD.out (by omega), (((Below.refl _ _).alloc (Nat.le_refl _) _).alloc (by simp) _)⟩
theorem rstep_loop (ad : Addr) (y : ByteArray) (l : List ByteArray) (c : Nat) (w : World) (hr : Strs w (some ad) (⟨#[108, 111, 111, 112]⟩ :: y :: l)) (hl : (y :: l).length ≤ 1000000) (hs : ∀ p ∈ y :: l, p.size ≤ 1000000) (hc : (y :: l).length + 1 ≤ c) :
    Calls Tryz.prog 124 #[.slice (some ad) ((y :: l).length + 1) c] w fun e w' => StepSays w' (fun b => b = ad.block) ([108, 111, 111, 112] :: (y :: l).map tl) e ∧ Below w.heap.size w w' := by
  obtain ⟨_, h1, h2, h3⟩ := hr.at_ (k := 0) (by simp)
  injection h1 with h1
  subst h1
  have h4 : w.cell? ad = some (.string ⟨#[108, 111, 111, 112]⟩) := h3
  have ht := hr.tail
  clear h3
  have LI := Lib.hid (fun W (hW : Below w.heap.size w W) => ht.lies hW)
  have SW := Lib.hid (stepW_loop ((y :: l).map tl))
  have c1 : ¬ c = 1 := by simp at hc; omega
  clear LI
  rcases l with _ | ⟨z, l⟩
  · obtain ⟨_, k1, k2, k3⟩ := ht.at_ (k := 0) (by simp)
    injection k1 with k1
    subst k1
    have k4 : w.cell? ⟨ad.block, ad.off + 1, none⟩ = some (.string y) := k3
    have RT := Lib.hid (fun W => rnumber_any y (by have := hs y (by simp); omega) W)
    have e2 : (2 : Int) ≤ (c : Int) := by simp at hc; omega
    have hc2 : 2 ≤ c := by simp at hc; omega
    clear k3 hr ht hs hl hc
    cases hp : number (tl y) with
    | none =>
      have BAD : Hid (stepW ([108, 111, 111, 112] :: [y].map tl) = none) := Lib.hid (SW.out.trans (by simp [hp]))
      rw [numV_none hp] at RT
      clear hp SW
      go_enter Tryz.func124, Tryz.ntmps124
      go_wp2_with ((go_at_call 178; ((with_reducible refine (RT.out _).mono ?_); rintro e w1 ⟨rfl, rfl⟩)))
      ((try simp only [Exit.inBlock, Exit.then]); refine bodyPost_ret_by (results_cell_row2 rfl _ _ w.heap.size 61 _ (0, 0) _ rfl heap_two rfl rfl (by kernel_rfl)) rfl ?_)
      exact ⟨StepSays.bad BAD.out (by omega), (((Below.refl _ _).alloc (Nat.le_refl _) _).alloc (by simp) _)⟩
    | some k =>
      have GOOD : Hid (stepW ([108, 111, 111, 112] :: [y].map tl) = some (9, [], (k : Int))) := Lib.hid (SW.out.trans (by simp [hp]))
      rw [numV_some hp] at RT
      clear hp SW
      go_enter Tryz.func124, Tryz.ntmps124
      go_wp2_with ((go_at_call 178; ((with_reducible refine (RT.out _).mono ?_); rintro e w1 ⟨rfl, rfl⟩)))
      ((try simp only [Exit.inBlock, Exit.then]); refine bodyPost_ret_by (results_cell_row2 rfl _ _ w.heap.size 61 _ (0, 0) _ rfl heap_two rfl rfl (by kernel_rfl)) rfl ?_)
      exact ⟨StepSays.good GOOD.out (by omega) rfl Lies.none_, (((Below.refl _ _).alloc (Nat.le_refl _) _).alloc (by simp) _)⟩
  · have BAD : Hid (stepW ([108, 111, 111, 112] :: (y :: z :: l).map tl) = none) := Lib.hid SW.out
    generalize hq : y :: z :: l = q at *
    have g1 : ((q.length : Int) == 1) = false := by subst hq; simp; omega
    have e1 : (1 : Int) ≤ ((q.length + 1 : Nat) : Int) := by omega
    have e2 : ((q.length + 1 : Nat) : Int) ≤ (c : Int) := by omega
    have e3 : (0 : Int) < ((q.length + 1 : Nat) : Int) := by omega
    clear hq SW hr ht hs
    go_enter Tryz.func124, Tryz.ntmps124
    go_wp2_with (fail)
    ((try simp only [Exit.inBlock, Exit.then]); refine bodyPost_ret_by (results_cell_row2 rfl _ _ w.heap.size 61 _ (0, 0) _ rfl heap_two rfl rfl (by kernel_rfl)) rfl ?_)
    exact ⟨StepSays.bad BAD.out (by omega), (((Below.refl _ _).alloc (Nat.le_refl _) _).alloc (by simp) _)⟩
end Go.Proofs.YtdidnlkilleljaaGreatDoor.Lg
/- LgRsC, what a claim needs of it (prune.py). -/
namespace Go.Proofs.YtdidnlkilleljaaGreatDoor.Lg
open Go.RowKit
set_option linter.unusedVariables false
set_option maxRecDepth 100000
theorem rstep_put_nil (ad : Addr) (c : Nat) (w : World) (hr : Strs w (some ad) [⟨#[112, 117, 116]⟩]) (hc : 1 ≤ c) :
    Calls Tryz.prog 124 #[.slice (some ad) 1 c] w fun e w' => StepSays w' (fun b => b = ad.block) [[112, 117, 116]] e ∧ Below w.heap.size w w' := by
  have e2 : (1 : Int) ≤ (c : Int) := by omega
  obtain ⟨_, h1, h2, h3⟩ := hr.at_ (k := 0) (by simp)
  injection h1 with h1
  subst h1
  have h4 : w.cell? ad = some (.string ⟨#[112, 117, 116]⟩) := h3
  have BAD : Hid (stepW [[112, 117, 116]] = none) := Lib.hid (by rw [stepW_put, if_neg (by simp)])
  clear h3 hr
  by_cases c1 : c = 1
  all_goals
    go_enter Tryz.func124, Tryz.ntmps124
    go_wp2_with (fail)
    ((try simp only [Exit.inBlock, Exit.then]); refine bodyPost_ret_by (results_cell_row2 rfl _ _ w.heap.size 61 _ (0, 0) _ rfl heap_two rfl rfl (by kernel_rfl)) rfl ?_)
    exact ⟨StepSays.bad BAD.out (by omega), (((Below.refl _ _).alloc (Nat.le_refl _) _).alloc (by simp) _)⟩
theorem rstep_copy_nil (ad : Addr) (c : Nat) (w : World) (hr : Strs w (some ad) [⟨#[99, 111, 112, 121]⟩]) (hc : 1 ≤ c) :
    Calls Tryz.prog 124 #[.slice (some ad) 1 c] w fun e w' => StepSays w' (fun b => b = ad.block) [[99, 111, 112, 121]] e ∧ Below w.heap.size w w' := by
  have e2 : (1 : Int) ≤ (c : Int) := by omega
  obtain ⟨_, h1, h2, h3⟩ := hr.at_ (k := 0) (by simp)
  injection h1 with h1
  subst h1
  have h4 : w.cell? ad = some (.string ⟨#[99, 111, 112, 121]⟩) := h3
  have BAD : Hid (stepW [[99, 111, 112, 121]] = none) := Lib.hid (by rw [stepW_copy, if_neg (by simp)])
  clear h3 hr
  by_cases c1 : c = 1
  all_goals
    go_enter Tryz.func124, Tryz.ntmps124
    go_wp2_with (fail)
    ((try simp only [Exit.inBlock, Exit.then]); refine bodyPost_ret_by (results_cell_row2 rfl _ _ w.heap.size 61 _ (0, 0) _ rfl heap_two rfl rfl (by kernel_rfl)) rfl ?_)
    exact ⟨StepSays.bad BAD.out (by omega), (((Below.refl _ _).alloc (Nat.le_refl _) _).alloc (by simp) _)⟩
theorem rstep_cat_nil (ad : Addr) (c : Nat) (w : World) (hr : Strs w (some ad) [⟨#[99, 97, 116]⟩]) (hc : 1 ≤ c) :
    Calls Tryz.prog 124 #[.slice (some ad) 1 c] w fun e w' => StepSays w' (fun b => b = ad.block) [[99, 97, 116]] e ∧ Below w.heap.size w w' := by
  have e2 : (1 : Int) ≤ (c : Int) := by omega
  obtain ⟨_, h1, h2, h3⟩ := hr.at_ (k := 0) (by simp)
  injection h1 with h1
  subst h1
  have h4 : w.cell? ad = some (.string ⟨#[99, 97, 116]⟩) := h3
  have BAD : Hid (stepW [[99, 97, 116]] = none) := Lib.hid (by rw [stepW_cat, if_neg (by simp)])
  clear h3 hr
  by_cases c1 : c = 1
  all_goals
    go_enter Tryz.func124, Tryz.ntmps124
    go_wp2_with (fail)
    ((try simp only [Exit.inBlock, Exit.then]); refine bodyPost_ret_by (results_cell_row2 rfl _ _ w.heap.size 61 _ (0, 0) _ rfl heap_two rfl rfl (by kernel_rfl)) rfl ?_)
    exact ⟨StepSays.bad BAD.out (by omega), (((Below.refl _ _).alloc (Nat.le_refl _) _).alloc (by simp) _)⟩
theorem rstep_upper_nil (ad : Addr) (c : Nat) (w : World) (hr : Strs w (some ad) [⟨#[117, 112, 112, 101, 114]⟩]) (hc : 1 ≤ c) :
    Calls Tryz.prog 124 #[.slice (some ad) 1 c] w fun e w' => StepSays w' (fun b => b = ad.block) [[117, 112, 112, 101, 114]] e ∧ Below w.heap.size w w' := by
  have e2 : (1 : Int) ≤ (c : Int) := by omega
  obtain ⟨_, h1, h2, h3⟩ := hr.at_ (k := 0) (by simp)
  injection h1 with h1
  subst h1
  have h4 : w.cell? ad = some (.string ⟨#[117, 112, 112, 101, 114]⟩) := h3
  have BAD : Hid (stepW [[117, 112, 112, 101, 114]] = none) := Lib.hid (by rw [stepW_upper, if_neg (by simp)])
  clear h3 hr
  by_cases c1 : c = 1
  all_goals
    go_enter Tryz.func124, Tryz.ntmps124
    go_wp2_with (fail)
    ((try simp only [Exit.inBlock, Exit.then]); refine bodyPost_ret_by (results_cell_row2 rfl _ _ w.heap.size 61 _ (0, 0) _ rfl heap_two rfl rfl (by kernel_rfl)) rfl ?_)
    exact ⟨StepSays.bad BAD.out (by omega), (((Below.refl _ _).alloc (Nat.le_refl _) _).alloc (by simp) _)⟩
theorem rstep_sort_nil (ad : Addr) (c : Nat) (w : World) (hr : Strs w (some ad) [⟨#[115, 111, 114, 116]⟩]) (hc : 1 ≤ c) :
    Calls Tryz.prog 124 #[.slice (some ad) 1 c] w fun e w' => StepSays w' (fun b => b = ad.block) [[115, 111, 114, 116]] e ∧ Below w.heap.size w w' := by
  have e2 : (1 : Int) ≤ (c : Int) := by omega
  obtain ⟨_, h1, h2, h3⟩ := hr.at_ (k := 0) (by simp)
  injection h1 with h1
  subst h1
  have h4 : w.cell? ad = some (.string ⟨#[115, 111, 114, 116]⟩) := h3
  have BAD : Hid (stepW [[115, 111, 114, 116]] = none) := Lib.hid (by rw [stepW_sort, if_neg (by simp)])
  clear h3 hr
  by_cases c1 : c = 1
  all_goals
    go_enter Tryz.func124, Tryz.ntmps124
    go_wp2_with (fail)
    ((try simp only [Exit.inBlock, Exit.then]); refine bodyPost_ret_by (results_cell_row2 rfl _ _ w.heap.size 61 _ (0, 0) _ rfl heap_two rfl rfl (by kernel_rfl)) rfl ?_)
    exact ⟨StepSays.bad BAD.out (by omega), (((Below.refl _ _).alloc (Nat.le_refl _) _).alloc (by simp) _)⟩
theorem rstep_drop_nil (ad : Addr) (c : Nat) (w : World) (hr : Strs w (some ad) [⟨#[100, 114, 111, 112]⟩]) (hc : 1 ≤ c) :
    Calls Tryz.prog 124 #[.slice (some ad) 1 c] w fun e w' => StepSays w' (fun b => b = ad.block) [[100, 114, 111, 112]] e ∧ Below w.heap.size w w' := by
  have e2 : (1 : Int) ≤ (c : Int) := by omega
  obtain ⟨_, h1, h2, h3⟩ := hr.at_ (k := 0) (by simp)
  injection h1 with h1
  subst h1
  have h4 : w.cell? ad = some (.string ⟨#[100, 114, 111, 112]⟩) := h3
  have BAD : Hid (stepW [[100, 114, 111, 112]] = none) := Lib.hid (by rw [stepW_drop, if_neg (by simp)])
  clear h3 hr
  by_cases c1 : c = 1
  all_goals
    go_enter Tryz.func124, Tryz.ntmps124
    go_wp2_with (fail)
    ((try simp only [Exit.inBlock, Exit.then]); refine bodyPost_ret_by (results_cell_row2 rfl _ _ w.heap.size 61 _ (0, 0) _ rfl heap_two rfl rfl (by kernel_rfl)) rfl ?_)
    exact ⟨StepSays.bad BAD.out (by omega), (((Below.refl _ _).alloc (Nat.le_refl _) _).alloc (by simp) _)⟩
theorem rstep_need_nil (ad : Addr) (c : Nat) (w : World) (hr : Strs w (some ad) [⟨#[110, 101, 101, 100]⟩]) (hc : 1 ≤ c) :
    Calls Tryz.prog 124 #[.slice (some ad) 1 c] w fun e w' => StepSays w' (fun b => b = ad.block) [[110, 101, 101, 100]] e ∧ Below w.heap.size w w' := by
  have e2 : (1 : Int) ≤ (c : Int) := by omega
  obtain ⟨_, h1, h2, h3⟩ := hr.at_ (k := 0) (by simp)
  injection h1 with h1
  subst h1
  have h4 : w.cell? ad = some (.string ⟨#[110, 101, 101, 100]⟩) := h3
  have BAD : Hid (stepW [[110, 101, 101, 100]] = none) := Lib.hid (by rw [stepW_need, if_neg (by simp)])
  clear h3 hr
  by_cases c1 : c = 1
  all_goals
    go_enter Tryz.func124, Tryz.ntmps124
    go_wp2_with (fail)
    ((try simp only [Exit.inBlock, Exit.then]); refine bodyPost_ret_by (results_cell_row2 rfl _ _ w.heap.size 61 _ (0, 0) _ rfl heap_two rfl rfl (by kernel_rfl)) rfl ?_)
    exact ⟨StepSays.bad BAD.out (by omega), (((Below.refl _ _).alloc (Nat.le_refl _) _).alloc (by simp) _)⟩
theorem rstep_fail_nil (ad : Addr) (c : Nat) (w : World) (hr : Strs w (some ad) [⟨#[102, 97, 105, 108]⟩]) (hc : 1 ≤ c) :
    Calls Tryz.prog 124 #[.slice (some ad) 1 c] w fun e w' => StepSays w' (fun b => b = ad.block) [[102, 97, 105, 108]] e ∧ Below w.heap.size w w' := by
  have e2 : (1 : Int) ≤ (c : Int) := by omega
  obtain ⟨_, h1, h2, h3⟩ := hr.at_ (k := 0) (by simp)
  injection h1 with h1
  subst h1
  have h4 : w.cell? ad = some (.string ⟨#[102, 97, 105, 108]⟩) := h3
  have BAD : Hid (stepW [[102, 97, 105, 108]] = none) := Lib.hid (by rw [stepW_fail, if_neg (by simp)])
  clear h3 hr
  by_cases c1 : c = 1
  all_goals
    go_enter Tryz.func124, Tryz.ntmps124
    go_wp2_with (fail)
    ((try simp only [Exit.inBlock, Exit.then]); refine bodyPost_ret_by (results_cell_row2 rfl _ _ w.heap.size 61 _ (0, 0) _ rfl heap_two rfl rfl (by kernel_rfl)) rfl ?_)
    exact ⟨StepSays.bad BAD.out (by omega), (((Below.refl _ _).alloc (Nat.le_refl _) _).alloc (by simp) _)⟩
theorem rstep_loop_nil (ad : Addr) (c : Nat) (w : World) (hr : Strs w (some ad) [⟨#[108, 111, 111, 112]⟩]) (hc : 1 ≤ c) :
    Calls Tryz.prog 124 #[.slice (some ad) 1 c] w fun e w' => StepSays w' (fun b => b = ad.block) [[108, 111, 111, 112]] e ∧ Below w.heap.size w w' := by
  have e2 : (1 : Int) ≤ (c : Int) := by omega
  obtain ⟨_, h1, h2, h3⟩ := hr.at_ (k := 0) (by simp)
  injection h1 with h1
  subst h1
  have h4 : w.cell? ad = some (.string ⟨#[108, 111, 111, 112]⟩) := h3
  have BAD : Hid (stepW [[108, 111, 111, 112]] = none) := Lib.hid (by rw [stepW_loop])
  clear h3 hr
  by_cases c1 : c = 1
  all_goals
    go_enter Tryz.func124, Tryz.ntmps124
    go_wp2_with (fail)
    ((try simp only [Exit.inBlock, Exit.then]); refine bodyPost_ret_by (results_cell_row2 rfl _ _ w.heap.size 61 _ (0, 0) _ rfl heap_two rfl rfl (by kernel_rfl)) rfl ?_)
    exact ⟨StepSays.bad BAD.out (by omega), (((Below.refl _ _).alloc (Nat.le_refl _) _).alloc (by simp) _)⟩
theorem rstep_if_nil (ad : Addr) (c : Nat) (w : World) (hr : Strs w (some ad) [⟨#[105, 102]⟩]) (hc : 1 ≤ c) :
    Calls Tryz.prog 124 #[.slice (some ad) 1 c] w fun e w' => StepSays w' (fun b => b = ad.block) [[105, 102]] e ∧ Below w.heap.size w w' := by
  have e2 : (1 : Int) ≤ (c : Int) := by omega
  obtain ⟨_, h1, h2, h3⟩ := hr.at_ (k := 0) (by simp)
  injection h1 with h1
  subst h1
  have h4 : w.cell? ad = some (.string ⟨#[105, 102]⟩) := h3
  have BAD : Hid (stepW [[105, 102]] = none) := Lib.hid (by rw [stepW_if, if_neg (by simp)])
  clear h3 hr
  by_cases c1 : c = 1
  all_goals
    go_enter Tryz.func124, Tryz.ntmps124
    go_wp2_with (fail)
    ((try simp only [Exit.inBlock, Exit.then]); refine bodyPost_ret_by (results_cell_row2 rfl _ _ w.heap.size 61 _ (0, 0) _ rfl heap_two rfl rfl (by kernel_rfl)) rfl ?_)
    exact ⟨StepSays.bad BAD.out (by omega), (((Below.refl _ _).alloc (Nat.le_refl _) _).alloc (by simp) _)⟩
theorem lit_inj {x : ByteArray} {l : List UInt8} (h : x.toList = l) : x = ⟨l.toArray⟩ := by
  rw [Lib.toList_data] at h
  exact tl_inj h
set_option maxHeartbeats 2000000 in
theorem rstep_no (ad : Addr) (x : ByteArray) (l : List ByteArray) (c : Nat) (w : World) (hr : Strs w (some ad) (x :: l)) (hl : l.length ≤ 1000000) (hc : l.length + 1 ≤ c) (n1 : x ≠ ⟨#[112, 117, 116]⟩) (n2 : x ≠ ⟨#[99, 111, 112, 121]⟩) (n3 : x ≠ ⟨#[99, 97, 116]⟩) (n4 : x ≠ ⟨#[117, 112, 112, 101, 114]⟩) (n5 : x ≠ ⟨#[115, 111, 114, 116]⟩) (n6 : x ≠ ⟨#[100, 114, 111, 112]⟩) (n7 : x ≠ ⟨#[110, 101, 101, 100]⟩) (n8 : x ≠ ⟨#[102, 97, 105, 108]⟩) (n9 : x ≠ ⟨#[108, 111, 111, 112]⟩) (n10 : x ≠ ⟨#[105, 102]⟩) :
    Calls Tryz.prog 124 #[.slice (some ad) (l.length + 1) c] w fun e w' => StepSays w' (fun b => b = ad.block) (tl x :: l.map tl) e ∧ Below w.heap.size w w' := by
  obtain ⟨_, h1, h2, h3⟩ := hr.at_ (k := 0) (by simp)
  injection h1 with h1
  subst h1
  have h4 : w.cell? ad = some (.string x) := h3
  have BAD := Lib.hid (stepW_no _ (fun e => n1 (tl_inj e)) (fun e => n2 (tl_inj e)) (fun e => n3 (tl_inj e)) (fun e => n4 (tl_inj e)) (fun e => n5 (tl_inj e)) (fun e => n6 (tl_inj e)) (fun e => n7 (tl_inj e)) (fun e => n8 (tl_inj e)) (fun e => n9 (tl_inj e)) (fun e => n10 (tl_inj e)) : stepW (tl x :: l.map tl) = none)
  have f1 : (x.toList == [112, 117, 116]) = false := beq_eq_false_iff_ne.2 (fun e => n1 (lit_inj e))
  have f2 : (x.toList == [99, 111, 112, 121]) = false := beq_eq_false_iff_ne.2 (fun e => n2 (lit_inj e))
  have f3 : (x.toList == [99, 97, 116]) = false := beq_eq_false_iff_ne.2 (fun e => n3 (lit_inj e))
  have f4 : (x.toList == [117, 112, 112, 101, 114]) = false := beq_eq_false_iff_ne.2 (fun e => n4 (lit_inj e))
  have f5 : (x.toList == [115, 111, 114, 116]) = false := beq_eq_false_iff_ne.2 (fun e => n5 (lit_inj e))
  have f6 : (x.toList == [100, 114, 111, 112]) = false := beq_eq_false_iff_ne.2 (fun e => n6 (lit_inj e))
  have f7 : (x.toList == [110, 101, 101, 100]) = false := beq_eq_false_iff_ne.2 (fun e => n7 (lit_inj e))
  have f8 : (x.toList == [102, 97, 105, 108]) = false := beq_eq_false_iff_ne.2 (fun e => n8 (lit_inj e))
  have f9 : (x.toList == [108, 111, 111, 112]) = false := beq_eq_false_iff_ne.2 (fun e => n9 (lit_inj e))
  have f10 : (x.toList == [105, 102]) = false := beq_eq_false_iff_ne.2 (fun e => n10 (lit_inj e))
  have e1 : (1 : Int) ≤ ((l.length + 1 : Nat) : Int) := by omega
  have e2 : ((l.length + 1 : Nat) : Int) ≤ (c : Int) := by omega
  have e3 : (0 : Int) < ((l.length + 1 : Nat) : Int) := by omega
  clear h3 hr n1 n2 n3 n4 n5 n6 n7 n8 n9 n10
  by_cases c1 : c = 1
  all_goals
    go_enter Tryz.func124, Tryz.ntmps124
    go_wp2_with (fail)
    ((try simp only [Exit.inBlock, Exit.then]); refine bodyPost_ret_by (results_cell_row2 rfl _ _ w.heap.size 61 _ (0, 0) _ rfl heap_two rfl rfl (by kernel_rfl)) rfl ?_)
    exact ⟨StepSays.bad BAD.out (by omega), (((Below.refl _ _).alloc (Nat.le_refl _) _).alloc (by simp) _)⟩
end Go.Proofs.YtdidnlkilleljaaGreatDoor.Lg
/- LgRstep, what a claim needs of it (prune.py). -/
namespace Go.Proofs.YtdidnlkilleljaaGreatDoor.Lg
open Go.RowKit
set_option linter.unusedVariables false
set_option maxRecDepth 100000
theorem rstep_any (ad : Addr) (x : ByteArray) (l : List ByteArray) (c : Nat) (w : World) (hr : Strs w (some ad) (x :: l)) (hl : l.length ≤ 1000000) (hs : ∀ p ∈ l, p.size ≤ 1000000) (hc : l.length + 1 ≤ c) :
    Calls Tryz.prog 124 #[.slice (some ad) (l.length + 1) c] w fun e w' => StepSays w' (fun b => b = ad.block) (tl x :: l.map tl) e ∧ Below w.heap.size w w' := by
  by_cases n1 : x = ⟨#[112, 117, 116]⟩
  · subst n1
    cases l with
    | nil => exact rstep_put_nil ad c w hr hc
    | cons y l => exact rstep_put ad y l c w hr hl hs hc
  by_cases n2 : x = ⟨#[99, 111, 112, 121]⟩
  · subst n2
    cases l with
    | nil => exact rstep_copy_nil ad c w hr hc
    | cons y l => exact rstep_copy ad y l c w hr hl hs hc
  by_cases n3 : x = ⟨#[99, 97, 116]⟩
  · subst n3
    cases l with
    | nil => exact rstep_cat_nil ad c w hr hc
    | cons y l => exact rstep_cat ad y l c w hr hl hs hc
  by_cases n4 : x = ⟨#[117, 112, 112, 101, 114]⟩
  · subst n4
    cases l with
    | nil => exact rstep_upper_nil ad c w hr hc
    | cons y l => exact rstep_upper ad y l c w hr hl hs hc
  by_cases n5 : x = ⟨#[115, 111, 114, 116]⟩
  · subst n5
    cases l with
    | nil => exact rstep_sort_nil ad c w hr hc
    | cons y l => exact rstep_sort ad y l c w hr hl hs hc
  by_cases n6 : x = ⟨#[100, 114, 111, 112]⟩
  · subst n6
    cases l with
    | nil => exact rstep_drop_nil ad c w hr hc
    | cons y l => exact rstep_drop ad y l c w hr hl hs hc
  by_cases n7 : x = ⟨#[110, 101, 101, 100]⟩
  · subst n7
    cases l with
    | nil => exact rstep_need_nil ad c w hr hc
    | cons y l => exact rstep_need ad y l c w hr hl hs hc
  by_cases n8 : x = ⟨#[102, 97, 105, 108]⟩
  · subst n8
    cases l with
    | nil => exact rstep_fail_nil ad c w hr hc
    | cons y l => exact rstep_fail ad y l c w hr hl hs hc
  by_cases n9 : x = ⟨#[108, 111, 111, 112]⟩
  · subst n9
    cases l with
    | nil => exact rstep_loop_nil ad c w hr hc
    | cons y l => exact rstep_loop ad y l c w hr hl hs hc
  by_cases n10 : x = ⟨#[105, 102]⟩
  · subst n10
    cases l with
    | nil => exact rstep_if_nil ad c w hr hc
    | cons y l => exact rstep_if ad y l c w hr hl hs hc
  exact rstep_no ad x l c w hr hl hc n1 n2 n3 n4 n5 n6 n7 n8 n9 n10
end Go.Proofs.YtdidnlkilleljaaGreatDoor.Lg
