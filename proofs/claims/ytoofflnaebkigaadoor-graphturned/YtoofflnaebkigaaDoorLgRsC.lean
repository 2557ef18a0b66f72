/- The contract of the reference's step at a word alone, and at no word of a step. -/
import Derived.Test.YtoofflnaebkigaaDoorLgStepB
namespace Go.Proofs.YtoofflnaebkigaaDoor.Lg
open Go.RowKit
set_option linter.unusedVariables false
set_option maxRecDepth 100000
theorem rstep_put_nil (ad : Addr) (c : Nat) (w : World) (hr : Strs w (some ad) [⟨#[112, 117, 116]⟩]) (hc : 1 ≤ c) :
    Calls Tryd.prog 42 #[.slice (some ad) 1 c] w fun e w' => StepSays w' (fun b => b = ad.block) [[112, 117, 116]] e ∧ Below w.heap.size w w' := by
  have e2 : (1 : Int) ≤ (c : Int) := by omega
  obtain ⟨_, h1, h2, h3⟩ := hr.at_ (k := 0) (by simp)
  injection h1 with h1
  subst h1
  have h4 : w.cell? ad = some (.string ⟨#[112, 117, 116]⟩) := h3
  have BAD : Hid (stepW [[112, 117, 116]] = none) := Lib.hid (by rw [stepW_put, if_neg (by simp)])
  clear h3 hr
  by_cases c1 : c = 1
  all_goals
    go_enter Tryd.func42, Tryd.ntmps42
    go_wp2_with (fail)
    ((try simp only [Exit.inBlock, Exit.then]); refine bodyPost_ret_by (results_cell_row2 rfl _ _ w.heap.size 59 _ (0, 0) _ rfl heap_two rfl rfl (by kernel_rfl)) rfl ?_)
    exact ⟨StepSays.bad BAD.out (by omega), (((Below.refl _ _).alloc (Nat.le_refl _) _).alloc (by simp) _)⟩
theorem rstep_copy_nil (ad : Addr) (c : Nat) (w : World) (hr : Strs w (some ad) [⟨#[99, 111, 112, 121]⟩]) (hc : 1 ≤ c) :
    Calls Tryd.prog 42 #[.slice (some ad) 1 c] w fun e w' => StepSays w' (fun b => b = ad.block) [[99, 111, 112, 121]] e ∧ Below w.heap.size w w' := by
  have e2 : (1 : Int) ≤ (c : Int) := by omega
  obtain ⟨_, h1, h2, h3⟩ := hr.at_ (k := 0) (by simp)
  injection h1 with h1
  subst h1
  have h4 : w.cell? ad = some (.string ⟨#[99, 111, 112, 121]⟩) := h3
  have BAD : Hid (stepW [[99, 111, 112, 121]] = none) := Lib.hid (by rw [stepW_copy, if_neg (by simp)])
  clear h3 hr
  by_cases c1 : c = 1
  all_goals
    go_enter Tryd.func42, Tryd.ntmps42
    go_wp2_with (fail)
    ((try simp only [Exit.inBlock, Exit.then]); refine bodyPost_ret_by (results_cell_row2 rfl _ _ w.heap.size 59 _ (0, 0) _ rfl heap_two rfl rfl (by kernel_rfl)) rfl ?_)
    exact ⟨StepSays.bad BAD.out (by omega), (((Below.refl _ _).alloc (Nat.le_refl _) _).alloc (by simp) _)⟩
theorem rstep_cat_nil (ad : Addr) (c : Nat) (w : World) (hr : Strs w (some ad) [⟨#[99, 97, 116]⟩]) (hc : 1 ≤ c) :
    Calls Tryd.prog 42 #[.slice (some ad) 1 c] w fun e w' => StepSays w' (fun b => b = ad.block) [[99, 97, 116]] e ∧ Below w.heap.size w w' := by
  have e2 : (1 : Int) ≤ (c : Int) := by omega
  obtain ⟨_, h1, h2, h3⟩ := hr.at_ (k := 0) (by simp)
  injection h1 with h1
  subst h1
  have h4 : w.cell? ad = some (.string ⟨#[99, 97, 116]⟩) := h3
  have BAD : Hid (stepW [[99, 97, 116]] = none) := Lib.hid (by rw [stepW_cat, if_neg (by simp)])
  clear h3 hr
  by_cases c1 : c = 1
  all_goals
    go_enter Tryd.func42, Tryd.ntmps42
    go_wp2_with (fail)
    ((try simp only [Exit.inBlock, Exit.then]); refine bodyPost_ret_by (results_cell_row2 rfl _ _ w.heap.size 59 _ (0, 0) _ rfl heap_two rfl rfl (by kernel_rfl)) rfl ?_)
    exact ⟨StepSays.bad BAD.out (by omega), (((Below.refl _ _).alloc (Nat.le_refl _) _).alloc (by simp) _)⟩
theorem rstep_upper_nil (ad : Addr) (c : Nat) (w : World) (hr : Strs w (some ad) [⟨#[117, 112, 112, 101, 114]⟩]) (hc : 1 ≤ c) :
    Calls Tryd.prog 42 #[.slice (some ad) 1 c] w fun e w' => StepSays w' (fun b => b = ad.block) [[117, 112, 112, 101, 114]] e ∧ Below w.heap.size w w' := by
  have e2 : (1 : Int) ≤ (c : Int) := by omega
  obtain ⟨_, h1, h2, h3⟩ := hr.at_ (k := 0) (by simp)
  injection h1 with h1
  subst h1
  have h4 : w.cell? ad = some (.string ⟨#[117, 112, 112, 101, 114]⟩) := h3
  have BAD : Hid (stepW [[117, 112, 112, 101, 114]] = none) := Lib.hid (by rw [stepW_upper, if_neg (by simp)])
  clear h3 hr
  by_cases c1 : c = 1
  all_goals
    go_enter Tryd.func42, Tryd.ntmps42
    go_wp2_with (fail)
    ((try simp only [Exit.inBlock, Exit.then]); refine bodyPost_ret_by (results_cell_row2 rfl _ _ w.heap.size 59 _ (0, 0) _ rfl heap_two rfl rfl (by kernel_rfl)) rfl ?_)
    exact ⟨StepSays.bad BAD.out (by omega), (((Below.refl _ _).alloc (Nat.le_refl _) _).alloc (by simp) _)⟩
theorem rstep_sort_nil (ad : Addr) (c : Nat) (w : World) (hr : Strs w (some ad) [⟨#[115, 111, 114, 116]⟩]) (hc : 1 ≤ c) :
    Calls Tryd.prog 42 #[.slice (some ad) 1 c] w fun e w' => StepSays w' (fun b => b = ad.block) [[115, 111, 114, 116]] e ∧ Below w.heap.size w w' := by
  have e2 : (1 : Int) ≤ (c : Int) := by omega
  obtain ⟨_, h1, h2, h3⟩ := hr.at_ (k := 0) (by simp)
  injection h1 with h1
  subst h1
  have h4 : w.cell? ad = some (.string ⟨#[115, 111, 114, 116]⟩) := h3
  have BAD : Hid (stepW [[115, 111, 114, 116]] = none) := Lib.hid (by rw [stepW_sort, if_neg (by simp)])
  clear h3 hr
  by_cases c1 : c = 1
  all_goals
    go_enter Tryd.func42, Tryd.ntmps42
    go_wp2_with (fail)
    ((try simp only [Exit.inBlock, Exit.then]); refine bodyPost_ret_by (results_cell_row2 rfl _ _ w.heap.size 59 _ (0, 0) _ rfl heap_two rfl rfl (by kernel_rfl)) rfl ?_)
    exact ⟨StepSays.bad BAD.out (by omega), (((Below.refl _ _).alloc (Nat.le_refl _) _).alloc (by simp) _)⟩
theorem rstep_drop_nil (ad : Addr) (c : Nat) (w : World) (hr : Strs w (some ad) [⟨#[100, 114, 111, 112]⟩]) (hc : 1 ≤ c) :
    Calls Tryd.prog 42 #[.slice (some ad) 1 c] w fun e w' => StepSays w' (fun b => b = ad.block) [[100, 114, 111, 112]] e ∧ Below w.heap.size w w' := by
  have e2 : (1 : Int) ≤ (c : Int) := by omega
  obtain ⟨_, h1, h2, h3⟩ := hr.at_ (k := 0) (by simp)
  injection h1 with h1
  subst h1
  have h4 : w.cell? ad = some (.string ⟨#[100, 114, 111, 112]⟩) := h3
  have BAD : Hid (stepW [[100, 114, 111, 112]] = none) := Lib.hid (by rw [stepW_drop, if_neg (by simp)])
  clear h3 hr
  by_cases c1 : c = 1
  all_goals
    go_enter Tryd.func42, Tryd.ntmps42
    go_wp2_with (fail)
    ((try simp only [Exit.inBlock, Exit.then]); refine bodyPost_ret_by (results_cell_row2 rfl _ _ w.heap.size 59 _ (0, 0) _ rfl heap_two rfl rfl (by kernel_rfl)) rfl ?_)
    exact ⟨StepSays.bad BAD.out (by omega), (((Below.refl _ _).alloc (Nat.le_refl _) _).alloc (by simp) _)⟩
theorem rstep_need_nil (ad : Addr) (c : Nat) (w : World) (hr : Strs w (some ad) [⟨#[110, 101, 101, 100]⟩]) (hc : 1 ≤ c) :
    Calls Tryd.prog 42 #[.slice (some ad) 1 c] w fun e w' => StepSays w' (fun b => b = ad.block) [[110, 101, 101, 100]] e ∧ Below w.heap.size w w' := by
  have e2 : (1 : Int) ≤ (c : Int) := by omega
  obtain ⟨_, h1, h2, h3⟩ := hr.at_ (k := 0) (by simp)
  injection h1 with h1
  subst h1
  have h4 : w.cell? ad = some (.string ⟨#[110, 101, 101, 100]⟩) := h3
  have BAD : Hid (stepW [[110, 101, 101, 100]] = none) := Lib.hid (by rw [stepW_need, if_neg (by simp)])
  clear h3 hr
  by_cases c1 : c = 1
  all_goals
    go_enter Tryd.func42, Tryd.ntmps42
    go_wp2_with (fail)
    ((try simp only [Exit.inBlock, Exit.then]); refine bodyPost_ret_by (results_cell_row2 rfl _ _ w.heap.size 59 _ (0, 0) _ rfl heap_two rfl rfl (by kernel_rfl)) rfl ?_)
    exact ⟨StepSays.bad BAD.out (by omega), (((Below.refl _ _).alloc (Nat.le_refl _) _).alloc (by simp) _)⟩
theorem rstep_fail_nil (ad : Addr) (c : Nat) (w : World) (hr : Strs w (some ad) [⟨#[102, 97, 105, 108]⟩]) (hc : 1 ≤ c) :
    Calls Tryd.prog 42 #[.slice (some ad) 1 c] w fun e w' => StepSays w' (fun b => b = ad.block) [[102, 97, 105, 108]] e ∧ Below w.heap.size w w' := by
  have e2 : (1 : Int) ≤ (c : Int) := by omega
  obtain ⟨_, h1, h2, h3⟩ := hr.at_ (k := 0) (by simp)
  injection h1 with h1
  subst h1
  have h4 : w.cell? ad = some (.string ⟨#[102, 97, 105, 108]⟩) := h3
  have BAD : Hid (stepW [[102, 97, 105, 108]] = none) := Lib.hid (by rw [stepW_fail, if_neg (by simp)])
  clear h3 hr
  by_cases c1 : c = 1
  all_goals
    go_enter Tryd.func42, Tryd.ntmps42
    go_wp2_with (fail)
    ((try simp only [Exit.inBlock, Exit.then]); refine bodyPost_ret_by (results_cell_row2 rfl _ _ w.heap.size 59 _ (0, 0) _ rfl heap_two rfl rfl (by kernel_rfl)) rfl ?_)
    exact ⟨StepSays.bad BAD.out (by omega), (((Below.refl _ _).alloc (Nat.le_refl _) _).alloc (by simp) _)⟩
theorem rstep_loop_nil (ad : Addr) (c : Nat) (w : World) (hr : Strs w (some ad) [⟨#[108, 111, 111, 112]⟩]) (hc : 1 ≤ c) :
    Calls Tryd.prog 42 #[.slice (some ad) 1 c] w fun e w' => StepSays w' (fun b => b = ad.block) [[108, 111, 111, 112]] e ∧ Below w.heap.size w w' := by
  have e2 : (1 : Int) ≤ (c : Int) := by omega
  obtain ⟨_, h1, h2, h3⟩ := hr.at_ (k := 0) (by simp)
  injection h1 with h1
  subst h1
  have h4 : w.cell? ad = some (.string ⟨#[108, 111, 111, 112]⟩) := h3
  have BAD : Hid (stepW [[108, 111, 111, 112]] = none) := Lib.hid (by rw [stepW_loop])
  clear h3 hr
  by_cases c1 : c = 1
  all_goals
    go_enter Tryd.func42, Tryd.ntmps42
    go_wp2_with (fail)
    ((try simp only [Exit.inBlock, Exit.then]); refine bodyPost_ret_by (results_cell_row2 rfl _ _ w.heap.size 59 _ (0, 0) _ rfl heap_two rfl rfl (by kernel_rfl)) rfl ?_)
    exact ⟨StepSays.bad BAD.out (by omega), (((Below.refl _ _).alloc (Nat.le_refl _) _).alloc (by simp) _)⟩
theorem rstep_if_nil (ad : Addr) (c : Nat) (w : World) (hr : Strs w (some ad) [⟨#[105, 102]⟩]) (hc : 1 ≤ c) :
    Calls Tryd.prog 42 #[.slice (some ad) 1 c] w fun e w' => StepSays w' (fun b => b = ad.block) [[105, 102]] e ∧ Below w.heap.size w w' := by
  have e2 : (1 : Int) ≤ (c : Int) := by omega
  obtain ⟨_, h1, h2, h3⟩ := hr.at_ (k := 0) (by simp)
  injection h1 with h1
  subst h1
  have h4 : w.cell? ad = some (.string ⟨#[105, 102]⟩) := h3
  have BAD : Hid (stepW [[105, 102]] = none) := Lib.hid (by rw [stepW_if, if_neg (by simp)])
  clear h3 hr
  by_cases c1 : c = 1
  all_goals
    go_enter Tryd.func42, Tryd.ntmps42
    go_wp2_with (fail)
    ((try simp only [Exit.inBlock, Exit.then]); refine bodyPost_ret_by (results_cell_row2 rfl _ _ w.heap.size 59 _ (0, 0) _ rfl heap_two rfl rfl (by kernel_rfl)) rfl ?_)
    exact ⟨StepSays.bad BAD.out (by omega), (((Below.refl _ _).alloc (Nat.le_refl _) _).alloc (by simp) _)⟩
theorem lit_inj {x : ByteArray} {l : List UInt8} (h : x.toList = l) : x = ⟨l.toArray⟩ := by
  rw [Lib.toList_data] at h
  exact tl_inj h
set_option maxHeartbeats 2000000 in
theorem rstep_no (ad : Addr) (x : ByteArray) (l : List ByteArray) (c : Nat) (w : World) (hr : Strs w (some ad) (x :: l)) (hl : l.length ≤ 1000000) (hc : l.length + 1 ≤ c) (n1 : x ≠ ⟨#[112, 117, 116]⟩) (n2 : x ≠ ⟨#[99, 111, 112, 121]⟩) (n3 : x ≠ ⟨#[99, 97, 116]⟩) (n4 : x ≠ ⟨#[117, 112, 112, 101, 114]⟩) (n5 : x ≠ ⟨#[115, 111, 114, 116]⟩) (n6 : x ≠ ⟨#[100, 114, 111, 112]⟩) (n7 : x ≠ ⟨#[110, 101, 101, 100]⟩) (n8 : x ≠ ⟨#[102, 97, 105, 108]⟩) (n9 : x ≠ ⟨#[108, 111, 111, 112]⟩) (n10 : x ≠ ⟨#[105, 102]⟩) :
    Calls Tryd.prog 42 #[.slice (some ad) (l.length + 1) c] w fun e w' => StepSays w' (fun b => b = ad.block) (tl x :: l.map tl) e ∧ Below w.heap.size w w' := by
  obtain ⟨_, h1, h2, h3⟩ := hr.at_ (k := 0) (by simp)
  injection h1 with h1
  subst h1
  have h4 : w.cell? ad = some (.string x) := h3
  have BAD := Lib.hid (stepW_no _ (fun e => n1 (tl_inj e)) (fun e => n2 (tl_inj e)) (fun e => n3 (tl_inj e)) (fun e => n4 (tl_inj e)) (fun e => n5 (tl_inj e)) (fun e => n6 (tl_inj e)) (fun e => n7 (tl_inj e)) (fun e => n8 (tl_inj e)) (fun e => n9 (tl_inj e)) (fun e => n10 (tl_inj e)) : stepW (tl x :: l.map tl) = none)
  have f1 : (x.toList == [112, 117, 116]) = false := beq_eq_false_iff_ne.2 (fun e => n1 (lit_inj e))
  have f2 : (x.toList == [99, 111, 112, 121]) = false := beq_eq_false_iff_ne.2 (fun e => n2 (lit_inj e))
  have f3 : (x.toList == [99, 97, 116]) = false := beq_eq_false_iff_ne.2 (fun e => n3 (lit_inj e))
  have f4 : (x.toList == [117, 112, 112, 101, 114]) = false := beq_eq_false_iff_ne.2 (fun e => n4 (lit_inj e))
  have f5 : (x.toList == [115, 111, 114, 116]) = false := beq_eq_false_iff_ne.2 (fun e => n5 (lit_inj e))
  have f6 : (x.toList == [100, 114, 111, 112]) = false := beq_eq_false_iff_ne.2 (fun e => n6 (lit_inj e))
  have f7 : (x.toList == [110, 101, 101, 100]) = false := beq_eq_false_iff_ne.2 (fun e => n7 (lit_inj e))
  have f8 : (x.toList == [102, 97, 105, 108]) = false := beq_eq_false_iff_ne.2 (fun e => n8 (lit_inj e))
  have f9 : (x.toList == [108, 111, 111, 112]) = false := beq_eq_false_iff_ne.2 (fun e => n9 (lit_inj e))
  have f10 : (x.toList == [105, 102]) = false := beq_eq_false_iff_ne.2 (fun e => n10 (lit_inj e))
  have e1 : (1 : Int) ≤ ((l.length + 1 : Nat) : Int) := by omega
  have e2 : ((l.length + 1 : Nat) : Int) ≤ (c : Int) := by omega
  have e3 : (0 : Int) < ((l.length + 1 : Nat) : Int) := by omega
  clear h3 hr n1 n2 n3 n4 n5 n6 n7 n8 n9 n10
  by_cases c1 : c = 1
  all_goals
    go_enter Tryd.func42, Tryd.ntmps42
    go_wp2_with (fail)
    ((try simp only [Exit.inBlock, Exit.then]); refine bodyPost_ret_by (results_cell_row2 rfl _ _ w.heap.size 59 _ (0, 0) _ rfl heap_two rfl rfl (by kernel_rfl)) rfl ?_)
    exact ⟨StepSays.bad BAD.out (by omega), (((Below.refl _ _).alloc (Nat.le_refl _) _).alloc (by simp) _)⟩
end Go.Proofs.YtoofflnaebkigaaDoor.Lg
