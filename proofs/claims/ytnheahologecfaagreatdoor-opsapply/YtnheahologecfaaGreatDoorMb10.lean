/- Joined by mkmerged.py: LgRsC, LgRstep, LgRpB. -/
import Derived.Test.YtnheahologecfaaGreatDoorMb05
import Derived.Test.YtnheahologecfaaGreatDoorMb09
import Derived.Test.YtnheahologecfaaGreatDoorMb08
/- LgRsC, what a claim needs of it (prune.py). -/
namespace Go.Proofs.YtnheahologecfaaGreatDoor.Lg
open Go.RowKit
set_option linter.unusedVariables false
set_option maxRecDepth 100000
theorem rstep_put_nil (ad : Addr) (c : Nat) (w : World) (hr : Strs w (some ad) [⟨#[112, 117, 116]⟩]) (hc : 1 ≤ c) :
    Calls Tryz.prog 179 #[.slice (some ad) 1 c] w fun e w' => StepSays w' (fun b => b = ad.block) [[112, 117, 116]] e ∧ Below w.heap.size w w' := by
  have e2 : (1 : Int) ≤ (c : Int) := by omega
  obtain ⟨_, h1, h2, h3⟩ := hr.at_ (k := 0) (by simp)
  injection h1 with h1
  subst h1
  have h4 : w.cell? ad = some (.string ⟨#[112, 117, 116]⟩) := h3
  have BAD : Hid (stepW [[112, 117, 116]] = none) := Lib.hid (by rw [stepW_put, if_neg (by simp)])
  clear h3 hr
  by_cases c1 : c = 1
  all_goals
    go_enter Tryz.func179, Tryz.ntmps179
    go_wp2_with (fail)
    ((try simp only [Exit.inBlock, Exit.then]); refine bodyPost_ret_by (results_cell_row2 rfl _ _ w.heap.size 64 _ (0, 0) _ rfl heap_two rfl rfl (by kernel_rfl)) rfl ?_)
    exact ⟨StepSays.bad BAD.out (by omega), (((Below.refl _ _).alloc (Nat.le_refl _) _).alloc (by simp) _)⟩
theorem rstep_copy_nil (ad : Addr) (c : Nat) (w : World) (hr : Strs w (some ad) [⟨#[99, 111, 112, 121]⟩]) (hc : 1 ≤ c) :
    Calls Tryz.prog 179 #[.slice (some ad) 1 c] w fun e w' => StepSays w' (fun b => b = ad.block) [[99, 111, 112, 121]] e ∧ Below w.heap.size w w' := by
  have e2 : (1 : Int) ≤ (c : Int) := by omega
  obtain ⟨_, h1, h2, h3⟩ := hr.at_ (k := 0) (by simp)
  injection h1 with h1
  subst h1
  have h4 : w.cell? ad = some (.string ⟨#[99, 111, 112, 121]⟩) := h3
  have BAD : Hid (stepW [[99, 111, 112, 121]] = none) := Lib.hid (by rw [stepW_copy, if_neg (by simp)])
  clear h3 hr
  by_cases c1 : c = 1
  all_goals
    go_enter Tryz.func179, Tryz.ntmps179
    go_wp2_with (fail)
    ((try simp only [Exit.inBlock, Exit.then]); refine bodyPost_ret_by (results_cell_row2 rfl _ _ w.heap.size 64 _ (0, 0) _ rfl heap_two rfl rfl (by kernel_rfl)) rfl ?_)
    exact ⟨StepSays.bad BAD.out (by omega), (((Below.refl _ _).alloc (Nat.le_refl _) _).alloc (by simp) _)⟩
theorem rstep_cat_nil (ad : Addr) (c : Nat) (w : World) (hr : Strs w (some ad) [⟨#[99, 97, 116]⟩]) (hc : 1 ≤ c) :
    Calls Tryz.prog 179 #[.slice (some ad) 1 c] w fun e w' => StepSays w' (fun b => b = ad.block) [[99, 97, 116]] e ∧ Below w.heap.size w w' := by
  have e2 : (1 : Int) ≤ (c : Int) := by omega
  obtain ⟨_, h1, h2, h3⟩ := hr.at_ (k := 0) (by simp)
  injection h1 with h1
  subst h1
  have h4 : w.cell? ad = some (.string ⟨#[99, 97, 116]⟩) := h3
  have BAD : Hid (stepW [[99, 97, 116]] = none) := Lib.hid (by rw [stepW_cat, if_neg (by simp)])
  clear h3 hr
  by_cases c1 : c = 1
  all_goals
    go_enter Tryz.func179, Tryz.ntmps179
    go_wp2_with (fail)
    ((try simp only [Exit.inBlock, Exit.then]); refine bodyPost_ret_by (results_cell_row2 rfl _ _ w.heap.size 64 _ (0, 0) _ rfl heap_two rfl rfl (by kernel_rfl)) rfl ?_)
    exact ⟨StepSays.bad BAD.out (by omega), (((Below.refl _ _).alloc (Nat.le_refl _) _).alloc (by simp) _)⟩
theorem rstep_upper_nil (ad : Addr) (c : Nat) (w : World) (hr : Strs w (some ad) [⟨#[117, 112, 112, 101, 114]⟩]) (hc : 1 ≤ c) :
    Calls Tryz.prog 179 #[.slice (some ad) 1 c] w fun e w' => StepSays w' (fun b => b = ad.block) [[117, 112, 112, 101, 114]] e ∧ Below w.heap.size w w' := by
  have e2 : (1 : Int) ≤ (c : Int) := by omega
  obtain ⟨_, h1, h2, h3⟩ := hr.at_ (k := 0) (by simp)
  injection h1 with h1
  subst h1
  have h4 : w.cell? ad = some (.string ⟨#[117, 112, 112, 101, 114]⟩) := h3
  have BAD : Hid (stepW [[117, 112, 112, 101, 114]] = none) := Lib.hid (by rw [stepW_upper, if_neg (by simp)])
  clear h3 hr
  by_cases c1 : c = 1
  all_goals
    go_enter Tryz.func179, Tryz.ntmps179
    go_wp2_with (fail)
    ((try simp only [Exit.inBlock, Exit.then]); refine bodyPost_ret_by (results_cell_row2 rfl _ _ w.heap.size 64 _ (0, 0) _ rfl heap_two rfl rfl (by kernel_rfl)) rfl ?_)
    exact ⟨StepSays.bad BAD.out (by omega), (((Below.refl _ _).alloc (Nat.le_refl _) _).alloc (by simp) _)⟩
theorem rstep_sort_nil (ad : Addr) (c : Nat) (w : World) (hr : Strs w (some ad) [⟨#[115, 111, 114, 116]⟩]) (hc : 1 ≤ c) :
    Calls Tryz.prog 179 #[.slice (some ad) 1 c] w fun e w' => StepSays w' (fun b => b = ad.block) [[115, 111, 114, 116]] e ∧ Below w.heap.size w w' := by
  have e2 : (1 : Int) ≤ (c : Int) := by omega
  obtain ⟨_, h1, h2, h3⟩ := hr.at_ (k := 0) (by simp)
  injection h1 with h1
  subst h1
  have h4 : w.cell? ad = some (.string ⟨#[115, 111, 114, 116]⟩) := h3
  have BAD : Hid (stepW [[115, 111, 114, 116]] = none) := Lib.hid (by rw [stepW_sort, if_neg (by simp)])
  clear h3 hr
  by_cases c1 : c = 1
  all_goals
    go_enter Tryz.func179, Tryz.ntmps179
    go_wp2_with (fail)
    ((try simp only [Exit.inBlock, Exit.then]); refine bodyPost_ret_by (results_cell_row2 rfl _ _ w.heap.size 64 _ (0, 0) _ rfl heap_two rfl rfl (by kernel_rfl)) rfl ?_)
    exact ⟨StepSays.bad BAD.out (by omega), (((Below.refl _ _).alloc (Nat.le_refl _) _).alloc (by simp) _)⟩
theorem rstep_drop_nil (ad : Addr) (c : Nat) (w : World) (hr : Strs w (some ad) [⟨#[100, 114, 111, 112]⟩]) (hc : 1 ≤ c) :
    Calls Tryz.prog 179 #[.slice (some ad) 1 c] w fun e w' => StepSays w' (fun b => b = ad.block) [[100, 114, 111, 112]] e ∧ Below w.heap.size w w' := by
  have e2 : (1 : Int) ≤ (c : Int) := by omega
  obtain ⟨_, h1, h2, h3⟩ := hr.at_ (k := 0) (by simp)
  injection h1 with h1
  subst h1
  have h4 : w.cell? ad = some (.string ⟨#[100, 114, 111, 112]⟩) := h3
  have BAD : Hid (stepW [[100, 114, 111, 112]] = none) := Lib.hid (by rw [stepW_drop, if_neg (by simp)])
  clear h3 hr
  by_cases c1 : c = 1
  all_goals
    go_enter Tryz.func179, Tryz.ntmps179
    go_wp2_with (fail)
    ((try simp only [Exit.inBlock, Exit.then]); refine bodyPost_ret_by (results_cell_row2 rfl _ _ w.heap.size 64 _ (0, 0) _ rfl heap_two rfl rfl (by kernel_rfl)) rfl ?_)
    exact ⟨StepSays.bad BAD.out (by omega), (((Below.refl _ _).alloc (Nat.le_refl _) _).alloc (by simp) _)⟩
theorem rstep_need_nil (ad : Addr) (c : Nat) (w : World) (hr : Strs w (some ad) [⟨#[110, 101, 101, 100]⟩]) (hc : 1 ≤ c) :
    Calls Tryz.prog 179 #[.slice (some ad) 1 c] w fun e w' => StepSays w' (fun b => b = ad.block) [[110, 101, 101, 100]] e ∧ Below w.heap.size w w' := by
  have e2 : (1 : Int) ≤ (c : Int) := by omega
  obtain ⟨_, h1, h2, h3⟩ := hr.at_ (k := 0) (by simp)
  injection h1 with h1
  subst h1
  have h4 : w.cell? ad = some (.string ⟨#[110, 101, 101, 100]⟩) := h3
  have BAD : Hid (stepW [[110, 101, 101, 100]] = none) := Lib.hid (by rw [stepW_need, if_neg (by simp)])
  clear h3 hr
  by_cases c1 : c = 1
  all_goals
    go_enter Tryz.func179, Tryz.ntmps179
    go_wp2_with (fail)
    ((try simp only [Exit.inBlock, Exit.then]); refine bodyPost_ret_by (results_cell_row2 rfl _ _ w.heap.size 64 _ (0, 0) _ rfl heap_two rfl rfl (by kernel_rfl)) rfl ?_)
    exact ⟨StepSays.bad BAD.out (by omega), (((Below.refl _ _).alloc (Nat.le_refl _) _).alloc (by simp) _)⟩
theorem rstep_fail_nil (ad : Addr) (c : Nat) (w : World) (hr : Strs w (some ad) [⟨#[102, 97, 105, 108]⟩]) (hc : 1 ≤ c) :
    Calls Tryz.prog 179 #[.slice (some ad) 1 c] w fun e w' => StepSays w' (fun b => b = ad.block) [[102, 97, 105, 108]] e ∧ Below w.heap.size w w' := by
  have e2 : (1 : Int) ≤ (c : Int) := by omega
  obtain ⟨_, h1, h2, h3⟩ := hr.at_ (k := 0) (by simp)
  injection h1 with h1
  subst h1
  have h4 : w.cell? ad = some (.string ⟨#[102, 97, 105, 108]⟩) := h3
  have BAD : Hid (stepW [[102, 97, 105, 108]] = none) := Lib.hid (by rw [stepW_fail, if_neg (by simp)])
  clear h3 hr
  by_cases c1 : c = 1
  all_goals
    go_enter Tryz.func179, Tryz.ntmps179
    go_wp2_with (fail)
    ((try simp only [Exit.inBlock, Exit.then]); refine bodyPost_ret_by (results_cell_row2 rfl _ _ w.heap.size 64 _ (0, 0) _ rfl heap_two rfl rfl (by kernel_rfl)) rfl ?_)
    exact ⟨StepSays.bad BAD.out (by omega), (((Below.refl _ _).alloc (Nat.le_refl _) _).alloc (by simp) _)⟩
theorem rstep_loop_nil (ad : Addr) (c : Nat) (w : World) (hr : Strs w (some ad) [⟨#[108, 111, 111, 112]⟩]) (hc : 1 ≤ c) :
    Calls Tryz.prog 179 #[.slice (some ad) 1 c] w fun e w' => StepSays w' (fun b => b = ad.block) [[108, 111, 111, 112]] e ∧ Below w.heap.size w w' := by
  have e2 : (1 : Int) ≤ (c : Int) := by omega
  obtain ⟨_, h1, h2, h3⟩ := hr.at_ (k := 0) (by simp)
  injection h1 with h1
  subst h1
  have h4 : w.cell? ad = some (.string ⟨#[108, 111, 111, 112]⟩) := h3
  have BAD : Hid (stepW [[108, 111, 111, 112]] = none) := Lib.hid (by rw [stepW_loop])
  clear h3 hr
  by_cases c1 : c = 1
  all_goals
    go_enter Tryz.func179, Tryz.ntmps179
    go_wp2_with (fail)
    ((try simp only [Exit.inBlock, Exit.then]); refine bodyPost_ret_by (results_cell_row2 rfl _ _ w.heap.size 64 _ (0, 0) _ rfl heap_two rfl rfl (by kernel_rfl)) rfl ?_)
    exact ⟨StepSays.bad BAD.out (by omega), (((Below.refl _ _).alloc (Nat.le_refl _) _).alloc (by simp) _)⟩
theorem rstep_if_nil (ad : Addr) (c : Nat) (w : World) (hr : Strs w (some ad) [⟨#[105, 102]⟩]) (hc : 1 ≤ c) :
    Calls Tryz.prog 179 #[.slice (some ad) 1 c] w fun e w' => StepSays w' (fun b => b = ad.block) [[105, 102]] e ∧ Below w.heap.size w w' := by
  have e2 : (1 : Int) ≤ (c : Int) := by omega
  obtain ⟨_, h1, h2, h3⟩ := hr.at_ (k := 0) (by simp)
  injection h1 with h1
  subst h1
  have h4 : w.cell? ad = some (.string ⟨#[105, 102]⟩) := h3
  have BAD : Hid (stepW [[105, 102]] = none) := Lib.hid (by rw [stepW_if, if_neg (by simp)])
  clear h3 hr
  by_cases c1 : c = 1
  all_goals
    go_enter Tryz.func179, Tryz.ntmps179
    go_wp2_with (fail)
    ((try simp only [Exit.inBlock, Exit.then]); refine bodyPost_ret_by (results_cell_row2 rfl _ _ w.heap.size 64 _ (0, 0) _ rfl heap_two rfl rfl (by kernel_rfl)) rfl ?_)
    exact ⟨StepSays.bad BAD.out (by omega), (((Below.refl _ _).alloc (Nat.le_refl _) _).alloc (by simp) _)⟩
theorem lit_inj {x : ByteArray} {l : List UInt8} (h : x.toList = l) : x = ⟨l.toArray⟩ := by
  rw [Lib.toList_data] at h
  exact tl_inj h
set_option maxHeartbeats 2000000 in
theorem rstep_no (ad : Addr) (x : ByteArray) (l : List ByteArray) (c : Nat) (w : World) (hr : Strs w (some ad) (x :: l)) (hl : l.length ≤ 1000000) (hc : l.length + 1 ≤ c) (n1 : x ≠ ⟨#[112, 117, 116]⟩) (n2 : x ≠ ⟨#[99, 111, 112, 121]⟩) (n3 : x ≠ ⟨#[99, 97, 116]⟩) (n4 : x ≠ ⟨#[117, 112, 112, 101, 114]⟩) (n5 : x ≠ ⟨#[115, 111, 114, 116]⟩) (n6 : x ≠ ⟨#[100, 114, 111, 112]⟩) (n7 : x ≠ ⟨#[110, 101, 101, 100]⟩) (n8 : x ≠ ⟨#[102, 97, 105, 108]⟩) (n9 : x ≠ ⟨#[108, 111, 111, 112]⟩) (n10 : x ≠ ⟨#[105, 102]⟩) :
    Calls Tryz.prog 179 #[.slice (some ad) (l.length + 1) c] w fun e w' => StepSays w' (fun b => b = ad.block) (tl x :: l.map tl) e ∧ Below w.heap.size w w' := by
  obtain ⟨_, h1, h2, h3⟩ := hr.at_ (k := 0) (by simp)
  injection h1 with h1
  subst h1
  have h4 : w.cell? ad = some (.string x) := h3
  have BAD := Lib.hid (stepW_no _ (fun e => n1 (tl_inj e)) (fun e => n2 (tl_inj e)) (fun e => n3 (tl_inj e)) (fun e => n4 (tl_inj e)) (fun e => n5 (tl_inj e)) (fun e => n6 (tl_inj e)) (fun e => n7 (tl_inj e)) (fun e => n8 (tl_inj e)) (fun e => n9 (tl_inj e)) (fun e => n10 (tl_inj e)) : stepW (tl x :: l.map tl) = none)
  have f1 : (x.toList == [112, 117, 116]) = false := beq_eq_false_iff_ne.2 (fun e => n1 (lit_inj e))
  have f2 : (x.toList == [99, 111, 112, 121]) = false := beq_eq_false_iff_ne.2 (fun e => n2 (lit_inj e))
  have f3 : (x.toList == [99, 97, 116]) = false := beq_eq_false_iff_ne.2 (fun e => n3 (lit_inj e))
  have f4 : (x.toList == [117, 112, 112, 101, 114]) = false := beq_eq_false_iff_ne.2 (fun e => n4 (lit_inj e))
  have f5 : (x.toList == [115, 111, 114, 116]) = false := beq_eq_false_iff_ne.2 (fun e => n5 (lit_inj e))
  have f6 : (x.toList == [100, 114, 111, 112]) = false := beq_eq_false_iff_ne.2 (fun e => n6 (lit_inj e))
  have f7 : (x.toList == [110, 101, 101, 100]) = false := beq_eq_false_iff_ne.2 (fun e => n7 (lit_inj e))
  have f8 : (x.toList == [102, 97, 105, 108]) = false := beq_eq_false_iff_ne.2 (fun e => n8 (lit_inj e))
  have f9 : (x.toList == [108, 111, 111, 112]) = false := beq_eq_false_iff_ne.2 (fun e => n9 (lit_inj e))
  have f10 : (x.toList == [105, 102]) = false := beq_eq_false_iff_ne.2 (fun e => n10 (lit_inj e))
  have e1 : (1 : Int) ≤ ((l.length + 1 : Nat) : Int) := by omega
  have e2 : ((l.length + 1 : Nat) : Int) ≤ (c : Int) := by omega
  have e3 : (0 : Int) < ((l.length + 1 : Nat) : Int) := by omega
  clear h3 hr n1 n2 n3 n4 n5 n6 n7 n8 n9 n10
  by_cases c1 : c = 1
  all_goals
    go_enter Tryz.func179, Tryz.ntmps179
    go_wp2_with (fail)
    ((try simp only [Exit.inBlock, Exit.then]); refine bodyPost_ret_by (results_cell_row2 rfl _ _ w.heap.size 64 _ (0, 0) _ rfl heap_two rfl rfl (by kernel_rfl)) rfl ?_)
    exact ⟨StepSays.bad BAD.out (by omega), (((Below.refl _ _).alloc (Nat.le_refl _) _).alloc (by simp) _)⟩
end Go.Proofs.YtnheahologecfaaGreatDoor.Lg
/- LgRstep, what a claim needs of it (prune.py). -/
namespace Go.Proofs.YtnheahologecfaaGreatDoor.Lg
open Go.RowKit
set_option linter.unusedVariables false
set_option maxRecDepth 100000
theorem rstep_any (ad : Addr) (x : ByteArray) (l : List ByteArray) (c : Nat) (w : World) (hr : Strs w (some ad) (x :: l)) (hl : l.length ≤ 1000000) (hs : ∀ p ∈ l, p.size ≤ 1000000) (hc : l.length + 1 ≤ c) :
    Calls Tryz.prog 179 #[.slice (some ad) (l.length + 1) c] w fun e w' => StepSays w' (fun b => b = ad.block) (tl x :: l.map tl) e ∧ Below w.heap.size w w' := by
  by_cases n1 : x = ⟨#[112, 117, 116]⟩
  · subst n1
    cases l with
    | nil => exact rstep_put_nil ad c w hr hc
    | cons y l => exact rstep_put ad y l c w hr hl hs hc
  by_cases n2 : x = ⟨#[99, 111, 112, 121]⟩
  · subst n2
    cases l with
    | nil => exact rstep_copy_nil ad c w hr hc
    | cons y l => exact rstep_copy ad y l c w hr hl hs hc
  by_cases n3 : x = ⟨#[99, 97, 116]⟩
  · subst n3
    cases l with
    | nil => exact rstep_cat_nil ad c w hr hc
    | cons y l => exact rstep_cat ad y l c w hr hl hs hc
  by_cases n4 : x = ⟨#[117, 112, 112, 101, 114]⟩
  · subst n4
    cases l with
    | nil => exact rstep_upper_nil ad c w hr hc
    | cons y l => exact rstep_upper ad y l c w hr hl hs hc
  by_cases n5 : x = ⟨#[115, 111, 114, 116]⟩
  · subst n5
    cases l with
    | nil => exact rstep_sort_nil ad c w hr hc
    | cons y l => exact rstep_sort ad y l c w hr hl hs hc
  by_cases n6 : x = ⟨#[100, 114, 111, 112]⟩
  · subst n6
    cases l with
    | nil => exact rstep_drop_nil ad c w hr hc
    | cons y l => exact rstep_drop ad y l c w hr hl hs hc
  by_cases n7 : x = ⟨#[110, 101, 101, 100]⟩
  · subst n7
    cases l with
    | nil => exact rstep_need_nil ad c w hr hc
    | cons y l => exact rstep_need ad y l c w hr hl hs hc
  by_cases n8 : x = ⟨#[102, 97, 105, 108]⟩
  · subst n8
    cases l with
    | nil => exact rstep_fail_nil ad c w hr hc
    | cons y l => exact rstep_fail ad y l c w hr hl hs hc
  by_cases n9 : x = ⟨#[108, 111, 111, 112]⟩
  · subst n9
    cases l with
    | nil => exact rstep_loop_nil ad c w hr hc
    | cons y l => exact rstep_loop ad y l c w hr hl hs hc
  by_cases n10 : x = ⟨#[105, 102]⟩
  · subst n10
    cases l with
    | nil => exact rstep_if_nil ad c w hr hc
    | cons y l => exact rstep_if ad y l c w hr hl hs hc
  exact rstep_no ad x l c w hr hl hc n1 n2 n3 n4 n5 n6 n7 n8 n9 n10
end Go.Proofs.YtnheahologecfaaGreatDoor.Lg
/- LgRpB, what a claim needs of it (prune.py). -/
namespace Go.Proofs.YtnheahologecfaaGreatDoor.Lg
open Go.RowKit
set_option linter.unusedVariables false
set_option maxRecDepth 100000
theorem infoL : (Tryz.prog.info? 45).map (fun i => (i.zero, i.size, i.bytes)) = some (some (.slice none 0 0), 1, 24) := by kernel_rfl
def Rp (B0 : Nat) (wr : World) (kv hv : Value) (fs : List Frame) (cur : List Stp) : Prop :=
  ∃ (b : Nat) (hc vs : List Value) (v : Value), wr.ownsRow B0 45 1 kv (fs.length + 1) (vs ++ [v]) ∧ wr.ownsRow B0 64 4 hv fs.length hc ∧ Fr wr (own2 hv kv) B0 b fs hc vs ∧ Slot wr b wr.heap.size (own2 hv kv) v cur ∧ B0 ≤ b ∧ b ≤ wr.heap.size
theorem Rp.start (w1 : World) : Rp w1.heap.size (w1.alloc (.cells #[.slice none 0 0] 45)) (.slice (some ⟨w1.heap.size, 0, none⟩) 1 1) (.slice none 0 0) [] [] := by
  refine ⟨w1.heap.size, [], [], .slice none 0 0, ⟨rfl, .inr ⟨w1.heap.size, 1, _, rfl, Nat.le_refl _, heap_new w1 _, Nat.le_refl _, by simp [maxLen], rfl, rfl⟩⟩, World.ownsRow_nil _ _ _ _, Fr.nil (Nat.le_refl _), Slot.none_ _ _ _ _, Nat.le_refl _, by simp⟩
theorem own_ne {w : World} {B1 B2 n1 n2 s1 s2 : Nat} {e1 e2 : TypeId} {v1 v2 : Value} {x1 x2 : List Value} (h1 : w.ownsRow B1 e1 s1 v1 n1 x1) (h2 : w.ownsRow B2 e2 s2 v2 n2 x2) (he : e1 ≠ e2) {g : Nat} (hg : v1.ownBlock = some g) : v2.ownBlock ≠ some g := by
  intro hg2
  rcases h1.2 with ⟨rfl, _⟩ | ⟨g1, c1, u1, rfl, _, hh1, _⟩
  · cases hg
  · rcases h2.2 with ⟨rfl, _⟩ | ⟨g2, c2, u2, rfl, _, hh2, _⟩
    · cases hg2
    · injection hg with hg
      injection hg2 with hg2
      simp only at hg hg2
      subst hg
      subst hg2
      rw [hh1] at hh2
      injection hh2 with hh2
      injection hh2 with _ ht
      exact he ht
theorem Rp.push {B0 b : Nat} {wr w3 w5 : World} {hv kv hv2 kv2 v : Value} {fs : List Frame} {cur : List Stp} {hc vs : List Value} {op n : Int} {A : Option Addr} {k c g2 : Nat} {args : List Lg.B}
    (hb3 : Below wr.heap.size wr w3) (h35 : w3.heap.size ≤ w5.heap.size)
    (hK : ∀ x, x < w3.heap.size → ¬ own2 hv kv x → w5.heap[x]? = w3.heap[x]?) (hX : ∀ x, own2 hv2 kv2 x → own2 hv kv x ∨ w3.heap.size ≤ x) (hXo : ∀ x, own2 hv kv x → x < wr.heap.size)
    (ok : w5.ownsRow B0 45 1 kv2 (fs.length + 1 + 1) (vs ++ [v] ++ [.slice none 0 0])) (oh : w5.ownsRow B0 64 4 hv2 (fs.length + 1) (hc ++ [.int .i64 op, .slice A k c, .int .i64 n, .slice none 0 0]))
    (hf : Fr wr (own2 hv kv) B0 b fs hc vs) (hs : Slot wr b wr.heap.size (own2 hv kv) v cur) (hB0 : B0 ≤ b) (hbs : b ≤ wr.heap.size)
    (hk : k = args.length) (hc' : k ≤ c) (hl : Lies w3 (fun x => x = g2) 1 A k (strV args)) (hg2 : wr.heap.size ≤ g2) :
    Rp B0 w5 kv2 hv2 (⟨op, args, n, cur⟩ :: fs) [] := by
  have key : ∀ x, x < wr.heap.size → ¬ own2 hv kv x → ¬ own2 hv2 kv2 x ∧ w5.heap[x]? = wr.heap[x]? := fun x hx hn => by
    have h3 := hb3.size
    refine ⟨fun h => ?_, (hK x (by omega) hn).trans (hb3.block x hx)⟩
    rcases hX x h with h | h
    · exact hn h
    · omega
  have h3 := hb3.size
  refine ⟨w5.heap.size, _, vs ++ [v], .slice none 0 0, ok, oh, .cons (hf.keep fun x hx _ hn => key x (by omega) hn) (by omega) (hs.keep (by omega) fun x _ hx _ hn => key x hx hn) hk hc' (hl.mono (by omega) ?_), Slot.none_ _ _ _ _, by omega, Nat.le_refl _⟩
  rintro x rfl hx
  obtain ⟨cells, o1, _, o3⟩ := hs
  refine ⟨⟨by omega, by omega, fun e => by have := (o3 _ e.symm).1; omega, fun h => ?_⟩, hK _ hx (fun h => by have := hXo _ h; omega)⟩
  rcases hX _ h with h | h
  · have := hXo _ h; omega
  · omega
theorem own_keepB {w w' : World} {B : Nat} {e : TypeId} {size n : Nat} {v : Value} {xs : List Value} (h : w.ownsRow B e size v n xs) (hk : ∀ g, v.ownBlock = some g → w'.heap[g]? = w.heap[g]?) : w'.ownsRow B e size v n xs := by
  refine ⟨h.1, ?_⟩
  rcases h.2 with h2 | ⟨g, cap, cur, rfl, hB, hg, h1, h2, h3, h4⟩
  · exact .inl h2
  · exact .inr ⟨g, cap, cur, rfl, hB, (hk g rfl).trans hg, h1, h2, h3, h4⟩
theorem Rp.add {B0 b n d gk ck ge ce : Nat} {wr W3 w4 wx : World} {hv v : Value} {Z : Obj} {fs : List Frame} {cur : List Stp} {hc vs cells : List Value} {op m : Int} {A Bk : Option Addr} {k c kb cb : Nat} {args : List Lg.B} {inn : List Stp}
    (hbW : Below wr.heap.size wr W3) (hg4 : (W3.alloc Z).grownBy w4 v.ownBlock) (hat4 : (Value.slice (some ⟨ge, 0, none⟩) (n + 1) ce).ownBlock = v.ownBlock ∨ (Value.slice (some ⟨ge, 0, none⟩) (n + 1) ce).ownBlock = some (W3.alloc Z).heap.size)
    (hn : n = cur.length) (hd : d = fs.length)
    (ox : wx.ownsRow b 64 4 (.slice (some ⟨ge, 0, none⟩) (n + 1) ce) (n + 1) (cells ++ [.int .i64 op, .slice A k c, .int .i64 m, .slice Bk kb cb]))
    (kx : wx.ownsRow B0 45 1 (.slice (some ⟨gk, 0, none⟩) (d + 1) ck) (d + 1) (vs ++ [.slice (some ⟨ge, 0, none⟩) (n + 1) ce]))
    (hsm : ∀ x, x ≠ ge → x ≠ gk → wx.heap[x]? = w4.heap[x]?) (hsz : wx.heap.size = w4.heap.size)
    (oh : wr.ownsRow B0 64 4 hv d hc) (ok : wr.ownsRow B0 45 1 (.slice (some ⟨gk, 0, none⟩) (d + 1) ck) (d + 1) (vs ++ [v]))
    (hf : Fr wr (own2 hv (.slice (some ⟨gk, 0, none⟩) (d + 1) ck)) B0 b fs hc vs) (ov : wr.ownsRow b 64 4 v n cells)
    (rc : RowAt wr (okS b wr.heap.size (own2 hv (.slice (some ⟨gk, 0, none⟩) (d + 1) ck)) v) cells cur) (xc : ∀ g, v.ownBlock = some g → g < wr.heap.size ∧ ¬ own2 hv (.slice (some ⟨gk, 0, none⟩) (d + 1) ck) g)
    (hB0 : B0 ≤ b) (hbs : b ≤ wr.heap.size) (hk : k = args.length) (hc' : k ≤ c)
    (hl : Lies W3 (okS b W3.heap.size (own2 hv (.slice (some ⟨gk, 0, none⟩) (d + 1) ck)) v) 1 A k (strV args)) (hkb : kb ≤ cb) (hin : StepsAt W3 (okS b W3.heap.size (own2 hv (.slice (some ⟨gk, 0, none⟩) (d + 1) ck)) v) Bk kb inn) :
    Rp B0 wx (.slice (some ⟨gk, 0, none⟩) (d + 1) ck) hv fs (cur ++ [⟨op, args, m, inn⟩]) := by
  subst hn
  subst hd
  have h3 := hbW.size
  have h4 := hg4.size
  have h4' : W3.heap.size + 1 ≤ w4.heap.size := by simpa using h4
  have hXo : ∀ x, own2 hv (.slice (some ⟨gk, 0, none⟩) (fs.length + 1) ck) x → x < wr.heap.size := fun x hx => by
    rcases hx with hx | hx
    · exact (own_block oh hx.symm).2
    · exact (own_block ok hx.symm).2
  have hge : (v.ownBlock = some ge ∨ W3.heap.size < ge) ∧ ¬ own2 hv (.slice (some ⟨gk, 0, none⟩) (fs.length + 1) ck) ge := by
    rcases hat4 with e | e
    · have e : v.ownBlock = some ge := e.symm
      exact ⟨.inl e, (xc ge e).2⟩
    · have e : ge = (W3.alloc Z).heap.size := Option.some.inj e
      have e2 : ge = W3.heap.size + 1 := by simpa using e
      exact ⟨.inr (by omega), fun h => by have := hXo _ h; omega⟩
  have old : ∀ x, x < W3.heap.size → some x ≠ v.ownBlock → x ≠ gk → wx.heap[x]? = W3.heap[x]? := fun x hx hv' hk' => by
    have hxe : x ≠ ge := fun e => by
      rcases hge.1 with h | h
      · exact hv' (by rw [h, e])
      · omega
    exact (hsm x hxe hk').trans ((hg4.block x (by simp; omega) hv').trans (Below.heap_alloc _ _ _ hx))
  have key : ∀ x, x < wr.heap.size → some x ≠ v.ownBlock → ¬ own2 hv (.slice (some ⟨gk, 0, none⟩) (fs.length + 1) ck) x → wx.heap[x]? = wr.heap[x]? := fun x hx hv' hn => (old x (by omega) hv' (fun e => hn (.inr (by rw [e]; rfl)))).trans (hbW.block x hx)
  refine ⟨b, hc, vs, _, kx, own_keepB oh fun g hg => ?_, hf.keep fun x hx _ hn => ⟨hn, key x (by omega) (fun e => by have := (own_block ov e.symm).1; omega) hn⟩, ?_, hB0, by omega⟩
  · have hlt := (own_block oh hg).2
    exact (old g (by omega) (fun e => (xc g e.symm).2 (.inl hg.symm)) (fun e => own_ne oh ok (by decide) hg (by rw [e]; rfl))).trans (hbW.block g hlt)
  · refine slot_push (w := W3) (v := v) (rc.mono fun x hx hlt => ⟨hx, hbW.block x hlt⟩) h3 (by omega) ox (fun x hbx hx hv' hn => ⟨hn, old x hx hv' (fun e => hn (.inr (by rw [e]; rfl)))⟩) (fun g hg => ?_) hk hc' hl hkb hin
    have hg : ge = g := Option.some.inj hg
    subst hg
    exact ⟨hge.1.imp id (by omega), hge.2⟩
theorem own_form2 {w : World} {B n size : Nat} {e : TypeId} {v : Value} {xs : List Value} (h : w.ownsRow B e size v n xs) : ∃ A c, v = .slice A n c ∧ n ≤ c := by
  rcases h.2 with ⟨rfl, rfl⟩ | ⟨g, cap, cur, rfl, _, _, h1, _⟩
  · exact ⟨none, 0, rfl, Nat.le_refl _⟩
  · exact ⟨_, _, rfl, h1⟩
theorem own_some {w : World} {B n size : Nat} {e : TypeId} {v : Value} {xs : List Value} (h : w.ownsRow B e size v n xs) (hn : 0 < n) : ∃ g c, v = .slice (some ⟨g, 0, none⟩) n c ∧ n ≤ c ∧ B ≤ g := by
  rcases h.2 with ⟨_, rfl⟩ | ⟨g, cap, cur, rfl, hB, _, h1, _⟩
  · omega
  · exact ⟨_, _, rfl, h1, hB⟩
theorem words_split (line : ByteArray) (hs : line.size ≤ 1000000) (x : ByteArray) (l : List ByteArray) (hxl : pieces 32 line = x :: l) (W : World) :
    Calls Tryz.prog 178 #[.string line, .int .u8 32] W fun e w' => (∃ g c, e = .returned (.slice (some ⟨g, 0, none⟩) (l.length + 1) c) ∧ W.heap.size ≤ g ∧ l.length + 1 ≤ c ∧ Strs w' (some ⟨g, 0, none⟩) (x :: l)) ∧ Below W.heap.size W w' :=
  (rsplit_any line 32 W hs).mono (by
    rintro e w' ⟨v, rfl, ho, hb⟩
    rw [hxl] at ho
    obtain ⟨g, c, rfl, h1, h2⟩ := own_some ho (by simp)
    exact ⟨⟨g, c, rfl, h2, h1, Reads.of_own ho⟩, hb⟩)
theorem rstep_none {g : Nat} {x : ByteArray} {l : List ByteArray} {c : Nat} {w : World} (h : stepW (tl x :: l.map tl) = none) (hr : Strs w (some ⟨g, 0, none⟩) (x :: l)) (hl : l.length ≤ 1000000) (hs : ∀ p ∈ l, p.size ≤ 1000000) (hc : l.length + 1 ≤ c) :
    Calls Tryz.prog 179 #[.slice (some ⟨g, 0, none⟩) (l.length + 1) c] w fun e w' => (∃ (op : Int) (A : Option Addr) (k c : Nat) (n : Int), e = .returned (.tuple #[.agg #[.int .i64 op, .slice A k c, .int .i64 n, .slice none 0 0], .bool false])) ∧ Below w.heap.size w w' := by
  refine (rstep_any _ x l c w hr hl hs hc).mono ?_
  rintro e w' ⟨⟨op, A, k, c, n, g, rfl, hk, hm⟩, hb⟩
  rw [h] at hm
  obtain rfl := hm
  exact ⟨⟨op, A, k, c, n, rfl⟩, hb⟩
theorem rstep_some {g : Nat} {x : ByteArray} {l : List ByteArray} {c : Nat} {w : World} {op n : Int} {xs : List B} (h : stepW (tl x :: l.map tl) = some (op, xs, n)) (hr : Strs w (some ⟨g, 0, none⟩) (x :: l)) (hl : l.length ≤ 1000000) (hs : ∀ p ∈ l, p.size ≤ 1000000) (hc : l.length + 1 ≤ c) :
    Calls Tryz.prog 179 #[.slice (some ⟨g, 0, none⟩) (l.length + 1) c] w fun e w' => (∃ (A : Option Addr) (k c : Nat), e = .returned (.tuple #[.agg #[.int .i64 op, .slice A k c, .int .i64 n, .slice none 0 0], .bool true]) ∧ k = xs.length ∧ k ≤ c ∧ Lies w' (fun b => b = g) 1 A k (strV xs)) ∧ Below w.heap.size w w' := by
  refine (rstep_any _ x l c w hr hl hs hc).mono ?_
  rintro e w' ⟨⟨op', A, k, c, n', g, rfl, hk, hm⟩, hb⟩
  rw [h] at hm
  obtain ⟨rfl, rfl, rfl, hx, hl⟩ := hm
  exact ⟨⟨A, k, c, rfl, hx, hk, hl⟩, hb⟩
def Res.is : Res → List Stp → Int → Prop
  | .ok out _, m, q => m = out ∧ q = 0
  | .err k, m, q => m = [] ∧ q = (k : Int)
def RpSays (w w' : World) (r : Res) (e : Ending) : Prop :=
  (∃ A k c m q, e = .returned (.tuple #[.slice A k c, .int .i64 q]) ∧ r.is m q ∧ k ≤ c ∧ StepsAt w' (fun _ => True) A k m) ∧ Below w.heap.size w w'
theorem RpSays.err {w w' : World} {r : Res} {k : Nat} (h : r = .err k) (hb : Below w.heap.size w w') : RpSays w w' r (.returned (.tuple #[.slice none 0 0, .int .i64 k])) :=
  ⟨⟨none, 0, 0, [], k, rfl, by rw [h]; exact ⟨rfl, rfl⟩, Nat.le_refl _, rfl, [], Lies.none_, .nil⟩, hb⟩
theorem Rp.add_both {B0 b n d gk ck ge ce : Nat} {w1 wr W3 w4 wx : World} {hv v z0 z1 z2 z3 : Value} {Z : Obj} {fs : List Frame} {cur : List Stp} {hc vs cells : List Value} {op m : Int} {A Bk : Option Addr} {k c kb cb : Nat} {args : List Lg.B} {inn : List Stp}
    (hbw : Below B0 w1 wr) (hbW : Below wr.heap.size wr W3) (hg4 : (W3.alloc Z).grownBy w4 v.ownBlock) (hat4 : (Value.slice (some ⟨ge, 0, none⟩) (n + 1) ce).ownBlock = v.ownBlock ∨ (Value.slice (some ⟨ge, 0, none⟩) (n + 1) ce).ownBlock = some (W3.alloc Z).heap.size)
    (hn : n = cur.length) (hd : d = fs.length)
    (hs : w4.ownsRow b 64 4 (.slice (some ⟨ge, 0, none⟩) (n + 1) ce) (n + 1) (cells ++ [z0, z1, z2, z3]))
    (hk4 : w4.ownsRow B0 45 1 (.slice (some ⟨gk, 0, none⟩) (d + 1) ck) (d + 1) (vs ++ [v])) (hne : ¬ ge = gk)
    (oh : wr.ownsRow B0 64 4 hv d hc) (ok : wr.ownsRow B0 45 1 (.slice (some ⟨gk, 0, none⟩) (d + 1) ck) (d + 1) (vs ++ [v]))
    (hf : Fr wr (own2 hv (.slice (some ⟨gk, 0, none⟩) (d + 1) ck)) B0 b fs hc vs) (ov : wr.ownsRow b 64 4 v n cells)
    (rc : RowAt wr (okS b wr.heap.size (own2 hv (.slice (some ⟨gk, 0, none⟩) (d + 1) ck)) v) cells cur) (xc : ∀ g, v.ownBlock = some g → g < wr.heap.size ∧ ¬ own2 hv (.slice (some ⟨gk, 0, none⟩) (d + 1) ck) g)
    (hB0 : B0 ≤ b) (hbs : b ≤ wr.heap.size) (hk : k = args.length) (hc' : k ≤ c)
    (hl : Lies W3 (okS b W3.heap.size (own2 hv (.slice (some ⟨gk, 0, none⟩) (d + 1) ck)) v) 1 A k (strV args)) (hkb : kb ≤ cb) (hin : StepsAt W3 (okS b W3.heap.size (own2 hv (.slice (some ⟨gk, 0, none⟩) (d + 1) ck)) v) Bk kb inn)
    (hx : wx = (((((w4.setCell ⟨ge, n * 4, none⟩ (.int .i64 op)).setCell ⟨ge, n * 4 + 1, none⟩ (.slice A k c)).setCell ⟨ge, n * 4 + 2, none⟩ (.int .i64 m)).setCell ⟨ge, n * 4 + 3, none⟩ (.slice Bk kb cb)).setCell ⟨gk, d, none⟩ (.slice (some ⟨ge, 0, none⟩) (n + 1) ce)) ∨
      wx = (((((w4.setCell ⟨gk, d, none⟩ (.slice (some ⟨ge, 0, none⟩) (n + 1) ce)).setCell ⟨ge, n * 4, none⟩ (.int .i64 op)).setCell ⟨ge, n * 4 + 1, none⟩ (.slice A k c)).setCell ⟨ge, n * 4 + 2, none⟩ (.int .i64 m)).setCell ⟨ge, n * 4 + 3, none⟩ (.slice Bk kb cb))) :
    Rp B0 wx (.slice (some ⟨gk, 0, none⟩) (d + 1) ck) hv fs (cur ++ [⟨op, args, m, inn⟩]) ∧ Below B0 w1 wx := by
  obtain ⟨a1, a2, a3, a4, a5, a6, a7⟩ := laid_both (wx := wx) (ck := ck) ov.1 (by rw [hd]; exact hf.len.2) hne hs hk4 hx
  refine ⟨Rp.add hbW hg4 hat4 hn hd a1 a2 a3 a4 oh ok hf ov rc xc hB0 hbs hk hc' hl hkb hin, hbw.trans ?_⟩
  have h3 := hbW.size
  have h4 : W3.heap.size + 1 ≤ w4.heap.size := by have := hg4.size; simpa using this
  have hgk := (own_block ok (g := gk) rfl).1
  have hge := (own_block hs (g := ge) rfl).1
  have b4 : Below B0 wr w4 := ((hbW.mono (by omega)).alloc (by omega) Z).grown hg4 (by simp; omega) (fun g hg => by have := (own_block ov hg).1; omega)
  exact ⟨a5.trans b4.os, a6.trans b4.tape, a7.trans b4.output, by rw [a4]; exact b4.size, fun y hy => (a3 y (by omega) (by omega)).trans (b4.block y hy)⟩
end Go.Proofs.YtnheahologecfaaGreatDoor.Lg
