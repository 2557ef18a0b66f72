/- What blake's constants and rows are. -/
import Derived.Test.YtknmjbfhagldbaaDoorBlkMix
import Derived.Laws.CopyOwn
namespace Go.Proofs.YtknmjbfhagldbaaDoor
open Go.RowKit Blk
set_option linter.unusedVariables false
set_option maxRecDepth 100000

def u32s (l : List Nat) : Array Value := (l.map fun n : Nat => Value.int .u32 n).toArray
theorem u32s_set (l : List Nat) (i x : Nat) : (u32s l).setIfInBounds i (.int .u32 x) = u32s (l.set i x) := by
  simp [u32s, List.map_set]
theorem u32s_get (l : List Nat) (i : Nat) (h : i < l.length) : (u32s l)[i]? = some (.int .u32 (l.getD i 0 : Nat)) := by
  simp [u32s, h]
theorem u32s_size (l : List Nat) : (u32s l).size = l.length := by simp [u32s]
theorem u32s_one (l : List Nat) : ∀ v ∈ (u32s l).toList, v.oneCell' = true := by
  intro v hv; simp [u32s] at hv; obtain ⟨n, _, rfl⟩ := hv; rfl
theorem u32s_splice (l m : List Nat) (k : Nat) : (splice (u32s l).toList k (u32s m).toList).toArray = u32s (l.take k ++ m ++ l.drop (k + m.length)) := by
  simp [u32s, splice, List.map_take, List.map_drop]
def z16 : List Nat := List.replicate 16 0
def z8 : List Nat := List.replicate 8 0
def constV : Value := .agg (u32s consts)
def i64s (l : List Nat) : Array Value := (l.map fun n : Nat => Value.int .i64 n).toArray
def rowV (k : Nat) : Value := .agg (i64s (rowsL.getD k []))
def rowsV : Value := .agg (i64s rowsL.flatten)
theorem constants_any (w : World) : Calls Tryd.prog 54 #[] w fun e w' => e = .returned constV ∧ Below w.heap.size w w' := by
  go_enter Tryd.func54, Tryd.ntmps54
  go_wp2
  exact bodyPost_ret (v := constV) (by simp [results, Tryd.results54, go_sem, constV, u32s, consts]) rfl ⟨rfl, (Below.refl _ _).alloc (Nat.le_refl _) _⟩
def zeros48 : Array Value := i64s (List.replicate 160 0)
set_option maxRecDepth 100000 in
theorem rows_any (w : World) : Calls Tryd.prog 62 #[] w fun e w' => e = .returned rowsV ∧ Below w.heap.size w w' := by
  go_enter Tryd.func62, Tryd.ntmps62
  go_wp2_with (first | (refine wpList_val 0 rfl rfl (.pointer (some ⟨w.heap.size, 0, none⟩)) (w' := w.alloc (.cells zeros48 99)) (by kernel_rfl) ?_) | (refine wpList_pure 1 rfl rfl (rowV 0) (by kernel_rfl) ?_) | (refine wpList_pure 2 rfl rfl (rowV 1) (by kernel_rfl) ?_) | (refine wpList_pure 3 rfl rfl (rowV 2) (by kernel_rfl) ?_) | (refine wpList_pure 4 rfl rfl (rowV 3) (by kernel_rfl) ?_) | (refine wpList_pure 5 rfl rfl (rowV 4) (by kernel_rfl) ?_) | (refine wpList_pure 6 rfl rfl (rowV 5) (by kernel_rfl) ?_) | (refine wpList_pure 7 rfl rfl (rowV 6) (by kernel_rfl) ?_) | (refine wpList_pure 8 rfl rfl (rowV 7) (by kernel_rfl) ?_) | (refine wpList_pure 9 rfl rfl (rowV 8) (by kernel_rfl) ?_) | (refine wpList_pure 10 rfl rfl (rowV 9) (by kernel_rfl) ?_) | (refine wpList_pure 11 rfl rfl rowsV (by kernel_rfl) ?_) | (refine wpList_store_new rfl 99 (.tmp 0) (.tmp 11) rfl zeros48 (i64s rowsL.flatten) (by kernel_rfl) (by kernel_rfl) (by kernel_rfl) (by kernel_rfl) (by kernel_rfl) ?_))
  refine bodyPost_ret (v := rowsV) ?_ rfl ⟨rfl, (Below.refl _ _).alloc (Nat.le_refl _) _⟩
  exact results_cell Tryd.results62 _ _ _ ⟨w.heap.size, 0, none⟩ _ _ (by kernel_rfl) (run_loadVar_new w _ _ 10 98 Tryd.underlying99 (by kernel_rfl))
theorem row_index0 (w : World) : (Instr.index 99 rowsV (.int .i64 (0 : Nat))).run Tryd.prog w = .ok (rowV 0) w := by kernel_rfl
theorem row_index1 (w : World) : (Instr.index 99 rowsV (.int .i64 (1 : Nat))).run Tryd.prog w = .ok (rowV 1) w := by kernel_rfl
theorem row_index2 (w : World) : (Instr.index 99 rowsV (.int .i64 (2 : Nat))).run Tryd.prog w = .ok (rowV 2) w := by kernel_rfl
theorem row_index3 (w : World) : (Instr.index 99 rowsV (.int .i64 (3 : Nat))).run Tryd.prog w = .ok (rowV 3) w := by kernel_rfl
theorem row_index4 (w : World) : (Instr.index 99 rowsV (.int .i64 (4 : Nat))).run Tryd.prog w = .ok (rowV 4) w := by kernel_rfl
theorem row_index5 (w : World) : (Instr.index 99 rowsV (.int .i64 (5 : Nat))).run Tryd.prog w = .ok (rowV 5) w := by kernel_rfl
theorem row_index6 (w : World) : (Instr.index 99 rowsV (.int .i64 (6 : Nat))).run Tryd.prog w = .ok (rowV 6) w := by kernel_rfl
theorem row_index7 (w : World) : (Instr.index 99 rowsV (.int .i64 (7 : Nat))).run Tryd.prog w = .ok (rowV 7) w := by kernel_rfl
theorem row_index8 (w : World) : (Instr.index 99 rowsV (.int .i64 (8 : Nat))).run Tryd.prog w = .ok (rowV 8) w := by kernel_rfl
theorem row_index9 (w : World) : (Instr.index 99 rowsV (.int .i64 (9 : Nat))).run Tryd.prog w = .ok (rowV 9) w := by kernel_rfl
theorem row_index : ∀ k : Nat, k < 10 → ∀ w, (Instr.index 99 rowsV (.int .i64 (k : Nat))).run Tryd.prog w = .ok (rowV k) w := by
  intro k hk w
  match k, hk with
  | 0, _ => exact row_index0 w
  | 1, _ => exact row_index1 w
  | 2, _ => exact row_index2 w
  | 3, _ => exact row_index3 w
  | 4, _ => exact row_index4 w
  | 5, _ => exact row_index5 w
  | 6, _ => exact row_index6 w
  | 7, _ => exact row_index7 w
  | 8, _ => exact row_index8 w
  | 9, _ => exact row_index9 w
theorem i64s_size (l : List Nat) : (i64s l).size = l.length := by simp [i64s]
theorem i64s_one (l : List Nat) : (i64s l).all (·.oneCell') = true := by simp [i64s, Value.oneCell']
theorem i64s_get (l : List Nat) (i : Nat) (h : i < l.length) : (i64s l)[i]? = some (.int .i64 (l.getD i 0 : Nat)) := by
  simp [i64s, h]
def zi16 : Array Value := i64s (List.replicate 16 0)
end Go.Proofs.YtknmjbfhagldbaaDoor
