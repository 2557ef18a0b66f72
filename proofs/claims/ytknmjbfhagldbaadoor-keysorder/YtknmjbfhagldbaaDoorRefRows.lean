/- What the reference's constants and rows are. -/
import Derived.Test.YtknmjbfhagldbaaDoorRefMix
namespace Go.Proofs.YtknmjbfhagldbaaDoor
open Go.RowKit Blk
set_option linter.unusedVariables false
set_option maxRecDepth 100000
def i64n (l : List Nat) : Array Value := rowI l []
theorem refconst_any (w : World) : Calls Tryd.prog 57 #[] w fun e w' => e = .returned (.slice (some ⟨w.heap.size, 0, none⟩) 8 8) ∧ w' = w.alloc (.cells (i64n consts) 3) := by
  go_enter Tryd.func57, Tryd.ntmps57
  go_wp2_with (refine wpList_val 1 rfl rfl (.slice (some ⟨w.heap.size, 0, none⟩) 8 8) (w' := w.alloc (.cells (i64n consts) 3)) (by kernel_rfl) ?_)
  go_ret
  exact ⟨rfl, rfl⟩
def rowsWorld (w : World) : Nat → World
  | 0 => w
  | k + 1 => (rowsWorld w k).alloc (.cells (i64n (rowsL.getD k [])) 3)
def rowSlices (w : World) : Array Value := ((List.range 10).map fun k => Value.slice (some ⟨(rowsWorld w k).heap.size, 0, none⟩) 16 16).toArray
theorem rowsWorld_size (w : World) : ∀ k, (rowsWorld w k).heap.size = w.heap.size + k
  | 0 => rfl
  | k + 1 => by simp [rowsWorld, rowsWorld_size w k]; omega
theorem rowsWorld_below (w : World) : ∀ k, Below w.heap.size w (rowsWorld w k)
  | 0 => Below.refl _ _
  | k + 1 => (rowsWorld_below w k).alloc (rowsWorld_below w k).size _
theorem rowsWorld_row (w : World) (j : Nat) : ∀ k, j < k → (rowsWorld w k).heap[w.heap.size + j]? = some (.cells (i64n (rowsL.getD j [])) 3 (0, 0))
  | 0, h => by omega
  | k + 1, h => by
    by_cases e : j = k
    · subst e
      have := heap_alloc_new (rowsWorld w j) (.cells (i64n (rowsL.getD j [])) 3)
      rwa [rowsWorld_size] at this
    · exact heap_alloc_lt (rowsWorld_row w j k (by omega))
/-- ten rows, each a block from B on -/
def RowsAt (B g : Nat) (w : World) : Prop := B ≤ g ∧ ∃ cs, w.heap[g]? = some (.cells cs 90 (0, 0)) ∧ ∀ k, k < 10 → ∃ gk, B ≤ gk ∧ cs[k]? = some (.slice (some ⟨gk, 0, none⟩) 16 16) ∧ w.heap[gk]? = some (.cells (i64n (rowsL.getD k [])) 3 (0, 0))
set_option maxRecDepth 100000 in
theorem refrows_any (w : World) : Calls Tryd.prog 68 #[] w fun e w' => ∃ g, e = .returned (.slice (some ⟨g, 0, none⟩) 10 10) ∧ RowsAt w.heap.size g w' ∧ Below w.heap.size w w' := by
  refine (show Calls Tryd.prog 68 #[] w fun e w' => e = .returned (.slice (some ⟨(rowsWorld w 10).heap.size, 0, none⟩) 10 10) ∧ w' = (rowsWorld w 10).alloc (.cells (rowSlices w) 90) from ?_).mono ?_
  · go_enter Tryd.func68, Tryd.ntmps68
    go_wp2_with (first | (refine wpList_val 1 rfl rfl (.slice (some ⟨(rowsWorld w 0).heap.size, 0, none⟩) 16 16) (w' := rowsWorld w 1) (by kernel_rfl) ?_) | (refine wpList_val 2 rfl rfl (.slice (some ⟨(rowsWorld w 1).heap.size, 0, none⟩) 16 16) (w' := rowsWorld w 2) (by kernel_rfl) ?_) | (refine wpList_val 3 rfl rfl (.slice (some ⟨(rowsWorld w 2).heap.size, 0, none⟩) 16 16) (w' := rowsWorld w 3) (by kernel_rfl) ?_) | (refine wpList_val 4 rfl rfl (.slice (some ⟨(rowsWorld w 3).heap.size, 0, none⟩) 16 16) (w' := rowsWorld w 4) (by kernel_rfl) ?_) | (refine wpList_val 5 rfl rfl (.slice (some ⟨(rowsWorld w 4).heap.size, 0, none⟩) 16 16) (w' := rowsWorld w 5) (by kernel_rfl) ?_) | (refine wpList_val 6 rfl rfl (.slice (some ⟨(rowsWorld w 5).heap.size, 0, none⟩) 16 16) (w' := rowsWorld w 6) (by kernel_rfl) ?_) | (refine wpList_val 7 rfl rfl (.slice (some ⟨(rowsWorld w 6).heap.size, 0, none⟩) 16 16) (w' := rowsWorld w 7) (by kernel_rfl) ?_) | (refine wpList_val 8 rfl rfl (.slice (some ⟨(rowsWorld w 7).heap.size, 0, none⟩) 16 16) (w' := rowsWorld w 8) (by kernel_rfl) ?_) | (refine wpList_val 9 rfl rfl (.slice (some ⟨(rowsWorld w 8).heap.size, 0, none⟩) 16 16) (w' := rowsWorld w 9) (by kernel_rfl) ?_) | (refine wpList_val 10 rfl rfl (.slice (some ⟨(rowsWorld w 9).heap.size, 0, none⟩) 16 16) (w' := rowsWorld w 10) (by kernel_rfl) ?_) | (refine wpList_val 11 rfl rfl (.slice (some ⟨(rowsWorld w 10).heap.size, 0, none⟩) 10 10) (w' := (rowsWorld w 10).alloc (.cells (rowSlices w) 90)) (by kernel_rfl) ?_))
    go_ret
    exact ⟨rfl, rfl⟩
  · rintro e w' ⟨rfl, rfl⟩
    have hB := rowsWorld_below w 10
    refine ⟨_, rfl, ⟨hB.size, _, heap_alloc_new _ _, fun k hk => ⟨w.heap.size + k, by omega, ?_, ?_⟩⟩, hB.alloc hB.size _⟩
    · simp only [rowSlices, List.getElem?_toArray, List.getElem?_map]
      rw [List.getElem?_range hk]
      simp [rowsWorld_size]
    · exact heap_alloc_lt (rowsWorld_row w k 10 hk)
end Go.Proofs.YtknmjbfhagldbaaDoor
