/- The contract of the function that reads one file. -/
import Derived.Test.YtknmjbfhagldbaaDoorPkList2
import Derived.Test.YtknmjbfhagldbaaDoorKgFiles
namespace Go.Proofs.YtknmjbfhagldbaaDoor
open Go.RowKit
set_option linter.unusedVariables false
set_option maxRecDepth 100000
/-- one file off a reader -/
def takesF (r : Pk.Rd) : (List UInt8 × List UInt8) × Pk.Rd := ((r.text.1, r.text.2.text.1), r.text.2.text.2)
theorem rtext_rest (r : Pk.Rd) : r.text.2.rest.length ≤ r.rest.length := by
  unfold Pk.Rd.text
  split
  · simp
  · split
    · simp
    · rename_i t q h
      exact Nat.le_of_lt (Pk.nxt_lt h)
theorem RdAt.grown {w w' : World} {b : Nat} {r : Pk.Rd} (h : RdAt w b r) {g : Nat} (k : w.grownBy w' (some g)) (hne : b ≠ g) : RdAt w' b r := (k.block b (lt_heap h) (fun e => hne (Option.some.inj e))).trans h
set_option maxHeartbeats 4000000 in
theorem takeF_any (b : Nat) (r : Pk.Rd) (hs : r.rest.length ≤ 1000000000) (w : World) (h : RdAt w b r) :
    Calls Tryd.prog 33 #[.pointer (some ⟨b, 0, none⟩)] w fun e w' => e = .returned (.agg #[.string (bs (takesF r).1.1), .string (bs (takesF r).1.2)]) ∧ RdAt w' b (takesF r).2 ∧ w.grownBy w' (some b) := by
  have hbw : b < w.heap.size := lt_heap h
  have TF : Hid (takesF r = ((r.text.1, r.text.2.text.1), r.text.2.text.2)) := Lib.hid rfl
  have hs1 : r.text.2.rest.length ≤ 1000000000 := Nat.le_trans (rtext_rest r) hs
  have R1 := Lib.hid (fun W hW => rtext_any b r hs W hW)
  have R2 := Lib.hid (fun W hW => rtext_any b r.text.2 hs1 W hW)
  generalize r.text.2 = r1 at *
  generalize r.text.1 = p at *
  generalize r1.text.1 = d at *
  generalize r1.text.2 = r2 at *
  have H := Lib.hid h
  clear h
  go_enter Tryd.func33, Tryd.ntmps33
  go_wp2_with (fail)
  obtain ⟨W1, eW⟩ : ∃ W1, W1 = (w.alloc (.cells #[.string ⟨#[]⟩, .string ⟨#[]⟩] 43)).alloc (.cells #[.string ⟨#[]⟩, .string ⟨#[]⟩] 43) := ⟨_, rfl⟩
  have hb0 : Below w.heap.size w W1 := by rw [eW]; exact ((Below.refl _ _).alloc (Nat.le_refl _) _).alloc (by simp) _
  have q0 : W1.heap[w.heap.size]? = some (.cells #[.string ⟨#[]⟩, .string ⟨#[]⟩] 43 (0, 0)) := by rw [eW]; exact heap_alloc_lt (heap_alloc_new w _)
  have q1 : W1.heap[w.heap.size + 1]? = some (.cells #[.string ⟨#[]⟩, .string ⟨#[]⟩] 43 (0, 0)) := by
    rw [eW]
    have := heap_alloc_new (w.alloc (.cells #[.string ⟨#[]⟩, .string ⟨#[]⟩] 43)) (.cells #[.string ⟨#[]⟩, .string ⟨#[]⟩] 43)
    simpa using this
  rw [← eW]
  clear eW
  refine (R1.out _ (H.out.later hb0)).mono ?_
  rintro e w2 ⟨rfl, hr2, hg2⟩
  have z1 : W1.heap.size > w.heap.size + 1 := lt_heap q1
  have q0' := (hg2.block _ (lt_heap q0) (fun e => by have := Option.some.inj e; omega)).trans q0
  have q1' := (hg2.block _ (lt_heap q1) (fun e => by have := Option.some.inj e; omega)).trans q1
  have c10 : w2.cell? ⟨w.heap.size + 1, 0, none⟩ = some (.string ⟨#[]⟩) := (cell_heap q1' 0).trans rfl
  have c11 : w2.cell? ⟨w.heap.size + 1, 1, none⟩ = some (.string ⟨#[]⟩) := (cell_heap q1' 1).trans rfl
  have f10 : w2.frozen? ⟨w.heap.size + 1, 0, none⟩ = false := frozen_heap q1' 0
  go_wp2_with (fail)
  have hr2' : RdAt (w2.setCell ⟨w.heap.size + 1, 0, none⟩ (.string (bs p))) b r1 := (heap_set_ne (show w.heap.size + 1 ≠ b by omega)).trans hr2
  have q1w := heap_set (off := 0) (v := .string (bs p)) q1'
  have q0w : (w2.setCell ⟨w.heap.size + 1, 0, none⟩ (.string (bs p))).heap[w.heap.size]? = _ := (heap_set_ne (show w.heap.size + 1 ≠ w.heap.size by omega)).trans q0'
  have hgw : w.grownBy (w2.setCell ⟨w.heap.size + 1, 0, none⟩ (.string (bs p))) (some b) := grown_set (grown_trans (grown_of_below hb0 _) hg2) (.inl (by simp)) _ _
  clear q0 q1 q0' q1' c10 c11 f10
  generalize w2.setCell ⟨w.heap.size + 1, 0, none⟩ (.string (bs p)) = W2 at *
  refine (R2.out _ hr2').mono ?_
  rintro e w3 ⟨rfl, hr3, hg3⟩
  have q0' := (hg3.block _ (lt_heap q0w) (fun e => by have := Option.some.inj e; omega)).trans q0w
  have q1' := (hg3.block _ (lt_heap q1w) (fun e => by have := Option.some.inj e; omega)).trans q1w
  have c10 : w3.cell? ⟨w.heap.size + 1, 0, none⟩ = some (.string (bs p)) := (cell_heap q1' 0).trans rfl
  have c11 : w3.cell? ⟨w.heap.size + 1, 1, none⟩ = some (.string ⟨#[]⟩) := (cell_heap q1' 1).trans rfl
  have f11 : w3.frozen? ⟨w.heap.size + 1, 1, none⟩ = false := frozen_heap q1' 1
  have c00 : w3.cell? ⟨w.heap.size, 0, none⟩ = some (.string ⟨#[]⟩) := (cell_heap q0' 0).trans rfl
  have c01 : w3.cell? ⟨w.heap.size, 1, none⟩ = some (.string ⟨#[]⟩) := (cell_heap q0' 1).trans rfl
  have f00 : w3.frozen? ⟨w.heap.size, 0, none⟩ = false := frozen_heap q0' 0
  have f01 : w3.frozen? ⟨w.heap.size, 1, none⟩ = false := frozen_heap q0' 1
  have hgz := grown_trans hgw hg3
  clear q0w q1w hgw hg3 hg2 hr2 hr2' q0' q1'
  go_wp2_with (fail)
  refine bodyPost_ret (v := .agg #[.string (bs p), .string (bs d)]) (by simp [results, Tryd.results33, go_sem, c00, c01]) rfl ⟨by rw [TF.out], ?_, ?_⟩
  · rw [TF.out]
    exact (heap_set_ne (by omega)).trans ((heap_set_ne (by omega)).trans ((heap_set_ne (by omega)).trans hr3))
  · exact grown_set (grown_set (grown_set hgz (.inl (by simp)) _ _) (.inl (by simp)) _ _) (.inl (by simp)) _ _
end Go.Proofs.YtknmjbfhagldbaaDoor
