/- Joined by mkmerged.py: CdRead, CdCells, CdOp. -/
import Derived.Test.YtmlaolmaopjhbaaGreatDoorMi30
import Derived.Test.YtmlaolmaopjhbaaGreatDoorMi03
import Derived.Test.YtmlaolmaopjhbaaGreatDoorMi09
import Derived.Test.YtmlaolmaopjhbaaGreatDoorMi24
import Derived.Deep.RegionHeld3
/- CdRead, what a claim needs of it (prune.py). -/
namespace Go.Proofs.YtmlaolmaopjhbaaGreatDoor.Cd
open Go.RowKit
open Pk (Rd)
open Dk (Kp)
set_option linter.unusedVariables false
set_option maxRecDepth 100000
theorem Cx.lt {w0 w : World} {b c : Nat} {s : Sc} (h : Cx w0 w b c s) : b < w.heap.size ∧ c < w.heap.size := ⟨lt_heap h.at_.rd, lt_heap h.at_.sc⟩
theorem Cx.c0 {w0 w : World} {b c : Nat} {s : Sc} (h : Cx w0 w b c s) : w.cell? ⟨c, 0, none⟩ = some (.pointer (some ⟨b, 0, none⟩)) := (cell_heap h.at_.sc 0).trans rfl
theorem Cx.below {w0 w w' : World} {b c : Nat} {s : Sc} (h : Cx w0 w b c s) (k : Below w.heap.size w w') : Cx w0 w' b c s := h.kp (Kp.of_below k) (h.at_.below k) (Nat.le_refl _)
theorem SS.lt {w0 w : World} {b c : Nat} {s : Sc} (h : Cx w0 w b c s) : ∀ i, SS b c i → i < w.heap.size := fun i hi => by
  rcases hi with rfl | rfl
  · exact h.lt.1
  · exact h.lt.2
def FSays (w0 w : World) (b c : Nat) (s : Sc) (e : Ending) (w' : World) : Prop := ∃ A k, e = .returned (.slice A s.files.1.length k) ∧ FRow w' w.heap.size (.slice A s.files.1.length k) s.files.1 ∧ Goes w0 w b c s.files.2 w'
def GSays (w0 w : World) (b c : Nat) (s : Sc) (e : Ending) (w' : World) : Prop := ∃ A k, e = .returned (.slice A s.graph.1.length k) ∧ GRow w' w.heap.size (.slice A s.graph.1.length k) s.graph.1 ∧ Goes w0 w b c s.graph.2 w'
theorem odd_set {w0 w w1 w2 : World} {b c : Nat} {s s1 : Sc} (h : Cx w0 w b c s) (g1 : Goes w0 w b c s1 w1) (h2 : Below w1.heap.size w1 w2) (o : Bool) : Goes w0 w b c ⟨s1.rd, o⟩ (w2.setCell ⟨c, 1, none⟩ (.bool o)) := by
  have x2 := g1.1.below h2
  have k2 : Kp (SS b c) w w2 := g1.2.then h2
  have k3 : Kp (SS b c) w2 (w2.setCell ⟨c, 1, none⟩ (.bool o)) := (Kp.refl _ _).setCell (.inr rfl) _
  refine ⟨x2.kp k3 ⟨(heap_set_ne (fun e => x2.at_.ne e.symm)).trans x2.at_.rd, (heap_set x2.at_.sc).trans rfl⟩ (Nat.le_refl _), k2.trans k3⟩
theorem stext_le (s : Sc) : s.text.1.length ≤ s.rd.rest.length := rtext_lt s.rd
set_option maxHeartbeats 2000000 in
theorem scfiles_any (w0 w : World) (b c : Nat) (s : Sc) (h : Cx w0 w b c s) :
    Calls Tryz.prog 142 #[.pointer (some ⟨c, 0, none⟩)] w (FSays w0 w b c s) := by
  have T := Lib.hid (sctext_any w0 w b c s h)
  have c0 := h.c0
  obtain ⟨E, hE⟩ : ∃ E, E = (Pk.all takesF s.text.1).2 := ⟨_, rfl⟩
  have RF : Hid (∀ W, Calls Tryz.prog 185 #[.string (bs s.text.1)] W fun e w' => ∃ v, e = .returned (.tuple #[v, .int .i64 (E : Int)]) ∧ w'.ownsRow W.heap.size 131 2 v (Pk.all takesF s.text.1).1.length (filesC (Pk.all takesF s.text.1).1) ∧ Below W.heap.size W w') := Lib.hid (by
    rw [hE]
    exact fun W => readFiles_any s.text.1 (by have := stext_le s; have := h.le; omega) W)
  have EN : Hid (∀ w1 w2 A m k, Goes w0 w b c s.text.2 w1 → w2.ownsRow w1.heap.size 131 2 (.slice A m k) (Pk.all takesF s.text.1).1.length (filesC (Pk.all takesF s.text.1).1) → Below w1.heap.size w1 w2 → w2.cell? ⟨c, 1, none⟩ = some (.bool s.odd) ∧ w2.frozen? ⟨c, 1, none⟩ = false ∧ ∀ o, o = (s.odd || decide (E ≠ 0)) → FSays w0 w b c s (.returned (.slice A m k)) (w2.setCell ⟨c, 1, none⟩ (.bool o))) := Lib.hid fun w1 w2 A m k g1 ho h2 => by
    have x2 := g1.1.below h2
    refine ⟨(cell_heap x2.at_.sc 1).trans rfl, frozen_heap x2.at_.sc 1, fun o eo => ?_⟩
    have hm : m = s.files.1.length := by
      have := (fls_of_own ho).1
      rw [this]
      unfold Sc.files
      rw [List.length_map]
    subst hm
    have hf2 : s.files.2 = ⟨s.text.2.rd, o⟩ := by rw [eo, hE]; rfl
    refine ⟨A, k, rfl, ?_, by rw [hf2]; exact odd_set h g1 h2 o⟩
    refine ⟨(Pk.all takesF s.text.1).1, rfl, ?_⟩
    exact own_base (own_far ho (g1.1.lt.2) 1 _) (g1.2.size)
  clear hE h
  generalize FSays w0 w b c s = Q at *
  generalize s.odd = od at *
  generalize (Pk.all takesF s.text.1).1 = l at *
  generalize bs s.text.1 = ss at *
  by_cases hE : E = 0
  · subst hE
    cases od
    all_goals
      go_enter Tryz.func142, Tryz.ntmps142
      go_wp2_with (first
        | (go_at_call 137; (with_reducible refine (T.out).mono ?_); rintro e w1 ⟨rfl, g1⟩)
        | (go_at_call 185; (with_reducible refine (RF.out _).mono ?_); rintro e w2 ⟨v, rfl, ho, hb2⟩; obtain ⟨A, m, k, rfl⟩ := own_form ho; obtain ⟨d1, f1, h9⟩ := EN.out w1 w2 A m k g1 ho hb2; have H9 := Lib.hid h9; clear h9 g1 ho))
      exact H9.out _ rfl
  · have n1 : ((E : Int) != 0) = true := by simp; omega
    have n2 : ¬ (E : Int) = 0 := by omega
    have n3 : ∀ od : Bool, true = (od || decide (E ≠ 0)) := fun od => by simp [hE]
    have N3 := Lib.hid n3
    clear hE n3
    generalize (E : Int) = x at *
    cases od
    all_goals
      go_enter Tryz.func142, Tryz.ntmps142
      go_wp2_with (first
        | (go_at_call 137; (with_reducible refine (T.out).mono ?_); rintro e w1 ⟨rfl, g1⟩)
        | (go_at_call 185; (with_reducible refine (RF.out _).mono ?_); rintro e w2 ⟨v, rfl, ho, hb2⟩; obtain ⟨A, m, k, rfl⟩ := own_form ho; obtain ⟨d1, f1, h9⟩ := EN.out w1 w2 A m k g1 ho hb2; have H9 := Lib.hid h9; clear h9 g1 ho))
      exact H9.out _ (N3.out _)
set_option maxHeartbeats 2000000 in
theorem scgraph_any (w0 w : World) (b c : Nat) (s : Sc) (h : Cx w0 w b c s) :
    Calls Tryz.prog 141 #[.pointer (some ⟨c, 0, none⟩)] w (GSays w0 w b c s) := by
  have T := Lib.hid (sctext_any w0 w b c s h)
  have c0 := h.c0
  obtain ⟨E, hE⟩ : ∃ E, E = (Pk.all takesT s.text.1).2 := ⟨_, rfl⟩
  have RF : Hid (∀ W, Calls Tryz.prog 184 #[.string (bs s.text.1)] W fun e w' => ∃ v xs, e = .returned (.tuple #[v, .int .i64 (E : Int)]) ∧ w'.ownsRow W.heap.size 154 4 v (Pk.all takesT s.text.1).1.length xs ∧ TCells w' W.heap.size (Pk.all takesT s.text.1).1 xs ∧ Below W.heap.size W w') := Lib.hid (by
    rw [hE]
    exact fun W => readGraph_any s.text.1 (by have := stext_le s; have := h.le; omega) W)
  have EN : Hid (∀ w1 w2 A m k xs, Goes w0 w b c s.text.2 w1 → w2.ownsRow w1.heap.size 154 4 (.slice A m k) (Pk.all takesT s.text.1).1.length xs → TCells w2 w1.heap.size (Pk.all takesT s.text.1).1 xs → Below w1.heap.size w1 w2 → w2.cell? ⟨c, 1, none⟩ = some (.bool s.odd) ∧ w2.frozen? ⟨c, 1, none⟩ = false ∧ ∀ o, o = (s.odd || decide (E ≠ 0)) → GSays w0 w b c s (.returned (.slice A m k)) (w2.setCell ⟨c, 1, none⟩ (.bool o))) := Lib.hid fun w1 w2 A m k xs g1 ho ht h2 => by
    have x2 := g1.1.below h2
    refine ⟨(cell_heap x2.at_.sc 1).trans rfl, frozen_heap x2.at_.sc 1, fun o eo => ?_⟩
    have hm : m = s.graph.1.length := by
      have := (tgs_of_own ho ht).1
      rw [this]
      unfold Sc.graph
      rw [List.length_map]
    subst hm
    have hf2 : s.graph.2 = ⟨s.text.2.rd, o⟩ := by rw [eo, hE]; rfl
    refine ⟨A, k, rfl, ?_, by rw [hf2]; exact odd_set h g1 h2 o⟩
    refine ⟨(Pk.all takesT s.text.1).1, xs, rfl, own_base (own_far ho (g1.1.lt.2) 1 _) (g1.2.size), ?_⟩
    exact ht.keep fun v l h => own_base (own_far h (g1.1.lt.2) 1 _) (g1.2.size)
  clear hE h
  generalize GSays w0 w b c s = Q at *
  generalize s.odd = od at *
  generalize (Pk.all takesT s.text.1).1 = l at *
  generalize bs s.text.1 = ss at *
  by_cases hE : E = 0
  · subst hE
    cases od
    all_goals
      go_enter Tryz.func141, Tryz.ntmps141
      go_wp2_with (first
        | (go_at_call 137; (with_reducible refine (T.out).mono ?_); rintro e w1 ⟨rfl, g1⟩)
        | (go_at_call 184; (with_reducible refine (RF.out _).mono ?_); rintro e w2 ⟨v, xs, rfl, ho, ht2, hb2⟩; obtain ⟨A, m, k, rfl⟩ := own_form ho; obtain ⟨d1, f1, h9⟩ := EN.out w1 w2 A m k xs g1 ho ht2 hb2; have H9 := Lib.hid h9; clear h9 g1 ho ht2))
      exact H9.out _ rfl
  · have n1 : ((E : Int) != 0) = true := by simp; omega
    have n2 : ¬ (E : Int) = 0 := by omega
    have n3 : ∀ od : Bool, true = (od || decide (E ≠ 0)) := fun od => by simp [hE]
    have N3 := Lib.hid n3
    clear hE n3
    generalize (E : Int) = x at *
    cases od
    all_goals
      go_enter Tryz.func141, Tryz.ntmps141
      go_wp2_with (first
        | (go_at_call 137; (with_reducible refine (T.out).mono ?_); rintro e w1 ⟨rfl, g1⟩)
        | (go_at_call 184; (with_reducible refine (RF.out _).mono ?_); rintro e w2 ⟨v, xs, rfl, ho, ht2, hb2⟩; obtain ⟨A, m, k, rfl⟩ := own_form ho; obtain ⟨d1, f1, h9⟩ := EN.out w1 w2 A m k xs g1 ho ht2 hb2; have H9 := Lib.hid h9; clear h9 g1 ho ht2))
      exact H9.out _ (N3.out _)
theorem scerrno_any (w0 w : World) (b c : Nat) (s : Sc) (h : Cx w0 w b c s) :
    Calls Tryz.prog 186 #[.pointer (some ⟨c, 0, none⟩)] w fun e w' => e = .returned (.int .i64 s.num.1) ∧ Goes w0 w b c s.num.2 w' := by
  have T := Lib.hid (scnum_any w0 w b c s h)
  have c0 := h.c0
  clear h
  go_enter Tryz.func186, Tryz.ntmps186
  go_wp2_with (go_at_call 136; (with_reducible refine (T.out).mono ?_); rintro e w1 ⟨rfl, g1⟩)
  go_ret
  exact ⟨rfl, g1⟩
theorem sctake_any (w0 : World) (hE : Lg.Env w0) (l : B) (hl : l.length ≤ 100000000) (w : World) (h0 : Below w0.heap.size w0 w) :
    Calls Tryz.prog 72 #[.string (bs l)] w fun e w' => (∃ b c, e = .returned (.pointer (some ⟨c, 0, none⟩)) ∧ Cx w0 w' b c ⟨⟨l, 0⟩, false⟩ ∧ w.heap.size ≤ b ∧ w.heap.size ≤ c) ∧ Below w.heap.size w w' := by
  have R := Lib.hid (read_any l w)
  go_enter Tryz.func72, Tryz.ntmps72
  go_wp2_with (go_at_call 69; (with_reducible refine (R.out).mono ?_); rintro e w1 ⟨rfl, hr, hb⟩)
  go_ret
  have hs := hb.size
  have h1 : Below w.heap.size w (w1.alloc (.cells #[.pointer (some ⟨w.heap.size, 0, none⟩), .bool false] 186)) := hb.alloc hs _
  refine ⟨⟨w.heap.size, w1.heap.size, rfl, ⟨hE, h0.size, Nat.le_trans h0.size hs, h0.trans (h1.mono h0.size), ⟨hr.later ((Below.refl _ _).alloc (Nat.le_refl _) _), heap_alloc_new _ _⟩, hl⟩, Nat.le_refl _, hs⟩, h1⟩
end Go.Proofs.YtmlaolmaopjhbaaGreatDoor.Cd
/- CdCells, what a claim needs of it (prune.py). -/
namespace Go.Proofs.YtmlaolmaopjhbaaGreatDoor.Cd
open Go.RowKit
set_option linter.unusedVariables false
theorem ten {w : World} {g : Nat} {a0 a1 a2 a3 a4 a5 a6 a7 a8 a9 : Value} {T : TypeId} (h : w.heap[g]? = some (.cells #[a0, a1, a2, a3, a4, a5, a6, a7, a8, a9] T (0, 0))) :
    w.cell? ⟨g, 0, none⟩ = some a0 ∧ w.cell? ⟨g, 1, none⟩ = some a1 ∧ w.cell? ⟨g, 2, none⟩ = some a2 ∧ w.cell? ⟨g, 3, none⟩ = some a3 ∧ w.cell? ⟨g, 4, none⟩ = some a4 ∧ w.cell? ⟨g, 5, none⟩ = some a5 ∧ w.cell? ⟨g, 6, none⟩ = some a6 ∧ w.cell? ⟨g, 7, none⟩ = some a7 ∧ w.cell? ⟨g, 8, none⟩ = some a8 ∧ w.cell? ⟨g, 9, none⟩ = some a9 ∧
    w.frozen? ⟨g, 0, none⟩ = false ∧ w.frozen? ⟨g, 1, none⟩ = false ∧ w.frozen? ⟨g, 2, none⟩ = false ∧ w.frozen? ⟨g, 3, none⟩ = false ∧ w.frozen? ⟨g, 4, none⟩ = false ∧ w.frozen? ⟨g, 5, none⟩ = false ∧ w.frozen? ⟨g, 6, none⟩ = false ∧ w.frozen? ⟨g, 7, none⟩ = false ∧ w.frozen? ⟨g, 8, none⟩ = false ∧ w.frozen? ⟨g, 9, none⟩ = false :=
  ⟨cell_of_row w g 0 _ _ _ h, cell_of_row w g 1 _ _ _ h, cell_of_row w g 2 _ _ _ h, cell_of_row w g 3 _ _ _ h, cell_of_row w g 4 _ _ _ h, cell_of_row w g 5 _ _ _ h, cell_of_row w g 6 _ _ _ h, cell_of_row w g 7 _ _ _ h, cell_of_row w g 8 _ _ _ h, cell_of_row w g 9 _ _ _ h,
   frozen_of_row w _ 0 _ _ h, frozen_of_row w _ 1 _ _ h, frozen_of_row w _ 2 _ _ h, frozen_of_row w _ 3 _ _ h, frozen_of_row w _ 4 _ _ h, frozen_of_row w _ 5 _ _ h, frozen_of_row w _ 6 _ _ h, frozen_of_row w _ 7 _ _ h, frozen_of_row w _ 8 _ _ h, frozen_of_row w _ 9 _ _ h⟩
def put10 (w : World) (g : Nat) (b0 b1 b2 b3 b4 b5 b6 b7 b8 b9 : Value) : World := ((((((((((w.setCell ⟨g, 0, none⟩ b0).setCell ⟨g, 1, none⟩ b1).setCell ⟨g, 2, none⟩ b2).setCell ⟨g, 3, none⟩ b3).setCell ⟨g, 4, none⟩ b4).setCell ⟨g, 5, none⟩ b5).setCell ⟨g, 6, none⟩ b6).setCell ⟨g, 7, none⟩ b7).setCell ⟨g, 8, none⟩ b8).setCell ⟨g, 9, none⟩ b9)
theorem set10 {w : World} {g : Nat} {a0 a1 a2 a3 a4 a5 a6 a7 a8 a9 : Value} {T : TypeId} (h : w.heap[g]? = some (.cells #[a0, a1, a2, a3, a4, a5, a6, a7, a8, a9] T (0, 0))) (b0 b1 b2 b3 b4 b5 b6 b7 b8 b9 : Value) :
    (put10 w g b0 b1 b2 b3 b4 b5 b6 b7 b8 b9).heap[g]? = some (.cells #[b0, b1, b2, b3, b4, b5, b6, b7, b8, b9] T (0, 0)) := by
  unfold put10
  have q0 : (w.setCell ⟨g, 0, none⟩ b0).heap[g]? = some (.cells #[b0, a1, a2, a3, a4, a5, a6, a7, a8, a9] T (0, 0)) := heap_setCell_same _ _ 0 _ _ b0 h
  have q1 : ((w.setCell ⟨g, 0, none⟩ b0).setCell ⟨g, 1, none⟩ b1).heap[g]? = some (.cells #[b0, b1, a2, a3, a4, a5, a6, a7, a8, a9] T (0, 0)) := heap_setCell_same _ _ 1 _ _ b1 q0
  have q2 : (((w.setCell ⟨g, 0, none⟩ b0).setCell ⟨g, 1, none⟩ b1).setCell ⟨g, 2, none⟩ b2).heap[g]? = some (.cells #[b0, b1, b2, a3, a4, a5, a6, a7, a8, a9] T (0, 0)) := heap_setCell_same _ _ 2 _ _ b2 q1
  have q3 : ((((w.setCell ⟨g, 0, none⟩ b0).setCell ⟨g, 1, none⟩ b1).setCell ⟨g, 2, none⟩ b2).setCell ⟨g, 3, none⟩ b3).heap[g]? = some (.cells #[b0, b1, b2, b3, a4, a5, a6, a7, a8, a9] T (0, 0)) := heap_setCell_same _ _ 3 _ _ b3 q2
  have q4 : (((((w.setCell ⟨g, 0, none⟩ b0).setCell ⟨g, 1, none⟩ b1).setCell ⟨g, 2, none⟩ b2).setCell ⟨g, 3, none⟩ b3).setCell ⟨g, 4, none⟩ b4).heap[g]? = some (.cells #[b0, b1, b2, b3, b4, a5, a6, a7, a8, a9] T (0, 0)) := heap_setCell_same _ _ 4 _ _ b4 q3
  have q5 : ((((((w.setCell ⟨g, 0, none⟩ b0).setCell ⟨g, 1, none⟩ b1).setCell ⟨g, 2, none⟩ b2).setCell ⟨g, 3, none⟩ b3).setCell ⟨g, 4, none⟩ b4).setCell ⟨g, 5, none⟩ b5).heap[g]? = some (.cells #[b0, b1, b2, b3, b4, b5, a6, a7, a8, a9] T (0, 0)) := heap_setCell_same _ _ 5 _ _ b5 q4
  have q6 : (((((((w.setCell ⟨g, 0, none⟩ b0).setCell ⟨g, 1, none⟩ b1).setCell ⟨g, 2, none⟩ b2).setCell ⟨g, 3, none⟩ b3).setCell ⟨g, 4, none⟩ b4).setCell ⟨g, 5, none⟩ b5).setCell ⟨g, 6, none⟩ b6).heap[g]? = some (.cells #[b0, b1, b2, b3, b4, b5, b6, a7, a8, a9] T (0, 0)) := heap_setCell_same _ _ 6 _ _ b6 q5
  have q7 : ((((((((w.setCell ⟨g, 0, none⟩ b0).setCell ⟨g, 1, none⟩ b1).setCell ⟨g, 2, none⟩ b2).setCell ⟨g, 3, none⟩ b3).setCell ⟨g, 4, none⟩ b4).setCell ⟨g, 5, none⟩ b5).setCell ⟨g, 6, none⟩ b6).setCell ⟨g, 7, none⟩ b7).heap[g]? = some (.cells #[b0, b1, b2, b3, b4, b5, b6, b7, a8, a9] T (0, 0)) := heap_setCell_same _ _ 7 _ _ b7 q6
  have q8 : (((((((((w.setCell ⟨g, 0, none⟩ b0).setCell ⟨g, 1, none⟩ b1).setCell ⟨g, 2, none⟩ b2).setCell ⟨g, 3, none⟩ b3).setCell ⟨g, 4, none⟩ b4).setCell ⟨g, 5, none⟩ b5).setCell ⟨g, 6, none⟩ b6).setCell ⟨g, 7, none⟩ b7).setCell ⟨g, 8, none⟩ b8).heap[g]? = some (.cells #[b0, b1, b2, b3, b4, b5, b6, b7, b8, a9] T (0, 0)) := heap_setCell_same _ _ 8 _ _ b8 q7
  exact heap_setCell_same _ _ 9 _ _ b9 q8
theorem set10_below {Bn : Nat} {w0 w : World} (h : Below Bn w0 w) {g : Nat} (hg : Bn ≤ g) (b0 b1 b2 b3 b4 b5 b6 b7 b8 b9 : Value) : Below Bn w0 (put10 w g b0 b1 b2 b3 b4 b5 b6 b7 b8 b9) := ((((((((((h.setCell hg _).setCell hg _).setCell hg _).setCell hg _).setCell hg _).setCell hg _).setCell hg _).setCell hg _).setCell hg _).setCell hg _)
end Go.Proofs.YtmlaolmaopjhbaaGreatDoor.Cd
/- CdOp, what a claim needs of it (prune.py). -/
namespace Go.Proofs.YtmlaolmaopjhbaaGreatDoor.Cd
open Go.RowKit
open Pk (Rd)
open Dk (Kp)
open Ops (Rs Ev Parts evOf)
set_option linter.unusedVariables false
set_option maxRecDepth 100000
theorem Kp.setNew {S : Nat → Prop} {W W' : World} (h : Kp S W W') {p : Addr} (hp : W.heap.size ≤ p.block) (v : Value) : Kp S W (W'.setCell p v) :=
  h.grown (r := some p.block) (⟨by simp [World.setCell], by simp [World.setCell], by simp [World.setCell], by simp, fun k hk hne => Below.heap_setCell _ _ _ _ (fun e => hne (by rw [e]))⟩) (fun k e => by injection e with e; subst e; exact .inr hp)
theorem Goes.set {w0 w w' : World} {b c : Nat} {s s' : Sc} (h : Cx w0 w b c s) (g : Goes w0 w b c s' w') {p : Addr} (hp : w.heap.size ≤ p.block) (v : Value) : Goes w0 w b c s' (w'.setCell p v) := by
  obtain ⟨x, k⟩ := g
  have hb := h.lt.1
  have hc := h.lt.2
  refine ⟨⟨x.env, x.hb, x.hc, x.hw.setCell (Nat.le_trans h.hw.size hp) v, ⟨(Below.heap_setCell _ _ _ _ (by omega)).trans x.at_.rd, (Below.heap_setCell _ _ _ _ (by omega)).trans x.at_.sc⟩, x.le⟩, Kp.setNew k hp v⟩
theorem Goes.below {w0 w W0 w' : World} {b c : Nat} {s s' : Sc} (h : Cx w0 w b c s) (h0 : Below w.heap.size w W0) (x : Cx w0 w' b c s') (k : Kp (SS b c) W0 w') : Goes w0 w b c s' w' := ⟨x, (Kp.of_below h0).trans k⟩
theorem FRow.set {w : World} {B : Nat} {v : Value} {l : List Fl} (h : FRow w B v l) {p : Addr} (hp : p.block < B) (u : Value) : FRow (w.setCell p u) B v l :=
  h.kp (S := fun i => i = p.block) ((Kp.refl (fun i => i = p.block) w).setCell (p := p) rfl u) (fun i hi => by rw [hi]; exact hp)
theorem GRow.set {w : World} {B : Nat} {v : Value} {l : List Tg} (h : GRow w B v l) {p : Addr} (hp : p.block < B) (u : Value) : GRow (w.setCell p u) B v l :=
  h.kp (S := fun i => i = p.block) ((Kp.refl (fun i => i = p.block) w).setCell (p := p) rfl u) (fun i hi => by rw [hi]; exact hp)
theorem load_res {W : World} {g : Nat} {cs : Array Value} (h : W.heap[g]? = some (.cells cs 30 (0, 0))) (hs : cs.size = 4) : (loadVar 30 ⟨g, 0, none⟩).run Tryz.prog W = .ok (.agg cs) W :=
  run_loadVar_row W g 30 30 cs (0, 0) _ h rfl rfl (by rw [hs]; kernel_rfl)
theorem load_op {W : World} {g : Nat} {cs : Array Value} (h : W.heap[g]? = some (.cells cs 32 (0, 0))) (hs : cs.size = 9) : (loadVar 32 ⟨g, 0, none⟩).run Tryz.prog W = .ok (.agg cs) W :=
  run_loadVar_row W g 32 32 cs (0, 0) _ h rfl rfl (by rw [hs]; kernel_rfl)
def ResSays (w0 w : World) (b c : Nat) (s : Sc) (e : Ending) (w' : World) : Prop := ∃ A k, e = .returned (.agg #[.int .i64 s.res.1.e, .string s.res.1.at_, .string s.res.1.tx, .slice A s.res.1.fs.length k]) ∧ FRow w' w.heap.size (.slice A s.res.1.fs.length k) s.res.1.fs ∧ Goes w0 w b c s.res.2 w'
set_option maxHeartbeats 4000000 in
theorem scres_any (w0 w : World) (b c : Nat) (s : Sc) (h : Cx w0 w b c s) :
    Calls Tryz.prog 143 #[.pointer (some ⟨c, 0, none⟩)] w (ResSays w0 w b c s) := by
  obtain ⟨W0, eW⟩ : ∃ W0, W0 = w.alloc (.cells #[.int .i64 0, .string ⟨#[]⟩, .string ⟨#[]⟩, .slice none 0 0] 30) := ⟨_, rfl⟩
  have B0 : Below w.heap.size w W0 := by rw [eW]; exact (Below.refl _ _).alloc (Nat.le_refl _) _
  have z0 : W0.heap[w.heap.size]? = some (.cells #[.int .i64 0, .string ⟨#[]⟩, .string ⟨#[]⟩, .slice none 0 0] 30 (0, 0)) := by rw [eW]; exact heap_alloc_new _ _
  have x0 : Cx w0 W0.drew b c s := h.below B0.drew
  have hb := h.lt.1
  have hc := h.lt.2
  have hlt := Lg.lt_heap z0
  have q0 := x0.c0
  have ZK : Hid (∀ W, Kp (SS b c) W0.drew W → W.heap[w.heap.size]? = some (.cells #[.int .i64 0, .string ⟨#[]⟩, .string ⟨#[]⟩, .slice none 0 0] 30 (0, 0))) := Lib.hid fun W k => (k.block _ hlt (fun e => by rcases e with e | e <;> omega)).trans z0
  have EA := Lib.hid (fun W s' x => scerrno_any w0 W b c s' x)
  have TA := Lib.hid (fun W s' x => sctext_any w0 W b c s' x)
  have FA : Hid (∀ W s', Cx w0 W b c s' → Calls Tryz.prog 142 #[.pointer (some ⟨c, 0, none⟩)] W fun e w' => ∃ A k, e = .returned (.slice A s'.files.1.length k) ∧ FRow w' W.heap.size (.slice A s'.files.1.length k) s'.files.1 ∧ Goes w0 W b c s'.files.2 w') := Lib.hid (fun W s' x => scfiles_any w0 W b c s' x)
  have RES : Hid (s.res = (⟨s.num.1, bs s.num.2.text.1, bs s.num.2.text.2.text.1, s.num.2.text.2.text.2.files.1⟩, s.num.2.text.2.text.2.files.2)) := Lib.hid rfl
  have H := Lib.hid h
  have HB := Lib.hid B0
  have hne : c ≠ w.heap.size := by omega
  have hne' : w.heap.size ≠ c := by omega
  clear h z0 B0 hb hlt
  go_enter Tryz.func143, Tryz.ntmps143
  go_upto_region 1 with (fail)
  rw [← eW]
  clear eW
  go_region_held3 (fun W => W.cell? ⟨c, 0, none⟩ = some (.pointer (some ⟨b, 0, none⟩))) (first | (with_reducible exact q0) | (with_reducible exact q1) | (with_reducible exact q2) | (with_reducible exact q3) | (with_reducible exact q4) | go_keep) (first
    | (go_at_call 186; (with_reducible refine Calls.mono (EA.out _ _ x0) ?_); rintro e w1 ⟨rfl, x1, k1⟩; have q1 := x1.c0)
    | (go_at_call 137; (with_reducible refine Calls.mono (TA.out _ _ x1) ?_); rintro e w2 ⟨rfl, x2, k2⟩; have q2 := x2.c0)
    | (go_at_call 137; (with_reducible refine Calls.mono (TA.out _ _ x2) ?_); rintro e w3 ⟨rfl, x3, k3⟩; have q3 := x3.c0)
    | (go_at_call 142; (with_reducible refine Calls.mono (FA.out _ _ x3) ?_); rintro e w4 ⟨A, k, rfl, hf, x4, k4⟩; have q4 := x4.c0; have kz := ((k1.trans k2).trans k3).trans k4; have ks := ((k1.trans k2).trans k3).size; have hz := ZK.out w4 kz; obtain ⟨y0, y1, y2, y3, f0, f1, f2, f3⟩ := Lg.four hz; have HZ := Lib.hid hz; have HF := Lib.hid hf; clear hz hf))
  all_goals
    go_wp2_with (fail)
    refine bodyPost_ret (results_cell rfl _ _ _ ⟨w.heap.size, 0, none⟩ _ _ rfl (load_res (Lg.set4 HZ.out _ _ _ _) rfl)) rfl ?_
    have hs3 : w.heap.size < w3.heap.size := Nat.lt_of_lt_of_le (by have := Lg.lt_heap (ZK.out _ (Kp.refl _ _)); exact this) ks
    unfold ResSays
    rw [RES.out]
    refine ⟨A, k, rfl, ?_, ?_⟩
    · exact ((((HF.out.set hs3 _).set hs3 _).set hs3 _).set hs3 _).base (Nat.le_of_lt hs3)
    · exact Goes.set H.out (Goes.set H.out (Goes.set H.out (Goes.set H.out (Goes.below H.out HB.out.drew x4 kz) (Nat.le_refl _) _) (Nat.le_refl _) _) (Nat.le_refl _) _) (Nat.le_refl _) _
end Go.Proofs.YtmlaolmaopjhbaaGreatDoor.Cd
