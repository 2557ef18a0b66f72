/- The contract of the reference's Put. -/
import Derived.Test.YtcifjhhofefpjaaCrWalk
import Derived.Deep.Cut
import Derived.Deep.CutRange
import Derived.Deep.RegionLaw
namespace Go.Proofs.Ytcifjhhofefpjaa.Cr
open Go.RowKit Go.Proofs.Ytcifjhhofefpjaa.Ca
set_option linter.unusedVariables false
set_option maxRecDepth 100000
section
variable {w : World} {B r most : Nat} {l : List (Th Int)}
theorem rput_hit {a b : List (Th Int)} {x : Th Int} (h : RefAt w B r most (a ++ x :: b)) {k : ByteArray} (hl : (a ++ x :: b).length ≤ 1000000) (hat : at_ k (a ++ x :: b) = some (a, x, b)) (v : Int) :
    Calls Try.prog 12 #[.pointer (some ⟨r, 0, none⟩), .string k, .int .i64 v] w (RSays w B r most (a ++ b ++ [⟨k, v, x.p⟩]) (.int .i64 0)) := by
  obtain ⟨i0, hi, hz0, hz1, hz2⟩ := info_parts infoT
  obtain ⟨A, cap, hr, hown⟩ := h.open_
  have hbA : Below w.heap.size w (w.alloc (.cells #[.string k, .int .i64 v, .int .i64 0] 72)) := (Below.refl _ _).alloc (Nat.le_refl _) _
  obtain ⟨A', cap', hr', hown'⟩ := (h.below hbA).open_
  have heq : A' = A ∧ cap' = cap := by
    have := (hbA.block r (heap_lt hr)).trans hr
    rw [this] at hr'
    injection hr' with hr'
    injection hr' with hr'
    have h2 := congrArg (fun c : Array Value => c[0]?) hr'
    injection h2 with h2
    injection h2 with h3 _ h4
    exact ⟨h3.symm, h4.symm⟩
  obtain ⟨rfl, rfl⟩ := heq
  have AT := at_any r most A' cap' _ k _ hl hr' (Ths.of_own hown')
  rw [idx_of hat] at AT
  obtain ⟨g, cur, rfl, hgB, hgl, hgb, g0, g1, g2⟩ := hit_open hown
  have c0 : w.cell? ⟨r, 0, none⟩ = some (.slice (some ⟨g, 0, none⟩) (a ++ x :: b).length cap') := (cell_at hr 0).trans rfl
  have c1 : (w.alloc (.cells #[.string k, .int .i64 v, .int .i64 0] 72)).cell? ⟨r, 0, none⟩ = some (.slice (some ⟨g, 0, none⟩) (a ++ x :: b).length cap') := (cell_at hr' 0).trans rfl
  have c2 : (w.alloc (.cells #[.string k, .int .i64 v, .int .i64 0] 72)).cell? ⟨g, a.length * 3 + 2, none⟩ = some (.int .i64 x.p) := (hbA.cell (p := ⟨g, _, none⟩) hgl).trans g2
  have i1 : (0 : Int) ≤ (a.length : Int) := by omega
  have i3 : ¬ (a.length : Int) < 0 := by omega
  have i2 : (a.length : Int) < ((a ++ x :: b).length : Int) := by simp; omega
  obtain ⟨n, en⟩ : ∃ n, n = (a ++ x :: b).length := ⟨_, rfl⟩
  obtain ⟨cap, ecap⟩ : ∃ cap, cap = cap' := ⟨_, rfl⟩
  rw [← en] at c0 c1 i2
  rw [← ecap] at c0 c1
  have ATH := Lib.hid AT
  have HH := Lib.hid h
  have HL := Lib.hid hl
  clear AT h hr hown en hgb hat hl hr' hown' hbA ecap
  go_enter Try.func12, Try.ntmps12
  go_wp2_with (go_at_call 37; ((with_reducible refine (ATH.out).mono ?_); rintro e w' ⟨rfl, rfl⟩))
  generalize eW : w.alloc (.cells #[.string k, .int .i64 v, .int .i64 x.p] 72) = W1
  have hb1 : Below w.heap.size w W1 := by rw [← eW]; exact (Below.refl _ _).alloc (Nat.le_refl _) _
  have x1 : W1.heap[w.heap.size]? = some (.cells #[.string k, .int .i64 v, .int .i64 x.p] 72 (0, 0)) := by rw [← eW]; exact heap_alloc_new w _
  have WO := Lib.hid (without_at HH.out HL.out hb1)
  have SX : Hid (∀ W, Below W1.heap.size W1 W → W.cell? ⟨w.heap.size, 0, none⟩ = some (.string k) ∧ W.cell? ⟨w.heap.size, 1, none⟩ = some (.int .i64 v) ∧ W.cell? ⟨w.heap.size, 2, none⟩ = some (.int .i64 x.p)) := Lib.hid (fun W hW => by
    have x2 := (hW.block _ (heap_lt x1)).trans x1
    exact ⟨(cell_at x2 0).trans rfl, (cell_at x2 1).trans rfl, (cell_at x2 2).trans rfl⟩)
  have SY : Hid (∀ W u, Below W1.heap.size W1 W → (W.setCell ⟨r, 0, none⟩ u).cell? ⟨w.heap.size, 0, none⟩ = some (.string k) ∧ (W.setCell ⟨r, 0, none⟩ u).cell? ⟨w.heap.size, 1, none⟩ = some (.int .i64 v) ∧ (W.setCell ⟨r, 0, none⟩ u).cell? ⟨w.heap.size, 2, none⟩ = some (.int .i64 x.p)) := Lib.hid (fun W u hW => by
    obtain ⟨s0, s1, s2⟩ := SX.out W hW
    have hrl := RefAt.lt HH.out
    have hne : ∀ j, (⟨w.heap.size, j, none⟩ : Addr) ≠ ⟨r, 0, none⟩ := fun j e => by injection e with e; omega
    exact ⟨(World.cell?_setCell_other _ _ _ _ (hne 0).symm).trans s0, (World.cell?_setCell_other _ _ _ _ (hne 1).symm).trans s1, (World.cell?_setCell_other _ _ _ _ (hne 2).symm).trans s2⟩)
  have SR : Hid (∀ W, Below W1.heap.size W1 W → W.cell? ⟨r, 0, none⟩ = some (.slice (some ⟨g, 0, none⟩) n cap) ∧ W.frozen? ⟨r, 0, none⟩ = false) := Lib.hid (fun W hW => by
    have h2 := below_both hb1 hW
    obtain ⟨_, _, hr, _⟩ := HH.out
    exact ⟨(h2.cell (p := ⟨r, 0, none⟩) (heap_lt hr)).trans c0, free_at ((h2.block r (heap_lt hr)).trans hr) 0⟩)
  have hAB : (a ++ b).length + 1 ≤ 1000001 := by have := HL.out; simp at this ⊢; omega
  have xB : ((W1.alloc (.cells #[.string k, .int .i64 v, .int .i64 x.p] 72)).drew).heap[W1.heap.size]? = some (.cells #[.string k, .int .i64 v, .int .i64 x.p] 72 (0, 0)) := heap_alloc_new W1 _
  have dA : Below W1.heap.size W1 W1.drew := (Below.refl _ _).drew
  have dB : Below W1.heap.size W1 (W1.alloc (.cells #[.string k, .int .i64 v, .int .i64 x.p] 72)).drew := ((Below.refl _ _).alloc (Nat.le_refl _) _).drew
  obtain ⟨s0, s1, s2⟩ := SX.out _ (Below.refl _ _)
  clear x1 eW
  go_region_held3 (fun w' => w'.cell? ⟨w.heap.size, 0, none⟩ = some (.string k) ∧ w'.cell? ⟨w.heap.size, 1, none⟩ = some (.int .i64 v) ∧ w'.cell? ⟨w.heap.size, 2, none⟩ = some (.int .i64 x.p))
    (first | go_keep | exact SX.out _ (by assumption) | exact SY.out _ _ (by assumption))
    (first | ((go_at_call 38; refine (WO.out _ (by first | exact dA | exact dB)).mono ?_; rintro e w1 ⟨v1, rfl, ho1, hb2, hb3⟩)) | ((refine step_append_any _ rfl (.tmp 30) (.tmp 32) _ rfl W1.heap.size 72 i0 _ 3 32 Try.underlying68 hi hz0 hz1 hz2 rfl (by omega) v1 (a ++ b).length (cells3 (a ++ b)) (by rfl) (ho1.alloc _) _ (some ⟨w1.heap.size, 0, none⟩) 1 1 [.string k, .int .i64 v, .int .i64 x.p] (by rfl) (reads_blk (heap_alloc_new w1 _)) (mem3 rfl rfl rfl) (by simp only [maxLen]; omega) (by omega) (by have := hb2.size; simp; omega) ?_; intro v2 w2 hown2 hg2 hat2; have hb4 := app_below (hb2.alloc hb2.size _) (ho1.alloc _) hg2; obtain ⟨A2, cap2, rfl⟩ := own_slice hown2; have q0 := (SR.out w2 hb4).1; have q1 := (SR.out w2 hb4).2; have HO := Lib.hid hown2; clear hown2 hg2 hat2)) | ((refine step_append_any _ rfl (.tmp 30) (.tmp 32) _ rfl W1.heap.size 72 i0 _ 3 32 Try.underlying68 hi hz0 hz1 hz2 rfl (by omega) v1 (a ++ b).length (cells3 (a ++ b)) (by rfl) ho1 _ (some ⟨W1.heap.size, 0, none⟩) 1 1 [.string k, .int .i64 v, .int .i64 x.p] (by rfl) (reads_blk ((hb3.block _ (heap_lt xB)).trans xB)) (mem3 rfl rfl rfl) (by simp only [maxLen]; omega) (by omega) hb2.size ?_; intro v2 w2 hown2 hg2 hat2; have hb4 := app_below hb2 ho1 hg2; obtain ⟨A2, cap2, rfl⟩ := own_slice hown2; have q0 := (SR.out w2 hb4).1; have q1 := (SR.out w2 hb4).2; have HO := Lib.hid hown2; clear hown2 hg2 hat2)))
  all_goals
    have HO' : w2.ownsRow W1.heap.size 72 3 (.slice A2 ((a ++ b).length + 1) cap2) (a ++ b ++ [(⟨k, v, x.p⟩ : Th Int)]).length (cells3 (a ++ b ++ [(⟨k, v, x.p⟩ : Th Int)])) := by rw [cells3_append, show (a ++ b ++ [(⟨k, v, x.p⟩ : Th Int)]).length = (a ++ b).length + 1 from List.length_append]; exact HO.out
    have FIN := Lib.hid (tail_fin HH.out hb1 hb4 HO')
    clear HO' HO
    go_wp2_with (fail)
    go_ret
    first
      | exact ⟨rfl, FIN.out⟩
      | exact ⟨rfl, by rw [← List.length_append]; exact FIN.out⟩
      | exact ⟨rfl, by simpa using FIN.out⟩
theorem room_fin {X w2 : World} {v0 v2 : Value} {y : Th Int} (h : RefAt w B r most l) (hr : w.heap[r]? = some (.cells #[v0, .int .i64 most] 70 (0, 0))) (hown : w.ownsRow B 72 3 v0 l.length (cells3 l)) (hX : Below w.heap.size w X) (hg : X.grownBy w2 v0.ownBlock)
    (ho : w2.ownsRow B 72 3 v2 (l ++ [y]).length (cells3 (l ++ [y]))) :
    RefAt (w2.setCell ⟨r, 0, none⟩ v2) B r most (l ++ [y]) ∧ Below B w (w2.setCell ⟨r, 0, none⟩ v2) ∧ FrR w (w2.setCell ⟨r, 0, none⟩ v2) := by
  have hB := h.1
  have hrl := heap_lt hr
  have hownX : X.ownsRow B 72 3 v0 l.length (cells3 l) := ⟨hown.1, by
    rcases hown.2 with h0 | ⟨g, cap, cur, hv, hg, hgb, h2⟩
    · exact .inl h0
    · exact .inr ⟨g, cap, cur, hv, hg, (hX.block g (heap_lt hgb)).trans hgb, h2⟩⟩
  have hrX := (hX.block r hrl).trans hr
  have hne : some r ≠ v0.ownBlock := fun e => by
    rcases hownX.2 with ⟨rfl, _⟩ | ⟨g, cap, cur, rfl, _, hgb, _⟩
    · simp [Value.ownBlock] at e
    · have : r = g := by simpa [Value.ownBlock] using e
      subst this
      rw [hrX] at hgb
      injection hgb with hgb
      injection hgb with _ e
      cases e
  have hr2 := (hg.block r (heap_lt hrX) hne).trans hrX
  have u := Upd.setCell hr2 0 v2
  have hXs := hX.size
  refine ⟨⟨hB, v2, u.1, ho.1, ?_⟩, (((hX.mono (by omega)).grown hg (by omega) (fun j hj => ?_))).setCell hB _, ((FrR.below hX).trans (FrR.grown hg hownX)).trans (FrR.updC u (by rw [size_setCell]; exact Nat.le_refl _) hr2)⟩
  · rcases ho.2 with h0 | ⟨g, cap, cur, hv, hg1, hgb, h2⟩
    · exact .inl h0
    · refine .inr ⟨g, cap, cur, hv, hg1, (u.2 g (heap_lt hgb) ?_).trans hgb, h2⟩
      rintro rfl
      rw [hr2] at hgb
      injection hgb with hgb
      injection hgb with _ e
      cases e
  · rcases hown.2 with ⟨rfl, _⟩ | ⟨g, cap, cur, rfl, hgB, _⟩
    · simp [Value.ownBlock] at hj
    · have : g = j := by simpa [Value.ownBlock] using hj
      omega
theorem rput_room (h : RefAt w B r most l) {k : ByteArray} (hl : l.length ≤ 1000000) (hat : at_ k l = none) (hlt : l.length < most) (hm : most ≤ 1000) (v : Int) :
    Calls Try.prog 12 #[.pointer (some ⟨r, 0, none⟩), .string k, .int .i64 v] w (RSays w B r most (l ++ [⟨k, v, 0⟩]) (.int .i64 0)) := by
  obtain ⟨i0, hi, hz0, hz1, hz2⟩ := info_parts infoT
  obtain ⟨W0, eW0⟩ : ∃ W0, W0 = w.alloc (.cells #[.string k, .int .i64 v, .int .i64 0] 72) := ⟨_, rfl⟩
  have hbA : Below w.heap.size w W0 := by rw [eW0]; exact (Below.refl _ _).alloc (Nat.le_refl _) _
  obtain ⟨A, cap, hr, hown⟩ := h.open_
  have hr0 := (hbA.block r (heap_lt hr)).trans hr
  have hownAt : ∀ W, Below w.heap.size w W → W.ownsRow B 72 3 (.slice A l.length cap) l.length (cells3 l) := fun W hW => ⟨hown.1, by
    rcases hown.2 with h0 | ⟨g, cap, cur, hv, hg, hgb, h2⟩
    · exact .inl h0
    · exact .inr ⟨g, cap, cur, hv, hg, (hW.block g (heap_lt hgb)).trans hgb, h2⟩⟩
  have AT := at_any r most A cap _ k _ hl hr0 (Ths.of_own (hownAt W0 hbA))
  rw [idx_no hat] at AT
  have c0 : W0.cell? ⟨r, 0, none⟩ = some (.slice A l.length cap) := (cell_at hr0 0).trans rfl
  have c1 : W0.cell? ⟨r, 1, none⟩ = some (.int .i64 most) := (cell_at hr0 1).trans rfl
  have x0 : W0.heap[w.heap.size]? = some (.cells #[.string k, .int .i64 v, .int .i64 0] 72 (0, 0)) := by rw [eW0]; exact heap_alloc_new w _
  have hd : decide (l.length < most) = true := decide_eq_true hlt
  have ATH := Lib.hid AT
  have HH := Lib.hid h
  have HR := Lib.hid hr
  have HOW := Lib.hid hown
  have OA := Lib.hid hownAt
  have EW := Lib.hid eW0
  have X0 := Lib.hid x0
  clear AT h hr hown hat eW0 hr0 hownAt x0
  go_enter Try.func12, Try.ntmps12
  go_upto_region 2 with (fail)
  rw [← EW.out]
  go_wp2_with (go_at_call 37; ((with_reducible refine (ATH.out).mono ?_); rintro e w' ⟨rfl, rfl⟩))
  go_quiet (fail)
  go_wp2_with (fail)
  generalize hW : W0.drewN _ = W
  have hbW : Below w.heap.size w W := by rw [← hW]; exact ⟨hbA.os, hbA.tape, hbA.output, hbA.size, hbA.block⟩
  have xW : W.heap[w.heap.size]? = some (.cells #[.string k, .int .i64 v, .int .i64 0] 72 (0, 0)) := by rw [← hW]; exact X0.out
  have c0' : W.cell? ⟨r, 0, none⟩ = some (.slice A l.length cap) := by rw [← hW]; exact c0
  clear hW c0 c1
  have s0 : W.cell? ⟨w.heap.size, 0, none⟩ = some (.string k) := (cell_at xW 0).trans rfl
  have s1 : W.cell? ⟨w.heap.size, 1, none⟩ = some (.int .i64 v) := (cell_at xW 1).trans rfl
  have s2 : W.cell? ⟨w.heap.size, 2, none⟩ = some (.int .i64 0) := (cell_at xW 2).trans rfl
  have bX : Below w.heap.size w ((W.alloc (.cells #[.string k, .int .i64 v, .int .i64 0] 72)).drew) := (hbW.alloc hbW.size _).drew
  have c0'' : (W.alloc (.cells #[.string k, .int .i64 v, .int .i64 0] 72)).cell? ⟨r, 0, none⟩ = some (.slice A l.length cap) := (World.cell?_alloc_lt W _ _ (by have := hbW.size; have := RefAt.lt HH.out; show r < _; omega)).trans c0'
  have hXr := RefAt.lt HH.out
  have hXB := HH.out.1
  have n0 := World.new_ne W _ s0
  have n1 := World.new_ne W _ s1
  have n2 := World.new_ne W _ s2
  have n3 := World.new_ne W _ c0'
  have SV : Hid (∀ (w2 : World), ((W.alloc (.cells #[.string k, .int .i64 v, .int .i64 0] 72)).drew).grownBy w2 (Value.slice A l.length cap).ownBlock → (w2.cell? ⟨w.heap.size, 0, none⟩ = some (.string k) ∧ w2.cell? ⟨w.heap.size, 1, none⟩ = some (.int .i64 v) ∧ w2.cell? ⟨w.heap.size, 2, none⟩ = some (.int .i64 0) ∧ w2.cell? ⟨r, 0, none⟩ = some (.slice A l.length cap)) ∧ w2.frozen? ⟨r, 0, none⟩ = false) := Lib.hid (fun w2 hg => by
    have hs : w.heap.size ≤ W.heap.size := hbW.size
    have hb : ∀ j, (Value.slice A l.length cap).ownBlock = some j → j < w.heap.size ∧ j ≠ r := fun j hj => by
      rcases HOW.out.2 with ⟨h0, _⟩ | ⟨g, cp, cur, hv, _, hgb, _⟩
      · rw [h0] at hj; simp [Value.ownBlock] at hj
      · rw [hv] at hj
        have : g = j := by simpa [Value.ownBlock] using hj
        subst this
        refine ⟨heap_lt hgb, ?_⟩
        rintro rfl
        rw [HR.out] at hgb
        injection hgb with hgb
        injection hgb with _ e
        cases e
    have e1 : w2.heap[w.heap.size]? = W.heap[w.heap.size]? := (hg.block _ (by have := heap_lt xW; simp; omega) (fun e => by have := (hb _ e.symm).1; omega)).trans (Below.heap_alloc W _ _ (heap_lt xW))
    have hrW : W.heap[r]? = some (.cells #[.slice A l.length cap, .int .i64 most] 70 (0, 0)) := (hbW.block r hXr).trans HR.out
    have e2 : w2.heap[r]? = W.heap[r]? := (hg.block _ (by simp; omega) (fun e => (hb _ e.symm).2 rfl)).trans (Below.heap_alloc W _ _ (by omega))
    exact ⟨⟨(World.cell?_of_block e1).trans s0, (World.cell?_of_block e1).trans s1, (World.cell?_of_block e1).trans s2, (World.cell?_of_block e2).trans c0'⟩, free_at (e2.trans hrW) 0⟩)
  clear xW
  go_region_law ((refine step_append_any _ rfl (.tmp 50) (.tmp 52) _ rfl B 72 i0 _ 3 32 Try.underlying68 hi hz0 hz1 hz2 rfl (by omega) (.slice A l.length cap) l.length (cells3 l) (by rfl) (OA.out _ bX) _ (some ⟨W.heap.size, 0, none⟩) 1 1 [.string k, .int .i64 v, .int .i64 0] (by rfl) (reads_blk (heap_alloc_new W _)) (mem3 rfl rfl rfl) (by simp only [maxLen]; omega) (by omega) (by have := bX.size; simp at this ⊢; omega) ?_; intro v2 w2 hown2 hg2 hat2; obtain ⟨A2, cap2, rfl⟩ := own_slice hown2; have q0 := (SV.out w2 hg2).1; have q1 := (SV.out w2 hg2).2; have HO := Lib.hid hown2; have HG := Lib.hid hg2; clear hown2 hg2 hat2))
  all_goals
    have HO' : w2.ownsRow B 72 3 (.slice A2 (l.length + 1) cap2) (l ++ [(⟨k, v, 0⟩ : Th Int)]).length (cells3 (l ++ [(⟨k, v, 0⟩ : Th Int)])) := by rw [cells3_append, show (l ++ [(⟨k, v, 0⟩ : Th Int)]).length = l.length + 1 from by simp]; exact HO.out
    have FIN := Lib.hid (room_fin HH.out HR.out HOW.out bX HG.out HO')
    clear HO' HO
    go_wp2_with (fail)
    go_ret
    exact ⟨rfl, FIN.out⟩
theorem rput_evict {a b : List (Th Int)} {x : Th Int} (h : RefAt w B r most (a ++ x :: b)) {k : ByteArray} (hl : (a ++ x :: b).length ≤ 1000000) (hat : at_ k (a ++ x :: b) = none) (hge : most ≤ (a ++ x :: b).length) (hx0 : x.p = 0) (hpin : ∀ y ∈ a, y.p ≠ 0) (v : Int) :
    Calls Try.prog 12 #[.pointer (some ⟨r, 0, none⟩), .string k, .int .i64 v] w (RSays w B r most (a ++ b ++ [⟨k, v, 0⟩]) (.int .i64 0)) := by
  obtain ⟨i0, hi, hz0, hz1, hz2⟩ := info_parts infoT
  obtain ⟨W0, eW0⟩ : ∃ W0, W0 = w.alloc (.cells #[.string k, .int .i64 v, .int .i64 0] 72) := ⟨_, rfl⟩
  have hbA : Below w.heap.size w W0 := by rw [eW0]; exact (Below.refl _ _).alloc (Nat.le_refl _) _
  obtain ⟨A, cap, hr0, hown0⟩ := (h.below hbA).open_
  have AT := at_any r most A cap _ k _ hl hr0 (Ths.of_own hown0)
  rw [idx_no hat] at AT
  have TH := Lib.hid (Ths.of_own hown0)
  obtain ⟨g, cur, rfl, _⟩ := hit_open hown0
  obtain ⟨n, en⟩ : ∃ n, n = (a ++ x :: b).length := ⟨_, rfl⟩
  have c0 : W0.cell? ⟨r, 0, none⟩ = some (.slice (some ⟨g, 0, none⟩) n cap) := by rw [en]; exact (cell_at hr0 0).trans rfl
  have c1 : W0.cell? ⟨r, 1, none⟩ = some (.int .i64 most) := (cell_at hr0 1).trans rfl
  have x0 : W0.heap[w.heap.size]? = some (.cells #[.string k, .int .i64 v, .int .i64 0] 72 (0, 0)) := by rw [eW0]; exact heap_alloc_new w _
  have hd : decide (n < most) = false := decide_eq_false (by omega)
  have hn : n = a.length + 1 + b.length := by rw [en]; simp; omega
  have c0w : w.cell? ⟨r, 0, none⟩ = some (.slice (some ⟨g, 0, none⟩) n cap) := by
    obtain ⟨_, _, hr, _⟩ := h
    have := (hbA.block r (heap_lt hr)).trans hr
    exact ((World.cell?_of_block (hbA.block r (heap_lt hr)).symm).trans c0)
  have ATH := Lib.hid AT
  have HH := Lib.hid h
  have HL := Lib.hid hl
  have EW := Lib.hid eW0
  have X0 := Lib.hid x0
  have HN := Lib.hid hn
  have HA := Lib.hid hbA
  have PN := Lib.hid hpin
  clear AT h hat eW0 hr0 hown0 x0 hl en hge hbA hn hpin
  go_enter Try.func12, Try.ntmps12
  go_upto_region 2 with (fail)
  rw [← EW.out]
  go_wp2_with (go_at_call 37; ((with_reducible refine (ATH.out).mono ?_); rintro e w' ⟨rfl, rfl⟩))
  go_quiet (fail)
  go_wp2_with (fail)
  generalize hW : W0.drewN _ = W1
  have hb1 : Below w.heap.size w W1 := by rw [← hW]; exact ⟨HA.out.os, HA.out.tape, HA.out.output, HA.out.size, HA.out.block⟩
  have x1 : W1.heap[w.heap.size]? = some (.cells #[.string k, .int .i64 v, .int .i64 0] 72 (0, 0)) := by rw [← hW]; exact X0.out
  have c0' : W1.cell? ⟨r, 0, none⟩ = some (.slice (some ⟨g, 0, none⟩) n cap) := by rw [← hW]; exact c0
  have TH1 : Hid (Ths W1 (some ⟨g, 0, none⟩) (a ++ x :: b)) := Lib.hid (by rw [← hW]; exact TH.out)
  clear hW c1
  have c0 := c0w
  clear c0w
  have X1 := Lib.hid x1
  clear x1
  go_loop [9] (fun i => ∃ j : Nat, i = .int .i64 j ∧ j ≤ a.length) (fun i => a.length + 1 - (intOf i).toNat)
  case atStart => exact ⟨0, rfl, Nat.zero_le _⟩
  case round =>
    obtain ⟨j, rfl, hj⟩ := hrel
    have hjm : j < (a ++ x :: b).length := by simp; omega
    have hjn : j < n := by have := HN.out; omega
    have hjI : (j : Int) < (n : Int) := by omega
    have hj0 : (0 : Int) ≤ (j : Int) := by omega
    have g2 : W1.cell? ⟨g, j * 3 + 2, none⟩ = some (.int .i64 ((a ++ x :: b)[j]'hjm).p) := by
      obtain ⟨ad, e, hc⟩ := TH1.out (by simp; omega)
      injection e with e
      subst e
      have := (hc j hjm).2.2
      rw [add_eq] at this
      exact this
    by_cases hlt : j < a.length
    · have hp : ((a ++ x :: b)[j]'hjm).p ≠ 0 := by
        rw [List.getElem_append_left hlt]
        exact PN.out _ (List.getElem_mem hlt)
      generalize ((a ++ x :: b)[j]'hjm).p = p at g2 hp
      have hb : ((p : Int) == 0) = false := beq_eq_false_iff_ne.2 (by omega)
      clear hp
      have hnb : (n : Int) ≤ 1000000 := by have := HL.out; have := HN.out; simp at *; omega
      go_wp2_with (fail)
      go_round
      case rel => exact ⟨j + 1, by go_num, by omega⟩
      case measure => simp [intOf]; omega
    · obtain rfl : j = a.length := by omega
      have hp : ((a ++ x :: b)[a.length]'hjm).p = 0 := by simpa using hx0
      rw [hp] at g2
      clear hp hx0
      have hb : ((0 : Int) == 0) = true := rfl
      go_wp2_with (fail)
      have x1 := X1.out
      have WO := Lib.hid (without_at HH.out HL.out hb1)
      have SX : Hid (∀ W, Below W1.heap.size W1 W → W.cell? ⟨w.heap.size, 0, none⟩ = some (.string k) ∧ W.cell? ⟨w.heap.size, 1, none⟩ = some (.int .i64 v) ∧ W.cell? ⟨w.heap.size, 2, none⟩ = some (.int .i64 0)) := Lib.hid (fun W hW => by
        have x2 := (hW.block _ (heap_lt x1)).trans x1
        exact ⟨(cell_at x2 0).trans rfl, (cell_at x2 1).trans rfl, (cell_at x2 2).trans rfl⟩)
      have SY : Hid (∀ W u, Below W1.heap.size W1 W → (W.setCell ⟨r, 0, none⟩ u).cell? ⟨w.heap.size, 0, none⟩ = some (.string k) ∧ (W.setCell ⟨r, 0, none⟩ u).cell? ⟨w.heap.size, 1, none⟩ = some (.int .i64 v) ∧ (W.setCell ⟨r, 0, none⟩ u).cell? ⟨w.heap.size, 2, none⟩ = some (.int .i64 0)) := Lib.hid (fun W u hW => by
        obtain ⟨s0, s1, s2⟩ := SX.out W hW
        have hrl := RefAt.lt HH.out
        have hne : ∀ j, (⟨w.heap.size, j, none⟩ : Addr) ≠ ⟨r, 0, none⟩ := fun j e => by injection e with e; omega
        exact ⟨(World.cell?_setCell_other _ _ _ _ (hne 0).symm).trans s0, (World.cell?_setCell_other _ _ _ _ (hne 1).symm).trans s1, (World.cell?_setCell_other _ _ _ _ (hne 2).symm).trans s2⟩)
      have SR : Hid (∀ W, Below W1.heap.size W1 W → W.cell? ⟨r, 0, none⟩ = some (.slice (some ⟨g, 0, none⟩) n cap) ∧ W.frozen? ⟨r, 0, none⟩ = false) := Lib.hid (fun W hW => by
        have h2 := below_both hb1 hW
        obtain ⟨_, _, hr, _⟩ := HH.out
        exact ⟨(h2.cell (p := ⟨r, 0, none⟩) (heap_lt hr)).trans c0, free_at ((h2.block r (heap_lt hr)).trans hr) 0⟩)
      have hAB : (a ++ b).length + 1 ≤ 1000001 := by have := HL.out; simp at this ⊢; omega
      have xB : ((W1.alloc (.cells #[.string k, .int .i64 v, .int .i64 0] 72)).drew).heap[W1.heap.size]? = some (.cells #[.string k, .int .i64 v, .int .i64 0] 72 (0, 0)) := heap_alloc_new W1 _
      have dA : Below W1.heap.size W1 W1.drew := (Below.refl _ _).drew
      have dB : Below W1.heap.size W1 (W1.alloc (.cells #[.string k, .int .i64 v, .int .i64 0] 72)).drew := ((Below.refl _ _).alloc (Nat.le_refl _) _).drew
      obtain ⟨s0, s1, s2⟩ := SX.out _ (Below.refl _ _)
      clear x1
      go_region_held3 (fun w' => w'.cell? ⟨w.heap.size, 0, none⟩ = some (.string k) ∧ w'.cell? ⟨w.heap.size, 1, none⟩ = some (.int .i64 v) ∧ w'.cell? ⟨w.heap.size, 2, none⟩ = some (.int .i64 0))
        (first | go_keep | exact SX.out _ (by assumption) | exact SY.out _ _ (by assumption))
        (first | ((go_at_call 38; refine (WO.out _ (by first | exact dA | exact dB)).mono ?_; rintro e w1 ⟨v1, rfl, ho1, hb2, hb3⟩)) | ((refine step_append_any _ rfl (.tmp 77) (.tmp 79) _ rfl W1.heap.size 72 i0 _ 3 32 Try.underlying68 hi hz0 hz1 hz2 rfl (by omega) v1 (a ++ b).length (cells3 (a ++ b)) (by rfl) (ho1.alloc _) _ (some ⟨w1.heap.size, 0, none⟩) 1 1 [.string k, .int .i64 v, .int .i64 0] (by rfl) (reads_blk (heap_alloc_new w1 _)) (mem3 rfl rfl rfl) (by simp only [maxLen]; omega) (by omega) (by have := hb2.size; simp; omega) ?_; intro v2 w2 hown2 hg2 hat2; have hb4 := app_below (hb2.alloc hb2.size _) (ho1.alloc _) hg2; obtain ⟨A2, cap2, rfl⟩ := own_slice hown2; have q0 := (SR.out w2 hb4).1; have q1 := (SR.out w2 hb4).2; have HO := Lib.hid hown2; clear hown2 hg2 hat2)) | ((refine step_append_any _ rfl (.tmp 77) (.tmp 79) _ rfl W1.heap.size 72 i0 _ 3 32 Try.underlying68 hi hz0 hz1 hz2 rfl (by omega) v1 (a ++ b).length (cells3 (a ++ b)) (by rfl) ho1 _ (some ⟨W1.heap.size, 0, none⟩) 1 1 [.string k, .int .i64 v, .int .i64 0] (by rfl) (reads_blk ((hb3.block _ (heap_lt xB)).trans xB)) (mem3 rfl rfl rfl) (by simp only [maxLen]; omega) (by omega) hb2.size ?_; intro v2 w2 hown2 hg2 hat2; have hb4 := app_below hb2 ho1 hg2; obtain ⟨A2, cap2, rfl⟩ := own_slice hown2; have q0 := (SR.out w2 hb4).1; have q1 := (SR.out w2 hb4).2; have HO := Lib.hid hown2; clear hown2 hg2 hat2)))
      all_goals
        have HO' : w2.ownsRow W1.heap.size 72 3 (.slice A2 ((a ++ b).length + 1) cap2) (a ++ b ++ [(⟨k, v, 0⟩ : Th Int)]).length (cells3 (a ++ b ++ [(⟨k, v, 0⟩ : Th Int)])) := by rw [cells3_append, show (a ++ b ++ [(⟨k, v, 0⟩ : Th Int)]).length = (a ++ b).length + 1 from List.length_append]; exact HO.out
        have FIN := Lib.hid (tail_fin HH.out hb1 hb4 HO')
        clear HO' HO
        go_wp2_with (fail)
        go_ret
        first
          | exact ⟨rfl, FIN.out⟩
          | exact ⟨rfl, by rw [← List.length_append]; exact FIN.out⟩
          | exact ⟨rfl, by simpa using FIN.out⟩
theorem rput_full (h : RefAt w B r most l) {k : ByteArray} (hl : l.length ≤ 1000000) (hat : at_ k l = none) (hge : most ≤ l.length) (hpin : ∀ y ∈ l, y.p ≠ 0) (v : Int) :
    Calls Try.prog 12 #[.pointer (some ⟨r, 0, none⟩), .string k, .int .i64 v] w (RSays w B r most l (.int .i64 41)) := by
  obtain ⟨W0, eW0⟩ : ∃ W0, W0 = w.alloc (.cells #[.string k, .int .i64 v, .int .i64 0] 72) := ⟨_, rfl⟩
  have hbA : Below w.heap.size w W0 := by rw [eW0]; exact (Below.refl _ _).alloc (Nat.le_refl _) _
  have h0 := h.below hbA
  obtain ⟨A, cap, hr0, hown0⟩ := h0.open_
  have AT := at_any r most A cap _ k _ hl hr0 (Ths.of_own hown0)
  rw [idx_no hat] at AT
  have TH := Lib.hid (Ths.of_own hown0)
  obtain ⟨n, en⟩ : ∃ n, n = l.length := ⟨_, rfl⟩
  have c0 : W0.cell? ⟨r, 0, none⟩ = some (.slice A n cap) := by rw [en]; exact (cell_at hr0 0).trans rfl
  have c1 : W0.cell? ⟨r, 1, none⟩ = some (.int .i64 most) := (cell_at hr0 1).trans rfl
  have hd : decide (n < most) = false := decide_eq_false (by omega)
  have FIN : Hid (∀ q, RSays w B r most l (.int .i64 41) (.returned (.int .i64 41)) (W0.drewN q)) := Lib.hid (fun q => by
    have hb : Below w.heap.size w (W0.drewN q) := ⟨hbA.os, hbA.tape, hbA.output, hbA.size, hbA.block⟩
    exact ⟨rfl, h.below hb, hb.mono (by have := h.1; have := h.lt; omega), FrR.below hb⟩)
  have ATH := Lib.hid AT
  have EW := Lib.hid eW0
  have EN := Lib.hid en
  have PN := Lib.hid hpin
  have hnb : (n : Int) ≤ 1000000 := by omega
  clear AT h h0 hat eW0 hr0 hown0 hl en hge hbA hpin
  go_enter Try.func12, Try.ntmps12
  go_upto_region 2 with (fail)
  rw [← EW.out]
  go_wp2_with (go_at_call 37; ((with_reducible refine (ATH.out).mono ?_); rintro e w' ⟨rfl, rfl⟩))
  go_quiet (fail)
  go_wp2_with (fail)
  generalize hW : W0.drewN _ = W1
  have FIN1 : Hid (RSays w B r most l (.int .i64 41) (.returned (.int .i64 41)) W1) := Lib.hid (by rw [← hW]; exact FIN.out _)
  have c0' : W1.cell? ⟨r, 0, none⟩ = some (.slice A n cap) := by rw [← hW]; exact c0
  have TH1 : Hid (Ths W1 A l) := Lib.hid (by rw [← hW]; exact TH.out)
  clear hW c1 c0
  go_loop [9] (fun i => ∃ j : Nat, i = .int .i64 j ∧ j ≤ n) (fun i => n - (intOf i).toNat)
  case atStart => exact ⟨0, rfl, Nat.zero_le _⟩
  case round =>
    obtain ⟨j, rfl, hj⟩ := hrel
    by_cases hlt : j < n
    · have hjl : j < l.length := by rw [← EN.out]; exact hlt
      obtain ⟨ad, e, hc⟩ := TH1.out (by omega)
      have g2 := (hc j hjl).2.2
      have hp := PN.out _ (List.getElem_mem hjl)
      subst e
      have hjI : (j : Int) < (n : Int) := by omega
      have hj0 : (0 : Int) ≤ (j : Int) := by omega
      clear hc
      generalize l[j].p = p at g2 hp
      have hb : ((p : Int) == 0) = false := beq_eq_false_iff_ne.2 (by omega)
      clear hp hjl
      go_wp2_with (fail)
      go_round
      case rel => exact ⟨j + 1, by go_num, by omega⟩
      case measure => simp [intOf]; omega
    · obtain rfl : j = n := by omega
      go_wp2_with (fail)
      go_ret
      exact FIN1.out
theorem rput_any (h : RefAt w B r most l) {k : ByteArray} (hl : l.length ≤ most) (hm : most ≤ 1000) (v : Int) :
    Calls Try.prog 12 #[.pointer (some ⟨r, 0, none⟩), .string k, .int .i64 v] w (RSays w B r most (put most l k v).1 (.int .i64 (put most l k v).2)) := by
  cases hat : at_ k l with
  | some z =>
    obtain ⟨a, x, b⟩ := z
    obtain ⟨hl1, _, _⟩ := part_some hat
    subst hl1
    have hp : put most (a ++ x :: b) k v = (a ++ b ++ [⟨k, v, x.p⟩], 0) := by unfold put; rw [hat]
    rw [hp]
    exact rput_hit h (by omega) hat v
  | none =>
    by_cases hlt : l.length < most
    · have hp : put most l k v = (l ++ [⟨k, v, 0⟩], 0) := by unfold put; rw [hat]; exact if_pos hlt
      rw [hp]
      exact rput_room h (by omega) hat hlt hm v
    · cases hfr : Ca.part free_ l with
      | some z =>
        obtain ⟨a, x, b⟩ := z
        obtain ⟨hl1, hx, ha⟩ := part_some hfr
        have hp : put most l k v = (a ++ b ++ [⟨k, v, 0⟩], 0) := by unfold put; rw [hat]; simp only [if_neg hlt, hfr]
        rw [hp]
        subst hl1
        exact rput_evict h (by omega) hat (by omega) (free_iff.1 hx) (fun y hy => free_not.1 (ha y hy)) v
      | none =>
        have hp : put most l k v = (l, 41) := by unfold put; rw [hat]; simp only [if_neg hlt, hfr]
        rw [hp]
        exact rput_full h (by omega) hat (by omega) (fun y hy => free_not.1 (part_none hfr y hy)) v
end
end Go.Proofs.Ytcifjhhofefpjaa.Cr
