/- Joined by mkmerged.py: LgLnil. -/
import Derived.Test.YthkaehnhdldbbaaGreatDoorMe08
/- LgLnil, what a claim needs of it (prune.py). -/
namespace Go.Proofs.YthkaehnhdldbbaaGreatDoor.Lg
open Go.RowKit
set_option linter.unusedVariables false
set_option maxRecDepth 100000
def StepCut0 (r g : Nat) (op : Int) (v : Value) (wx : World) : Prop :=
  ∃ g5, v = .pointer (some ⟨g5, 0, none⟩) ∧ r < g5 ∧ wx.heap[g5]? = some (.cells #[.int .i64 op, .slice (some ⟨g, 0, none⟩) 0 0, .int .i64 0, .slice none 0 0] 42 (0, 0))
set_option maxHeartbeats 4000000 in
theorem lstep_nil (line : ByteArray) (w : World) (hE : Env w) (hs : line.size ≤ 1000000) (x : ByteArray) (hxl : pieces 32 line = [x]) :
    Calls Tryz.prog 89 #[.string line] w fun e w' => StepSays w' (fun b => w.heap.size ≤ b) [tl x] e ∧ Below w.heap.size w w' := by
  obtain ⟨⟨m, hm⟩, _⟩ := id hE
  obtain ⟨W0, eW0⟩ : ∃ W0, W0 = w.alloc (.cells #[.int .i64 0, .slice none 0 0, .int .i64 0, .slice none 0 0] 42) := ⟨_, rfl⟩
  have hb0 : Below w.heap.size w W0 := by rw [eW0]; exact (Below.refl _ _).alloc (Nat.le_refl _) _
  have hr0 : W0.heap[w.heap.size]? = some (.cells #[.int .i64 0, .slice none 0 0, .int .i64 0, .slice none 0 0] 42 (0, 0)) := by rw [eW0]; exact heap_new w _
  have SP := Lib.hid (split_any line 32 m W0 (by omega) ((hb0.cell (cell_lt hm)).trans hm))
  rw [hxl] at SP
  clear hm
  have SPB : Hid (Calls Tryz.prog 87 #[.string line, .string ⟨#[32]⟩] W0 fun e w' => e = .returned (.slice (some ⟨W0.heap.size, 0, none⟩) 1 1) ∧ Strs w' (some ⟨W0.heap.size, 0, none⟩) [x] ∧ Below W0.heap.size W0 w') := Lib.hid (SP.out.mono (by
    rintro e w' ⟨h1, rfl⟩
    exact ⟨h1, Strs.new W0 [x] _, (Below.refl _ _).alloc (Nat.le_refl _) _⟩))
  clear SP
  go_enter Tryz.func89, Tryz.ntmps89
  go_upto_region 2 with (go_at_call 87; rw [← eW0]; clear eW0; ((with_reducible refine (SPB.out).mono ?_); rintro e W1 ⟨rfl, hst, hb1⟩; clear SPB))
  have hE1 : Env W1 := (hE.below hb0).below hb1
  have WD := Lib.hid (fun W (hW : Below W1.heap.size W1 W) => words_any W (hE1.below hW))
  have IX := Lib.hid (fun g x W (hr : Strs W (some ⟨g, 0, none⟩) wordsV) => index_any g x W hr)
  have hx0 : ∀ W, Below W1.heap.size W1 W → W.cell? ⟨W0.heap.size, 0, none⟩ = some (.string x) := fun W hW => by
    obtain ⟨ad, e1, h1, h2⟩ := hst.at_ (k := 0) (by simp)
    injection e1 with e1
    subst e1
    exact (hW.cell h1).trans h2
  have hlt0 : w.heap.size < W0.heap.size := lt_of_block hr0
  have HX := Lib.hid hx0
  have hlt1 : W0.heap.size < W1.heap.size := cell_lt (hx0 W1 (Below.refl _ _))
  have hne1 : ¬ W0.heap.size = W1.heap.size := by omega
  have hne2 : ¬ W1.heap.size = W0.heap.size := by omega
  have hx1 := hx0 W1 (Below.refl _ _)
  have hxA := fun o => hx0 (W1.alloc o) ((Below.refl _ _).alloc (Nat.le_refl _) o)
  clear hx0
  go_cut [5] from 9 to 99 (fun v wx => StepCut0 w.heap.size W0.heap.size (opOf x) v wx ∧ Below W1.heap.size W1 wx)
  case first =>
    go_region_held3 (fun W => W.cell? ⟨W0.heap.size, 0, none⟩ = some (.string x)) (first | (with_reducible exact hx1) | (with_reducible exact hxA _) | (with_reducible exact hx2) | (with_reducible exact hx2A _) | go_keep) (first | (go_at_call 110; (with_reducible refine (WD.out _ (Below.refl _ _).drew).mono ?_); rintro e W2 ⟨rfl, hws, hb2⟩; have hx2 := HX.out W2 ((Below.refl _ _).drew.trans hb2); have hx2A := fun o => HX.out (W2.alloc o) (((Below.refl _ _).drew.trans hb2).alloc hb2.size o); have hws2 : Strs W2 (some ⟨W1.heap.size, 0, none⟩) wordsV := hws) | (go_at_call 110; (with_reducible refine (WD.out _ ((Below.refl _ _).alloc (Nat.le_refl _) _).drew).mono ?_); rintro e W2 ⟨rfl, hws, hb2⟩; have hx2 := HX.out W2 (((Below.refl _ _).alloc (Nat.le_refl _) _).drew.trans (hb2.mono (by simp))); have hws2 : Strs W2 (some ⟨W1.heap.size + 1, 0, none⟩) wordsV := (by simpa using hws); have hz : W2.heap[W1.heap.size]? = some (.cells #[.int .i64 0, .slice none 0 0, .int .i64 0, .slice none 0 0] 42 (0, 0)) := (hb2.block _ (by simp)).trans (heap_new W1 _); have z0 : W2.cell? ⟨W1.heap.size, 0, none⟩ = some (.int .i64 0) := cell_at hz 0; have z1 : W2.cell? ⟨W1.heap.size, 1, none⟩ = some (.slice none 0 0) := cell_at hz 1; have z2 : W2.cell? ⟨W1.heap.size, 2, none⟩ = some (.int .i64 0) := cell_at hz 2; have z3 : W2.cell? ⟨W1.heap.size, 3, none⟩ = some (.slice none 0 0) := cell_at hz 3; have y0 := frozen_of_row W2 _ 0 _ _ hz; have y1 := frozen_of_row W2 _ 1 _ _ hz; have y2 := frozen_of_row W2 _ 2 _ _ hz; have y3 := frozen_of_row W2 _ 3 _ _ hz) | (go_at_call 144; (with_reducible refine (IX.out _ x _ hws2).mono ?_); rintro e W3 ⟨rfl, rfl⟩) | (go_at_call 144; (with_reducible refine (IX.out _ x _ (hws2.below ((Below.refl _ _).alloc (Nat.le_refl _) _))).mono ?_); rintro e W3 ⟨rfl, rfl⟩))
    · go_wp2_with (fail)
      go_meet
      exact ⟨⟨_, rfl, by have := hb2.size; simp at this; omega, heap_new W2 _⟩, ((Below.refl _ _).drew.trans hb2).alloc hb2.size _⟩
    · go_wp2_with (fail)
      go_meet
      exact ⟨⟨_, rfl, by have := hb2.size; simp at this; omega, heap_new W2 _⟩, ((Below.refl _ _).drew.trans hb2).alloc hb2.size _⟩
    · go_wp2_with (fail)
      go_meet
      have q0 := heap_setCell_same _ _ 0 _ _ (.int .i64 (opOf x)) hz
      have q1 := heap_setCell_same _ _ 1 _ _ (.slice (some ⟨W0.heap.size, 0, none⟩) 0 0) q0
      have q2 := heap_setCell_same _ _ 2 _ _ (.int .i64 0) q1
      have q3 := heap_setCell_same _ _ 3 _ _ (.slice none 0 0) q2
      refine ⟨⟨_, rfl, by omega, q3⟩, ?_⟩
      have hb : Below W1.heap.size W1 W2 := ((Below.refl _ _).alloc (Nat.le_refl _) _).drew.trans (hb2.mono (by simp))
      exact (((hb.setCell (Nat.le_refl _) _).setCell (Nat.le_refl _) _).setCell (Nat.le_refl _) _).setCell (Nat.le_refl _) _
  case rest =>
    obtain ⟨⟨g5, rfl, hg5, hx⟩, hb3⟩ := hcut
    have hr : wc.heap[w.heap.size]? = some (.cells #[.int .i64 0, .slice none 0 0, .int .i64 0, .slice none 0 0] 42 (0, 0)) := (hb3.block _ (by omega)).trans ((hb1.block _ hlt0).trans hr0)
    have hbw : Below w.heap.size w wc := hb0.trans ((hb1.mono (by omega)).trans (hb3.mono (by omega)))
    have hE3 : Env wc := hE.below hbw
    have hg6 : g5 < wc.heap.size := lt_of_block hx
    have hg7 : w.heap.size < wc.heap.size := lt_of_block hr
    have hbs : w.heap.size ≤ wc.heap.size := Nat.le_of_lt hg7
    have hne5 : ¬ g5 = w.heap.size := by omega
    have hne6 : ¬ w.heap.size = g5 := by omega
    obtain ⟨c0, c1, c2, c3, _, _, _, _⟩ := four hx
    obtain ⟨z0, z1, z2, z3, y0, y1, y2, y3⟩ := four hr
    have HX5 := Lib.hid hx
    have HR := Lib.hid hr
    clear hx hr hb3 hst hx1 hxA hr0 HX WD IX hb0 hb1 hE hE1 hxl
    rcases op_cases x with ⟨rfl, ho⟩ | ⟨rfl, ho⟩ | ⟨rfl, ho⟩ | ⟨rfl, ho⟩ | ⟨rfl, ho⟩ | ⟨rfl, ho⟩ | ⟨rfl, ho⟩ | ⟨rfl, ho⟩ | ⟨rfl, ho⟩ | ⟨rfl, ho⟩ | ⟨hno, ho⟩
    · have BAD : Hid (stepW [[112, 117, 116]] = none) := Lib.hid ((stepW_put []).trans (if_neg (by simp)))
      rw [ho] at c0 HX5
      clear ho
      have F5 : Hid (∀ W, Below wc.heap.size wc W → W.heap[g5]? = some (.cells #[.int .i64 1, .slice (some ⟨W0.heap.size, 0, none⟩) 0 0, .int .i64 0, .slice none 0 0] 42 (0, 0))) := Lib.hid (fun W hW => (hW.block g5 hg6).trans HX5.out)
      go_upto_region 6 with (fail)
      refine wp_region_late (C := fun w' => Below wc.heap.size wc w') 14 15 (by kernel_rfl) (by kernel_rfl) (fun _ _ d _ _ h => by cases d <;> exact h) (Below.refl _ _).drew ?_
      repeat (quiet_step (first | (intro _; rfl) | (intro hss; obtain ⟨v0, v1, v2, v3, _, _, _, _⟩ := four (F5.out _ hss); simp only [v0, v1, v2, v3, Result.andThen]; first | exact ⟨rfl, rfl⟩ | exact ⟨trivial, rfl⟩)))
      refine wpQuiet_nil ?_
      refine ⟨.bool false, Or.inl ⟨rfl, fun w => rfl⟩, ?_⟩
      intro w4 hb4
      obtain ⟨t0, t1, t2, t3, t4, t5, t6, t7⟩ := four ((hb4.block w.heap.size hg7).trans HR.out)
      go_wp2
      ((try simp only [Exit.inBlock, Exit.then]); refine bodyPost_ret_by (results_cell_row2 rfl _ _ w.heap.size 42 _ (0, 0) _ rfl (set4 ((hb4.block w.heap.size hg7).trans HR.out) _ _ _ _) rfl rfl (by kernel_rfl)) rfl ?_)
      exact ⟨StepSays.bad BAD.out (Nat.le_refl _), (set4_below (hbw.trans (hb4.mono hbs)) (Nat.le_refl _) _ _ _ _)⟩
    · have BAD : Hid (stepW [[99, 111, 112, 121]] = none) := Lib.hid ((stepW_copy []).trans (if_neg (by simp)))
      rw [ho] at c0 HX5
      clear ho
      have LA : Hid (∀ W, Below wc.heap.size wc W → Calls Tryz.prog 145 #[.slice (some ⟨W0.heap.size, 0, none⟩) 0 0, .int .i64 2, .int .i64 2] W fun e w' => e = .returned (.bool false) ∧ Below W.heap.size W w') := Lib.hid fun W hW => by
        have := lall_any (some ⟨W0.heap.size, 0, none⟩) [] 0 2 2 W (hE3.below hW) Reads.none_ (by simp) (by simp) (by omega) (by omega)
        exact this
      go_upto_region 8 with (fail)
      go_region_held3 (fun W => W.cell? ⟨g5, 0, none⟩ = some (.int .i64 2) ∧ W.cell? ⟨g5, 1, none⟩ = some (.slice (some ⟨W0.heap.size, 0, none⟩) 0 0) ∧ W.cell? ⟨g5, 2, none⟩ = some (.int .i64 0) ∧ W.cell? ⟨g5, 3, none⟩ = some (.slice none 0 0)) (go_keep) (first | (go_at_call 145; (with_reducible refine (LA.out _ (Below.refl _ _).drew).mono ?_); rintro e W4 ⟨rfl, hb4⟩; obtain ⟨s0, s1, s2, s3, _, _, _, _⟩ := four ((hb4.block g5 hg6).trans HX5.out); obtain ⟨t0, t1, t2, t3, t4, t5, t6, t7⟩ := four ((hb4.block w.heap.size hg7).trans HR.out)))
      go_wp2_with (fail)
      ((try simp only [Exit.inBlock, Exit.then]); refine bodyPost_ret_by (results_cell_row2 rfl _ _ w.heap.size 42 _ (0, 0) _ rfl (set4 ((hb4.block w.heap.size hg7).trans HR.out) _ _ _ _) rfl rfl (by kernel_rfl)) rfl ?_)
      exact ⟨StepSays.bad BAD.out (Nat.le_refl _), (set4_below (hbw.drew.trans (hb4.mono hbs)) (Nat.le_refl _) _ _ _ _)⟩
    · have BAD : Hid (stepW [[99, 97, 116]] = none) := Lib.hid ((stepW_cat []).trans (if_neg (by simp)))
      rw [ho] at c0 HX5
      clear ho
      have LA : Hid (∀ W, Below wc.heap.size wc W → Calls Tryz.prog 145 #[.slice (some ⟨W0.heap.size, 0, none⟩) 0 0, .int .i64 2, .int .i64 8] W fun e w' => e = .returned (.bool false) ∧ Below W.heap.size W w') := Lib.hid fun W hW => by
        have := lall_any (some ⟨W0.heap.size, 0, none⟩) [] 0 2 8 W (hE3.below hW) Reads.none_ (by simp) (by simp) (by omega) (by omega)
        exact this
      go_upto_region 10 with (fail)
      go_region_held3 (fun W => W.cell? ⟨g5, 0, none⟩ = some (.int .i64 3) ∧ W.cell? ⟨g5, 1, none⟩ = some (.slice (some ⟨W0.heap.size, 0, none⟩) 0 0) ∧ W.cell? ⟨g5, 2, none⟩ = some (.int .i64 0) ∧ W.cell? ⟨g5, 3, none⟩ = some (.slice none 0 0)) (go_keep) (first | (go_at_call 145; (with_reducible refine (LA.out _ (Below.refl _ _).drew).mono ?_); rintro e W4 ⟨rfl, hb4⟩; obtain ⟨s0, s1, s2, s3, _, _, _, _⟩ := four ((hb4.block g5 hg6).trans HX5.out); obtain ⟨t0, t1, t2, t3, t4, t5, t6, t7⟩ := four ((hb4.block w.heap.size hg7).trans HR.out)))
      go_wp2_with (fail)
      ((try simp only [Exit.inBlock, Exit.then]); refine bodyPost_ret_by (results_cell_row2 rfl _ _ w.heap.size 42 _ (0, 0) _ rfl (set4 ((hb4.block w.heap.size hg7).trans HR.out) _ _ _ _) rfl rfl (by kernel_rfl)) rfl ?_)
      exact ⟨StepSays.bad BAD.out (Nat.le_refl _), (set4_below (hbw.drew.trans (hb4.mono hbs)) (Nat.le_refl _) _ _ _ _)⟩
    · have BAD : Hid (stepW [[117, 112, 112, 101, 114]] = none) := Lib.hid ((stepW_upper []).trans (if_neg (by simp)))
      rw [ho] at c0 HX5
      clear ho
      have LA : Hid (∀ W, Below wc.heap.size wc W → Calls Tryz.prog 145 #[.slice (some ⟨W0.heap.size, 0, none⟩) 0 0, .int .i64 1, .int .i64 1] W fun e w' => e = .returned (.bool false) ∧ Below W.heap.size W w') := Lib.hid fun W hW => by
        have := lall_any (some ⟨W0.heap.size, 0, none⟩) [] 0 1 1 W (hE3.below hW) Reads.none_ (by simp) (by simp) (by omega) (by omega)
        exact this
      go_upto_region 15 with (fail)
      go_region_held3 (fun W => W.cell? ⟨g5, 0, none⟩ = some (.int .i64 4) ∧ W.cell? ⟨g5, 1, none⟩ = some (.slice (some ⟨W0.heap.size, 0, none⟩) 0 0) ∧ W.cell? ⟨g5, 2, none⟩ = some (.int .i64 0) ∧ W.cell? ⟨g5, 3, none⟩ = some (.slice none 0 0)) (go_keep) (first | (go_at_call 145; (with_reducible refine (LA.out _ (Below.refl _ _).drew).mono ?_); rintro e W4 ⟨rfl, hb4⟩; obtain ⟨s0, s1, s2, s3, _, _, _, _⟩ := four ((hb4.block g5 hg6).trans HX5.out); obtain ⟨t0, t1, t2, t3, t4, t5, t6, t7⟩ := four ((hb4.block w.heap.size hg7).trans HR.out)))
      go_wp2_with (fail)
      ((try simp only [Exit.inBlock, Exit.then]); refine bodyPost_ret_by (results_cell_row2 rfl _ _ w.heap.size 42 _ (0, 0) _ rfl (set4 ((hb4.block w.heap.size hg7).trans HR.out) _ _ _ _) rfl rfl (by kernel_rfl)) rfl ?_)
      exact ⟨StepSays.bad BAD.out (Nat.le_refl _), (set4_below (hbw.drew.trans (hb4.mono hbs)) (Nat.le_refl _) _ _ _ _)⟩
    · have BAD : Hid (stepW [[115, 111, 114, 116]] = none) := Lib.hid ((stepW_sort []).trans (if_neg (by simp)))
      rw [ho] at c0 HX5
      clear ho
      have LA : Hid (∀ W, Below wc.heap.size wc W → Calls Tryz.prog 145 #[.slice (some ⟨W0.heap.size, 0, none⟩) 0 0, .int .i64 1, .int .i64 1] W fun e w' => e = .returned (.bool false) ∧ Below W.heap.size W w') := Lib.hid fun W hW => by
        have := lall_any (some ⟨W0.heap.size, 0, none⟩) [] 0 1 1 W (hE3.below hW) Reads.none_ (by simp) (by simp) (by omega) (by omega)
        exact this
      go_upto_region 15 with (fail)
      go_region_held3 (fun W => W.cell? ⟨g5, 0, none⟩ = some (.int .i64 5) ∧ W.cell? ⟨g5, 1, none⟩ = some (.slice (some ⟨W0.heap.size, 0, none⟩) 0 0) ∧ W.cell? ⟨g5, 2, none⟩ = some (.int .i64 0) ∧ W.cell? ⟨g5, 3, none⟩ = some (.slice none 0 0)) (go_keep) (first | (go_at_call 145; (with_reducible refine (LA.out _ (Below.refl _ _).drew).mono ?_); rintro e W4 ⟨rfl, hb4⟩; obtain ⟨s0, s1, s2, s3, _, _, _, _⟩ := four ((hb4.block g5 hg6).trans HX5.out); obtain ⟨t0, t1, t2, t3, t4, t5, t6, t7⟩ := four ((hb4.block w.heap.size hg7).trans HR.out)))
      go_wp2_with (fail)
      ((try simp only [Exit.inBlock, Exit.then]); refine bodyPost_ret_by (results_cell_row2 rfl _ _ w.heap.size 42 _ (0, 0) _ rfl (set4 ((hb4.block w.heap.size hg7).trans HR.out) _ _ _ _) rfl rfl (by kernel_rfl)) rfl ?_)
      exact ⟨StepSays.bad BAD.out (Nat.le_refl _), (set4_below (hbw.drew.trans (hb4.mono hbs)) (Nat.le_refl _) _ _ _ _)⟩
    · have BAD : Hid (stepW [[100, 114, 111, 112]] = none) := Lib.hid ((stepW_drop []).trans (if_neg (by simp)))
      rw [ho] at c0 HX5
      clear ho
      have LA : Hid (∀ W, Below wc.heap.size wc W → Calls Tryz.prog 145 #[.slice (some ⟨W0.heap.size, 0, none⟩) 0 0, .int .i64 1, .int .i64 1] W fun e w' => e = .returned (.bool false) ∧ Below W.heap.size W w') := Lib.hid fun W hW => by
        have := lall_any (some ⟨W0.heap.size, 0, none⟩) [] 0 1 1 W (hE3.below hW) Reads.none_ (by simp) (by simp) (by omega) (by omega)
        exact this
      go_upto_region 15 with (fail)
      go_region_held3 (fun W => W.cell? ⟨g5, 0, none⟩ = some (.int .i64 6) ∧ W.cell? ⟨g5, 1, none⟩ = some (.slice (some ⟨W0.heap.size, 0, none⟩) 0 0) ∧ W.cell? ⟨g5, 2, none⟩ = some (.int .i64 0) ∧ W.cell? ⟨g5, 3, none⟩ = some (.slice none 0 0)) (go_keep) (first | (go_at_call 145; (with_reducible refine (LA.out _ (Below.refl _ _).drew).mono ?_); rintro e W4 ⟨rfl, hb4⟩; obtain ⟨s0, s1, s2, s3, _, _, _, _⟩ := four ((hb4.block g5 hg6).trans HX5.out); obtain ⟨t0, t1, t2, t3, t4, t5, t6, t7⟩ := four ((hb4.block w.heap.size hg7).trans HR.out)))
      go_wp2_with (fail)
      ((try simp only [Exit.inBlock, Exit.then]); refine bodyPost_ret_by (results_cell_row2 rfl _ _ w.heap.size 42 _ (0, 0) _ rfl (set4 ((hb4.block w.heap.size hg7).trans HR.out) _ _ _ _) rfl rfl (by kernel_rfl)) rfl ?_)
      exact ⟨StepSays.bad BAD.out (Nat.le_refl _), (set4_below (hbw.drew.trans (hb4.mono hbs)) (Nat.le_refl _) _ _ _ _)⟩
    · have BAD : Hid (stepW [[110, 101, 101, 100]] = none) := Lib.hid ((stepW_need []).trans (if_neg (by simp)))
      rw [ho] at c0 HX5
      clear ho
      have F5 : Hid (∀ W, Below wc.heap.size wc W → W.heap[g5]? = some (.cells #[.int .i64 7, .slice (some ⟨W0.heap.size, 0, none⟩) 0 0, .int .i64 0, .slice none 0 0] 42 (0, 0))) := Lib.hid (fun W hW => (hW.block g5 hg6).trans HX5.out)
      go_upto_region 17 with (fail)
      refine wp_region_late (C := fun w' => Below wc.heap.size wc w') 9 11 (by kernel_rfl) (by kernel_rfl) (fun _ _ d _ _ h => by cases d <;> exact h) (Below.refl _ _).drew ?_
      repeat (quiet_step (first | (intro _; rfl) | (intro hss; obtain ⟨v0, v1, v2, v3, _, _, _, _⟩ := four (F5.out _ hss); simp only [v0, v1, v2, v3, Result.andThen]; first | exact ⟨rfl, rfl⟩ | exact ⟨trivial, rfl⟩)))
      refine wpQuiet_nil ?_
      refine ⟨_, Or.inr ⟨rfl, rfl⟩, ?_⟩
      refine ⟨.bool false, Or.inl ⟨rfl, fun w => rfl⟩, ?_⟩
      intro w4 hb4
      obtain ⟨t0, t1, t2, t3, t4, t5, t6, t7⟩ := four ((hb4.block w.heap.size hg7).trans HR.out)
      go_wp2
      ((try simp only [Exit.inBlock, Exit.then]); refine bodyPost_ret_by (results_cell_row2 rfl _ _ w.heap.size 42 _ (0, 0) _ rfl (set4 ((hb4.block w.heap.size hg7).trans HR.out) _ _ _ _) rfl rfl (by kernel_rfl)) rfl ?_)
      exact ⟨StepSays.bad BAD.out (Nat.le_refl _), (set4_below (hbw.trans (hb4.mono hbs)) (Nat.le_refl _) _ _ _ _)⟩
    · have BAD : Hid (stepW [[102, 97, 105, 108]] = none) := Lib.hid ((stepW_fail []).trans (if_neg (by simp)))
      rw [ho] at c0 HX5
      clear ho
      have F5 : Hid (∀ W, Below wc.heap.size wc W → W.heap[g5]? = some (.cells #[.int .i64 8, .slice (some ⟨W0.heap.size, 0, none⟩) 0 0, .int .i64 0, .slice none 0 0] 42 (0, 0))) := Lib.hid (fun W hW => (hW.block g5 hg6).trans HX5.out)
      go_upto_region 19 with (fail)
      refine wp_region_late (C := fun w' => Below wc.heap.size wc w') 9 10 (by kernel_rfl) (by kernel_rfl) (fun _ _ d _ _ h => by cases d <;> exact h) (Below.refl _ _).drew ?_
      repeat (quiet_step (first | (intro _; rfl) | (intro hss; obtain ⟨v0, v1, v2, v3, _, _, _, _⟩ := four (F5.out _ hss); simp only [v0, v1, v2, v3, Result.andThen]; first | exact ⟨rfl, rfl⟩ | exact ⟨trivial, rfl⟩)))
      refine wpQuiet_nil ?_
      refine ⟨.bool false, Or.inl ⟨rfl, fun w => rfl⟩, ?_⟩
      intro w4 hb4
      obtain ⟨t0, t1, t2, t3, t4, t5, t6, t7⟩ := four ((hb4.block w.heap.size hg7).trans HR.out)
      go_wp2
      ((try simp only [Exit.inBlock, Exit.then]); refine bodyPost_ret_by (results_cell_row2 rfl _ _ w.heap.size 42 _ (0, 0) _ rfl (set4 ((hb4.block w.heap.size hg7).trans HR.out) _ _ _ _) rfl rfl (by kernel_rfl)) rfl ?_)
      exact ⟨StepSays.bad BAD.out (Nat.le_refl _), (set4_below (hbw.trans (hb4.mono hbs)) (Nat.le_refl _) _ _ _ _)⟩
    · have BAD : Hid (stepW [[108, 111, 111, 112]] = none) := Lib.hid (stepW_loop [])
      rw [ho] at c0 HX5
      clear ho
      go_wp2_with (fail)
      ((try simp only [Exit.inBlock, Exit.then]); refine bodyPost_ret_by (results_cell_row2 rfl _ _ w.heap.size 42 _ (0, 0) _ rfl (set4 HR.out _ _ _ _) rfl rfl (by kernel_rfl)) rfl ?_)
      exact ⟨StepSays.bad BAD.out (Nat.le_refl _), (set4_below (hbw) (Nat.le_refl _) _ _ _ _)⟩
    · have BAD : Hid (stepW [[105, 102]] = none) := Lib.hid ((stepW_if []).trans (if_neg (by simp)))
      rw [ho] at c0 HX5
      clear ho
      have LA : Hid (∀ W, Below wc.heap.size wc W → Calls Tryz.prog 145 #[.slice (some ⟨W0.heap.size, 0, none⟩) 0 0, .int .i64 1, .int .i64 1] W fun e w' => e = .returned (.bool false) ∧ Below W.heap.size W w') := Lib.hid fun W hW => by
        have := lall_any (some ⟨W0.heap.size, 0, none⟩) [] 0 1 1 W (hE3.below hW) Reads.none_ (by simp) (by simp) (by omega) (by omega)
        exact this
      go_upto_region 15 with (fail)
      go_region_held3 (fun W => W.cell? ⟨g5, 0, none⟩ = some (.int .i64 10) ∧ W.cell? ⟨g5, 1, none⟩ = some (.slice (some ⟨W0.heap.size, 0, none⟩) 0 0) ∧ W.cell? ⟨g5, 2, none⟩ = some (.int .i64 0) ∧ W.cell? ⟨g5, 3, none⟩ = some (.slice none 0 0)) (go_keep) (first | (go_at_call 145; (with_reducible refine (LA.out _ (Below.refl _ _).drew).mono ?_); rintro e W4 ⟨rfl, hb4⟩; obtain ⟨s0, s1, s2, s3, _, _, _, _⟩ := four ((hb4.block g5 hg6).trans HX5.out); obtain ⟨t0, t1, t2, t3, t4, t5, t6, t7⟩ := four ((hb4.block w.heap.size hg7).trans HR.out)))
      go_wp2_with (fail)
      ((try simp only [Exit.inBlock, Exit.then]); refine bodyPost_ret_by (results_cell_row2 rfl _ _ w.heap.size 42 _ (0, 0) _ rfl (set4 ((hb4.block w.heap.size hg7).trans HR.out) _ _ _ _) rfl rfl (by kernel_rfl)) rfl ?_)
      exact ⟨StepSays.bad BAD.out (Nat.le_refl _), (set4_below (hbw.drew.trans (hb4.mono hbs)) (Nat.le_refl _) _ _ _ _)⟩
    · have BAD := Lib.hid (hno [])
      clear hno
      rcases ho with ho | ho
      · rw [ho] at c0 HX5
        clear ho
        go_wp2_with (fail)
        ((try simp only [Exit.inBlock, Exit.then]); refine bodyPost_ret_by (results_cell_row2 rfl _ _ w.heap.size 42 _ (0, 0) _ rfl (set4 HR.out _ _ _ _) rfl rfl (by kernel_rfl)) rfl ?_)
        exact ⟨StepSays.bad BAD.out (Nat.le_refl _), (set4_below (hbw) (Nat.le_refl _) _ _ _ _)⟩
      · rw [ho] at c0 HX5
        clear ho
        go_wp2_with (fail)
        ((try simp only [Exit.inBlock, Exit.then]); refine bodyPost_ret_by (results_cell_row2 rfl _ _ w.heap.size 42 _ (0, 0) _ rfl (set4 HR.out _ _ _ _) rfl rfl (by kernel_rfl)) rfl ?_)
        exact ⟨StepSays.bad BAD.out (Nat.le_refl _), (set4_below (hbw) (Nat.le_refl _) _ _ _ _)⟩
theorem lstep_any (line : ByteArray) (w : World) (hE : Env w) (hs : line.size ≤ 1000000) :
    Calls Tryz.prog 89 #[.string line] w fun e w' => StepSays w' (fun b => w.heap.size ≤ b) (splitB 32 (tl line)) e ∧ Below w.heap.size w w' := by
  have hp : splitB 32 (tl line) = (pieces 32 line).map tl := by rw [pieces, map_tl_bs]
  rw [hp]
  match h : pieces 32 line with
  | [] => exact absurd h (pieces_ne 32 line)
  | [x] => exact lstep_nil line w hE hs x h
  | x :: y :: l => exact lstep_cons line w hE hs x y l h
end Go.Proofs.YthkaehnhdldbbaaGreatDoor.Lg
