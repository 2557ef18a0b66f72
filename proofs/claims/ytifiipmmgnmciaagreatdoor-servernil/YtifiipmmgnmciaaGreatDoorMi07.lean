/- Joined by mkmerged.py: LgLnil, LgBlockB. -/
import Derived.Test.YtifiipmmgnmciaaGreatDoorMi06
import Derived.Test.YtifiipmmgnmciaaGreatDoorMi05
/- LgLnil, what a claim needs of it (prune.py). -/
namespace Go.Proofs.YtifiipmmgnmciaaGreatDoor.Lg
open Go.RowKit
set_option linter.unusedVariables false
set_option maxRecDepth 100000
def StepCut0 (r g : Nat) (op : Int) (v : Value) (wx : World) : Prop :=
  ∃ g5, v = .pointer (some ⟨g5, 0, none⟩) ∧ r < g5 ∧ wx.heap[g5]? = some (.cells #[.int .i64 op, .slice (some ⟨g, 0, none⟩) 0 0, .int .i64 0, .slice none 0 0] 186 (0, 0))
set_option maxHeartbeats 4000000 in
theorem lstep_nil (line : ByteArray) (w : World) (hE : Env w) (hs : line.size ≤ 1000000) (x : ByteArray) (hxl : pieces 32 line = [x]) :
    Calls Tryz.prog 87 #[.string line] w fun e w' => StepSays w' (fun b => w.heap.size ≤ b) [tl x] e ∧ Below w.heap.size w w' := by
  obtain ⟨⟨m, hm⟩, _⟩ := id hE
  obtain ⟨W0, eW0⟩ : ∃ W0, W0 = w.alloc (.cells #[.int .i64 0, .slice none 0 0, .int .i64 0, .slice none 0 0] 186) := ⟨_, rfl⟩
  have hb0 : Below w.heap.size w W0 := by rw [eW0]; exact (Below.refl _ _).alloc (Nat.le_refl _) _
  have hr0 : W0.heap[w.heap.size]? = some (.cells #[.int .i64 0, .slice none 0 0, .int .i64 0, .slice none 0 0] 186 (0, 0)) := by rw [eW0]; exact heap_new w _
  have SP := Lib.hid (split_any line 32 m W0 (by omega) ((hb0.cell (cell_lt hm)).trans hm))
  rw [hxl] at SP
  clear hm
  have SPB : Hid (Calls Tryz.prog 85 #[.string line, .string ⟨#[32]⟩] W0 fun e w' => e = .returned (.slice (some ⟨W0.heap.size, 0, none⟩) 1 1) ∧ Strs w' (some ⟨W0.heap.size, 0, none⟩) [x] ∧ Below W0.heap.size W0 w') := Lib.hid (SP.out.mono (by
    rintro e w' ⟨h1, rfl⟩
    exact ⟨h1, Strs.new W0 [x] _, (Below.refl _ _).alloc (Nat.le_refl _) _⟩))
  clear SP
  go_enter Tryz.func87, Tryz.ntmps87
  go_upto_region 2 with (go_at_call 85; rw [← eW0]; clear eW0; ((with_reducible refine (SPB.out).mono ?_); rintro e W1 ⟨rfl, hst, hb1⟩; clear SPB))
  have hE1 : Env W1 := (hE.below hb0).below hb1
  have WD := Lib.hid (fun W (hW : Below W1.heap.size W1 W) => words_any W (hE1.below hW))
  have IX := Lib.hid (fun g x W (hr : Strs W (some ⟨g, 0, none⟩) wordsV) => index_any g x W hr)
  have hx0 : ∀ W, Below W1.heap.size W1 W → W.cell? ⟨W0.heap.size, 0, none⟩ = some (.string x) := fun W hW => by
    obtain ⟨ad, e1, h1, h2⟩ := hst.at_ (k := 0) (by simp)
    injection e1 with e1
    subst e1
    exact (hW.cell h1).trans h2
  have hlt0 : w.heap.size < W0.heap.size := lt_of_block hr0
  have HX := Lib.hid hx0
  have hlt1 : W0.heap.size < W1.heap.size := cell_lt (hx0 W1 (Below.refl _ _))
  have hne1 : ¬ W0.heap.size = W1.heap.size := by omega
  have hne2 : ¬ W1.heap.size = W0.heap.size := by omega
  have hx1 := hx0 W1 (Below.refl _ _)
  have hxA := fun o => hx0 (W1.alloc o) ((Below.refl _ _).alloc (Nat.le_refl _) o)
  clear hx0
  go_cut [5] from 9 to 99 (fun v wx => StepCut0 w.heap.size W0.heap.size (opOf x) v wx ∧ Below W1.heap.size W1 wx)
  case first =>
    go_region_held3 (fun W => W.cell? ⟨W0.heap.size, 0, none⟩ = some (.string x)) (first | (with_reducible exact hx1) | (with_reducible exact hxA _) | (with_reducible exact hx2) | (with_reducible exact hx2A _) | go_keep) (first | (go_at_call 165; (with_reducible refine (WD.out _ (Below.refl _ _).drew).mono ?_); rintro e W2 ⟨rfl, hws, hb2⟩; have hx2 := HX.out W2 ((Below.refl _ _).drew.trans hb2); have hx2A := fun o => HX.out (W2.alloc o) (((Below.refl _ _).drew.trans hb2).alloc hb2.size o); have hws2 : Strs W2 (some ⟨W1.heap.size, 0, none⟩) wordsV := hws) | (go_at_call 165; (with_reducible refine (WD.out _ ((Below.refl _ _).alloc (Nat.le_refl _) _).drew).mono ?_); rintro e W2 ⟨rfl, hws, hb2⟩; have hx2 := HX.out W2 (((Below.refl _ _).alloc (Nat.le_refl _) _).drew.trans (hb2.mono (by simp))); have hws2 : Strs W2 (some ⟨W1.heap.size + 1, 0, none⟩) wordsV := (by simpa using hws); have hz : W2.heap[W1.heap.size]? = some (.cells #[.int .i64 0, .slice none 0 0, .int .i64 0, .slice none 0 0] 186 (0, 0)) := (hb2.block _ (by simp)).trans (heap_new W1 _); have z0 : W2.cell? ⟨W1.heap.size, 0, none⟩ = some (.int .i64 0) := cell_at hz 0; have z1 : W2.cell? ⟨W1.heap.size, 1, none⟩ = some (.slice none 0 0) := cell_at hz 1; have z2 : W2.cell? ⟨W1.heap.size, 2, none⟩ = some (.int .i64 0) := cell_at hz 2; have z3 : W2.cell? ⟨W1.heap.size, 3, none⟩ = some (.slice none 0 0) := cell_at hz 3; have y0 := frozen_of_row W2 _ 0 _ _ hz; have y1 := frozen_of_row W2 _ 1 _ _ hz; have y2 := frozen_of_row W2 _ 2 _ _ hz; have y3 := frozen_of_row W2 _ 3 _ _ hz) | (go_at_call 164; (with_reducible refine (IX.out _ x _ hws2).mono ?_); rintro e W3 ⟨rfl, rfl⟩) | (go_at_call 164; (with_reducible refine (IX.out _ x _ (hws2.below ((Below.refl _ _).alloc (Nat.le_refl _) _))).mono ?_); rintro e W3 ⟨rfl, rfl⟩))
    · go_wp2_with (fail)
      go_meet
      exact ⟨⟨_, rfl, by have := hb2.size; simp at this; omega, heap_new W2 _⟩, ((Below.refl _ _).drew.trans hb2).alloc hb2.size _⟩
    · go_wp2_with (fail)
      go_meet
      exact ⟨⟨_, rfl, by have := hb2.size; simp at this; omega, heap_new W2 _⟩, ((Below.refl _ _).drew.trans hb2).alloc hb2.size _⟩
    · go_wp2_with (fail)
      go_meet
      have q0 := heap_setCell_same _ _ 0 _ _ (.int .i64 (opOf x)) hz
      have q1 := heap_setCell_same _ _ 1 _ _ (.slice (some ⟨W0.heap.size, 0, none⟩) 0 0) q0
      have q2 := heap_setCell_same _ _ 2 _ _ (.int .i64 0) q1
      have q3 := heap_setCell_same _ _ 3 _ _ (.slice none 0 0) q2
      refine ⟨⟨_, rfl, by omega, q3⟩, ?_⟩
      have hb : Below W1.heap.size W1 W2 := ((Below.refl _ _).alloc (Nat.le_refl _) _).drew.trans (hb2.mono (by simp))
      exact (((hb.setCell (Nat.le_refl _) _).setCell (Nat.le_refl _) _).setCell (Nat.le_refl _) _).setCell (Nat.le_refl _) _
  case rest =>
    obtain ⟨⟨g5, rfl, hg5, hx⟩, hb3⟩ := hcut
    have hr : wc.heap[w.heap.size]? = some (.cells #[.int .i64 0, .slice none 0 0, .int .i64 0, .slice none 0 0] 186 (0, 0)) := (hb3.block _ (by omega)).trans ((hb1.block _ hlt0).trans hr0)
    have hbw : Below w.heap.size w wc := hb0.trans ((hb1.mono (by omega)).trans (hb3.mono (by omega)))
    have hE3 : Env wc := hE.below hbw
    have hg6 : g5 < wc.heap.size := lt_of_block hx
    have hg7 : w.heap.size < wc.heap.size := lt_of_block hr
    have hbs : w.heap.size ≤ wc.heap.size := Nat.le_of_lt hg7
    have hne5 : ¬ g5 = w.heap.size := by omega
    have hne6 : ¬ w.heap.size = g5 := by omega
    obtain ⟨c0, c1, c2, c3, _, _, _, _⟩ := four hx
    obtain ⟨z0, z1, z2, z3, y0, y1, y2, y3⟩ := four hr
    have HX5 := Lib.hid hx
    have HR := Lib.hid hr
    clear hx hr hb3 hst hx1 hxA hr0 HX WD IX hb0 hb1 hE hE1 hxl
    rcases op_cases x with ⟨rfl, ho⟩ | ⟨rfl, ho⟩ | ⟨rfl, ho⟩ | ⟨rfl, ho⟩ | ⟨rfl, ho⟩ | ⟨rfl, ho⟩ | ⟨rfl, ho⟩ | ⟨rfl, ho⟩ | ⟨rfl, ho⟩ | ⟨rfl, ho⟩ | ⟨hno, ho⟩
    · have BAD : Hid (stepW [[112, 117, 116]] = none) := Lib.hid ((stepW_put []).trans (if_neg (by simp)))
      rw [ho] at c0 HX5
      clear ho
      have F5 : Hid (∀ W, Below wc.heap.size wc W → W.heap[g5]? = some (.cells #[.int .i64 1, .slice (some ⟨W0.heap.size, 0, none⟩) 0 0, .int .i64 0, .slice none 0 0] 186 (0, 0))) := Lib.hid (fun W hW => (hW.block g5 hg6).trans HX5.out)
      go_upto_region 6 with (fail)
      refine wp_region_late (C := fun w' => Below wc.heap.size wc w') 14 15 (by kernel_rfl) (by kernel_rfl) (fun _ _ d _ _ h => by cases d <;> exact h) (Below.refl _ _).drew ?_
      repeat (quiet_step (first | (intro _; rfl) | (intro hss; obtain ⟨v0, v1, v2, v3, _, _, _, _⟩ := four (F5.out _ hss); simp only [v0, v1, v2, v3, Result.andThen]; first | exact ⟨rfl, rfl⟩ | exact ⟨trivial, rfl⟩)))
      refine wpQuiet_nil ?_
      refine ⟨.bool false, Or.inl ⟨rfl, fun w => rfl⟩, ?_⟩
      intro w4 hb4
      obtain ⟨t0, t1, t2, t3, t4, t5, t6, t7⟩ := four ((hb4.block w.heap.size hg7).trans HR.out)
      go_wp2
      ((try simp only [Exit.inBlock, Exit.then]); refine bodyPost_ret_by (results_cell_row2 rfl _ _ w.heap.size 186 _ (0, 0) _ rfl (set4 ((hb4.block w.heap.size hg7).trans HR.out) _ _ _ _) rfl rfl (by kernel_rfl)) rfl ?_)
      exact ⟨StepSays.bad BAD.out (Nat.le_refl _), (set4_below (hbw.trans (hb4.mono hbs)) (Nat.le_refl _) _ _ _ _)⟩
    · have BAD : Hid (stepW [[99, 111, 112, 121]] = none) := Lib.hid ((stepW_copy []).trans (if_neg (by simp)))
      rw [ho] at c0 HX5
      clear ho
      have LA : Hid (∀ W, Below wc.heap.size wc W → Calls Tryz.prog 166 #[.slice (some ⟨W0.heap.size, 0, none⟩) 0 0, .int .i64 2, .int .i64 2] W fun e w' => e = .returned (.bool false) ∧ Below W.heap.size W w') := Lib.hid fun W hW => by
        have := lall_any (some ⟨W0.heap.size, 0, none⟩) [] 0 2 2 W (hE3.below hW) Reads.none_ (by simp) (by simp) (by omega) (by omega)
        exact this
      go_upto_region 8 with (fail)
      go_region_held3 (fun W => W.cell? ⟨g5, 0, none⟩ = some (.int .i64 2) ∧ W.cell? ⟨g5, 1, none⟩ = some (.slice (some ⟨W0.heap.size, 0, none⟩) 0 0) ∧ W.cell? ⟨g5, 2, none⟩ = some (.int .i64 0) ∧ W.cell? ⟨g5, 3, none⟩ = some (.slice none 0 0)) (go_keep) (first | (go_at_call 166; (with_reducible refine (LA.out _ (Below.refl _ _).drew).mono ?_); rintro e W4 ⟨rfl, hb4⟩; obtain ⟨s0, s1, s2, s3, _, _, _, _⟩ := four ((hb4.block g5 hg6).trans HX5.out); obtain ⟨t0, t1, t2, t3, t4, t5, t6, t7⟩ := four ((hb4.block w.heap.size hg7).trans HR.out)))
      go_wp2_with (fail)
      ((try simp only [Exit.inBlock, Exit.then]); refine bodyPost_ret_by (results_cell_row2 rfl _ _ w.heap.size 186 _ (0, 0) _ rfl (set4 ((hb4.block w.heap.size hg7).trans HR.out) _ _ _ _) rfl rfl (by kernel_rfl)) rfl ?_)
      exact ⟨StepSays.bad BAD.out (Nat.le_refl _), (set4_below (hbw.drew.trans (hb4.mono hbs)) (Nat.le_refl _) _ _ _ _)⟩
    · have BAD : Hid (stepW [[99, 97, 116]] = none) := Lib.hid ((stepW_cat []).trans (if_neg (by simp)))
      rw [ho] at c0 HX5
      clear ho
      have LA : Hid (∀ W, Below wc.heap.size wc W → Calls Tryz.prog 166 #[.slice (some ⟨W0.heap.size, 0, none⟩) 0 0, .int .i64 2, .int .i64 8] W fun e w' => e = .returned (.bool false) ∧ Below W.heap.size W w') := Lib.hid fun W hW => by
        have := lall_any (some ⟨W0.heap.size, 0, none⟩) [] 0 2 8 W (hE3.below hW) Reads.none_ (by simp) (by simp) (by omega) (by omega)
        exact this
      go_upto_region 10 with (fail)
      go_region_held3 (fun W => W.cell? ⟨g5, 0, none⟩ = some (.int .i64 3) ∧ W.cell? ⟨g5, 1, none⟩ = some (.slice (some ⟨W0.heap.size, 0, none⟩) 0 0) ∧ W.cell? ⟨g5, 2, none⟩ = some (.int .i64 0) ∧ W.cell? ⟨g5, 3, none⟩ = some (.slice none 0 0)) (go_keep) (first | (go_at_call 166; (with_reducible refine (LA.out _ (Below.refl _ _).drew).mono ?_); rintro e W4 ⟨rfl, hb4⟩; obtain ⟨s0, s1, s2, s3, _, _, _, _⟩ := four ((hb4.block g5 hg6).trans HX5.out); obtain ⟨t0, t1, t2, t3, t4, t5, t6, t7⟩ := four ((hb4.block w.heap.size hg7).trans HR.out)))
      go_wp2_with (fail)
      ((try simp only [Exit.inBlock, Exit.then]); refine bodyPost_ret_by (results_cell_row2 rfl _ _ w.heap.size 186 _ (0, 0) _ rfl (set4 ((hb4.block w.heap.size hg7).trans HR.out) _ _ _ _) rfl rfl (by kernel_rfl)) rfl ?_)
      exact ⟨StepSays.bad BAD.out (Nat.le_refl _), (set4_below (hbw.drew.trans (hb4.mono hbs)) (Nat.le_refl _) _ _ _ _)⟩
    · have BAD : Hid (stepW [[117, 112, 112, 101, 114]] = none) := Lib.hid ((stepW_upper []).trans (if_neg (by simp)))
      rw [ho] at c0 HX5
      clear ho
      have LA : Hid (∀ W, Below wc.heap.size wc W → Calls Tryz.prog 166 #[.slice (some ⟨W0.heap.size, 0, none⟩) 0 0, .int .i64 1, .int .i64 1] W fun e w' => e = .returned (.bool false) ∧ Below W.heap.size W w') := Lib.hid fun W hW => by
        have := lall_any (some ⟨W0.heap.size, 0, none⟩) [] 0 1 1 W (hE3.below hW) Reads.none_ (by simp) (by simp) (by omega) (by omega)
        exact this
      go_upto_region 15 with (fail)
      go_region_held3 (fun W => W.cell? ⟨g5, 0, none⟩ = some (.int .i64 4) ∧ W.cell? ⟨g5, 1, none⟩ = some (.slice (some ⟨W0.heap.size, 0, none⟩) 0 0) ∧ W.cell? ⟨g5, 2, none⟩ = some (.int .i64 0) ∧ W.cell? ⟨g5, 3, none⟩ = some (.slice none 0 0)) (go_keep) (first | (go_at_call 166; (with_reducible refine (LA.out _ (Below.refl _ _).drew).mono ?_); rintro e W4 ⟨rfl, hb4⟩; obtain ⟨s0, s1, s2, s3, _, _, _, _⟩ := four ((hb4.block g5 hg6).trans HX5.out); obtain ⟨t0, t1, t2, t3, t4, t5, t6, t7⟩ := four ((hb4.block w.heap.size hg7).trans HR.out)))
      go_wp2_with (fail)
      ((try simp only [Exit.inBlock, Exit.then]); refine bodyPost_ret_by (results_cell_row2 rfl _ _ w.heap.size 186 _ (0, 0) _ rfl (set4 ((hb4.block w.heap.size hg7).trans HR.out) _ _ _ _) rfl rfl (by kernel_rfl)) rfl ?_)
      exact ⟨StepSays.bad BAD.out (Nat.le_refl _), (set4_below (hbw.drew.trans (hb4.mono hbs)) (Nat.le_refl _) _ _ _ _)⟩
    · have BAD : Hid (stepW [[115, 111, 114, 116]] = none) := Lib.hid ((stepW_sort []).trans (if_neg (by simp)))
      rw [ho] at c0 HX5
      clear ho
      have LA : Hid (∀ W, Below wc.heap.size wc W → Calls Tryz.prog 166 #[.slice (some ⟨W0.heap.size, 0, none⟩) 0 0, .int .i64 1, .int .i64 1] W fun e w' => e = .returned (.bool false) ∧ Below W.heap.size W w') := Lib.hid fun W hW => by
        have := lall_any (some ⟨W0.heap.size, 0, none⟩) [] 0 1 1 W (hE3.below hW) Reads.none_ (by simp) (by simp) (by omega) (by omega)
        exact this
      go_upto_region 15 with (fail)
      go_region_held3 (fun W => W.cell? ⟨g5, 0, none⟩ = some (.int .i64 5) ∧ W.cell? ⟨g5, 1, none⟩ = some (.slice (some ⟨W0.heap.size, 0, none⟩) 0 0) ∧ W.cell? ⟨g5, 2, none⟩ = some (.int .i64 0) ∧ W.cell? ⟨g5, 3, none⟩ = some (.slice none 0 0)) (go_keep) (first | (go_at_call 166; (with_reducible refine (LA.out _ (Below.refl _ _).drew).mono ?_); rintro e W4 ⟨rfl, hb4⟩; obtain ⟨s0, s1, s2, s3, _, _, _, _⟩ := four ((hb4.block g5 hg6).trans HX5.out); obtain ⟨t0, t1, t2, t3, t4, t5, t6, t7⟩ := four ((hb4.block w.heap.size hg7).trans HR.out)))
      go_wp2_with (fail)
      ((try simp only [Exit.inBlock, Exit.then]); refine bodyPost_ret_by (results_cell_row2 rfl _ _ w.heap.size 186 _ (0, 0) _ rfl (set4 ((hb4.block w.heap.size hg7).trans HR.out) _ _ _ _) rfl rfl (by kernel_rfl)) rfl ?_)
      exact ⟨StepSays.bad BAD.out (Nat.le_refl _), (set4_below (hbw.drew.trans (hb4.mono hbs)) (Nat.le_refl _) _ _ _ _)⟩
    · have BAD : Hid (stepW [[100, 114, 111, 112]] = none) := Lib.hid ((stepW_drop []).trans (if_neg (by simp)))
      rw [ho] at c0 HX5
      clear ho
      have LA : Hid (∀ W, Below wc.heap.size wc W → Calls Tryz.prog 166 #[.slice (some ⟨W0.heap.size, 0, none⟩) 0 0, .int .i64 1, .int .i64 1] W fun e w' => e = .returned (.bool false) ∧ Below W.heap.size W w') := Lib.hid fun W hW => by
        have := lall_any (some ⟨W0.heap.size, 0, none⟩) [] 0 1 1 W (hE3.below hW) Reads.none_ (by simp) (by simp) (by omega) (by omega)
        exact this
      go_upto_region 15 with (fail)
      go_region_held3 (fun W => W.cell? ⟨g5, 0, none⟩ = some (.int .i64 6) ∧ W.cell? ⟨g5, 1, none⟩ = some (.slice (some ⟨W0.heap.size, 0, none⟩) 0 0) ∧ W.cell? ⟨g5, 2, none⟩ = some (.int .i64 0) ∧ W.cell? ⟨g5, 3, none⟩ = some (.slice none 0 0)) (go_keep) (first | (go_at_call 166; (with_reducible refine (LA.out _ (Below.refl _ _).drew).mono ?_); rintro e W4 ⟨rfl, hb4⟩; obtain ⟨s0, s1, s2, s3, _, _, _, _⟩ := four ((hb4.block g5 hg6).trans HX5.out); obtain ⟨t0, t1, t2, t3, t4, t5, t6, t7⟩ := four ((hb4.block w.heap.size hg7).trans HR.out)))
      go_wp2_with (fail)
      ((try simp only [Exit.inBlock, Exit.then]); refine bodyPost_ret_by (results_cell_row2 rfl _ _ w.heap.size 186 _ (0, 0) _ rfl (set4 ((hb4.block w.heap.size hg7).trans HR.out) _ _ _ _) rfl rfl (by kernel_rfl)) rfl ?_)
      exact ⟨StepSays.bad BAD.out (Nat.le_refl _), (set4_below (hbw.drew.trans (hb4.mono hbs)) (Nat.le_refl _) _ _ _ _)⟩
    · have BAD : Hid (stepW [[110, 101, 101, 100]] = none) := Lib.hid ((stepW_need []).trans (if_neg (by simp)))
      rw [ho] at c0 HX5
      clear ho
      have F5 : Hid (∀ W, Below wc.heap.size wc W → W.heap[g5]? = some (.cells #[.int .i64 7, .slice (some ⟨W0.heap.size, 0, none⟩) 0 0, .int .i64 0, .slice none 0 0] 186 (0, 0))) := Lib.hid (fun W hW => (hW.block g5 hg6).trans HX5.out)
      go_upto_region 17 with (fail)
      refine wp_region_late (C := fun w' => Below wc.heap.size wc w') 9 11 (by kernel_rfl) (by kernel_rfl) (fun _ _ d _ _ h => by cases d <;> exact h) (Below.refl _ _).drew ?_
      repeat (quiet_step (first | (intro _; rfl) | (intro hss; obtain ⟨v0, v1, v2, v3, _, _, _, _⟩ := four (F5.out _ hss); simp only [v0, v1, v2, v3, Result.andThen]; first | exact ⟨rfl, rfl⟩ | exact ⟨trivial, rfl⟩)))
      refine wpQuiet_nil ?_
      refine ⟨_, Or.inr ⟨rfl, rfl⟩, ?_⟩
      refine ⟨.bool false, Or.inl ⟨rfl, fun w => rfl⟩, ?_⟩
      intro w4 hb4
      obtain ⟨t0, t1, t2, t3, t4, t5, t6, t7⟩ := four ((hb4.block w.heap.size hg7).trans HR.out)
      go_wp2
      ((try simp only [Exit.inBlock, Exit.then]); refine bodyPost_ret_by (results_cell_row2 rfl _ _ w.heap.size 186 _ (0, 0) _ rfl (set4 ((hb4.block w.heap.size hg7).trans HR.out) _ _ _ _) rfl rfl (by kernel_rfl)) rfl ?_)
      exact ⟨StepSays.bad BAD.out (Nat.le_refl _), (set4_below (hbw.trans (hb4.mono hbs)) (Nat.le_refl _) _ _ _ _)⟩
    · have BAD : Hid (stepW [[102, 97, 105, 108]] = none) := Lib.hid ((stepW_fail []).trans (if_neg (by simp)))
      rw [ho] at c0 HX5
      clear ho
      have F5 : Hid (∀ W, Below wc.heap.size wc W → W.heap[g5]? = some (.cells #[.int .i64 8, .slice (some ⟨W0.heap.size, 0, none⟩) 0 0, .int .i64 0, .slice none 0 0] 186 (0, 0))) := Lib.hid (fun W hW => (hW.block g5 hg6).trans HX5.out)
      go_upto_region 19 with (fail)
      refine wp_region_late (C := fun w' => Below wc.heap.size wc w') 9 10 (by kernel_rfl) (by kernel_rfl) (fun _ _ d _ _ h => by cases d <;> exact h) (Below.refl _ _).drew ?_
      repeat (quiet_step (first | (intro _; rfl) | (intro hss; obtain ⟨v0, v1, v2, v3, _, _, _, _⟩ := four (F5.out _ hss); simp only [v0, v1, v2, v3, Result.andThen]; first | exact ⟨rfl, rfl⟩ | exact ⟨trivial, rfl⟩)))
      refine wpQuiet_nil ?_
      refine ⟨.bool false, Or.inl ⟨rfl, fun w => rfl⟩, ?_⟩
      intro w4 hb4
      obtain ⟨t0, t1, t2, t3, t4, t5, t6, t7⟩ := four ((hb4.block w.heap.size hg7).trans HR.out)
      go_wp2
      ((try simp only [Exit.inBlock, Exit.then]); refine bodyPost_ret_by (results_cell_row2 rfl _ _ w.heap.size 186 _ (0, 0) _ rfl (set4 ((hb4.block w.heap.size hg7).trans HR.out) _ _ _ _) rfl rfl (by kernel_rfl)) rfl ?_)
      exact ⟨StepSays.bad BAD.out (Nat.le_refl _), (set4_below (hbw.trans (hb4.mono hbs)) (Nat.le_refl _) _ _ _ _)⟩
    · have BAD : Hid (stepW [[108, 111, 111, 112]] = none) := Lib.hid (stepW_loop [])
      rw [ho] at c0 HX5
      clear ho
      go_wp2_with (fail)
      ((try simp only [Exit.inBlock, Exit.then]); refine bodyPost_ret_by (results_cell_row2 rfl _ _ w.heap.size 186 _ (0, 0) _ rfl (set4 HR.out _ _ _ _) rfl rfl (by kernel_rfl)) rfl ?_)
      exact ⟨StepSays.bad BAD.out (Nat.le_refl _), (set4_below (hbw) (Nat.le_refl _) _ _ _ _)⟩
    · have BAD : Hid (stepW [[105, 102]] = none) := Lib.hid ((stepW_if []).trans (if_neg (by simp)))
      rw [ho] at c0 HX5
      clear ho
      have LA : Hid (∀ W, Below wc.heap.size wc W → Calls Tryz.prog 166 #[.slice (some ⟨W0.heap.size, 0, none⟩) 0 0, .int .i64 1, .int .i64 1] W fun e w' => e = .returned (.bool false) ∧ Below W.heap.size W w') := Lib.hid fun W hW => by
        have := lall_any (some ⟨W0.heap.size, 0, none⟩) [] 0 1 1 W (hE3.below hW) Reads.none_ (by simp) (by simp) (by omega) (by omega)
        exact this
      go_upto_region 15 with (fail)
      go_region_held3 (fun W => W.cell? ⟨g5, 0, none⟩ = some (.int .i64 10) ∧ W.cell? ⟨g5, 1, none⟩ = some (.slice (some ⟨W0.heap.size, 0, none⟩) 0 0) ∧ W.cell? ⟨g5, 2, none⟩ = some (.int .i64 0) ∧ W.cell? ⟨g5, 3, none⟩ = some (.slice none 0 0)) (go_keep) (first | (go_at_call 166; (with_reducible refine (LA.out _ (Below.refl _ _).drew).mono ?_); rintro e W4 ⟨rfl, hb4⟩; obtain ⟨s0, s1, s2, s3, _, _, _, _⟩ := four ((hb4.block g5 hg6).trans HX5.out); obtain ⟨t0, t1, t2, t3, t4, t5, t6, t7⟩ := four ((hb4.block w.heap.size hg7).trans HR.out)))
      go_wp2_with (fail)
      ((try simp only [Exit.inBlock, Exit.then]); refine bodyPost_ret_by (results_cell_row2 rfl _ _ w.heap.size 186 _ (0, 0) _ rfl (set4 ((hb4.block w.heap.size hg7).trans HR.out) _ _ _ _) rfl rfl (by kernel_rfl)) rfl ?_)
      exact ⟨StepSays.bad BAD.out (Nat.le_refl _), (set4_below (hbw.drew.trans (hb4.mono hbs)) (Nat.le_refl _) _ _ _ _)⟩
    · have BAD := Lib.hid (hno [])
      clear hno
      rcases ho with ho | ho
      · rw [ho] at c0 HX5
        clear ho
        go_wp2_with (fail)
        ((try simp only [Exit.inBlock, Exit.then]); refine bodyPost_ret_by (results_cell_row2 rfl _ _ w.heap.size 186 _ (0, 0) _ rfl (set4 HR.out _ _ _ _) rfl rfl (by kernel_rfl)) rfl ?_)
        exact ⟨StepSays.bad BAD.out (Nat.le_refl _), (set4_below (hbw) (Nat.le_refl _) _ _ _ _)⟩
      · rw [ho] at c0 HX5
        clear ho
        go_wp2_with (fail)
        ((try simp only [Exit.inBlock, Exit.then]); refine bodyPost_ret_by (results_cell_row2 rfl _ _ w.heap.size 186 _ (0, 0) _ rfl (set4 HR.out _ _ _ _) rfl rfl (by kernel_rfl)) rfl ?_)
        exact ⟨StepSays.bad BAD.out (Nat.le_refl _), (set4_below (hbw) (Nat.le_refl _) _ _ _ _)⟩
theorem lstep_any (line : ByteArray) (w : World) (hE : Env w) (hs : line.size ≤ 1000000) :
    Calls Tryz.prog 87 #[.string line] w fun e w' => StepSays w' (fun b => w.heap.size ≤ b) (splitB 32 (tl line)) e ∧ Below w.heap.size w w' := by
  have hp : splitB 32 (tl line) = (pieces 32 line).map tl := by rw [pieces, map_tl_bs]
  rw [hp]
  match h : pieces 32 line with
  | [] => exact absurd h (pieces_ne 32 line)
  | [x] => exact lstep_nil line w hE hs x h
  | x :: y :: l => exact lstep_cons line w hE hs x y l h
end Go.Proofs.YtifiipmmgnmciaaGreatDoor.Lg
/- LgBlockB, what a claim needs of it (prune.py). -/
namespace Go.Proofs.YtifiipmmgnmciaaGreatDoor.Lg
open Go.RowKit
set_option linter.unusedVariables false
set_option maxRecDepth 100000
def opens (op : Int) : Bool := decide (op = 9) || decide (op = 10)
theorem begins_any (op n : Int) (A B : Option Addr) (k c kb cb : Nat) (w : World) :
    Calls Tryz.prog 88 #[.agg #[.int .i64 op, .slice A k c, .int .i64 n, .slice B kb cb]] w fun e w' => e = .returned (.bool (opens op)) ∧ Below w.heap.size w w' := by
  by_cases h9 : op = 9
  · subst h9
    go_enter Tryz.func88, Tryz.ntmps88
    go_wp2_with (fail)
    go_ret
    exact ⟨rfl, (Below.refl _ _).alloc (Nat.le_refl _) _⟩
  · by_cases h10 : op = 10
    · subst h10
      go_enter Tryz.func88, Tryz.ntmps88
      go_wp2_with (fail)
      go_ret
      exact ⟨rfl, (Below.refl _ _).alloc (Nat.le_refl _) _⟩
    · have g1 : (op == 9) = false := by simp [h9]
      have g2 : (op == 10) = false := by simp [h10]
      have F : Hid (opens op = false) := Lib.hid (by simp [opens, h9, h10])
      clear h9 h10
      go_enter Tryz.func88, Tryz.ntmps88
      go_wp2_with (fail)
      go_ret
      exact ⟨ret_bool F.out, (Below.refl _ _).alloc (Nat.le_refl _) _⟩
theorem opens_iff {op : Int} : opens op = true ↔ op = 9 ∨ op = 10 := by simp [opens]
def CtAt (w : World) (ba j : Nat) : Prop := w.heap[ba]? = some (.cells #[.int .i64 j] 3 (0, 0))
structure Cl (w : World) (ba bl bb : Nat) (A : Option Addr) (c : Nat) (L : List ByteArray) : Prop where
  nl : bl ≠ ba
  nb : bb ≠ ba
  lines : w.cell? ⟨bl, 0, none⟩ = some (.slice A L.length c)
  self : w.cell? ⟨bb, 0, none⟩ = some (.func (.func 86) #[] #[.pointer (some ⟨ba, 0, none⟩), .pointer (some ⟨bl, 0, none⟩), .pointer (some ⟨bb, 0, none⟩)])
  line : ∀ j (hj : j < L.length), ∃ ad, A = some ad ∧ ad.block ≠ ba ∧ w.cell? (ad.add j) = some (.string L[j])
theorem Cl.keep {w w' : World} {ba bl bb : Nat} {A : Option Addr} {c : Nat} {L : List ByteArray} (h : Cl w ba bl bb A c L) (hb : BelowX w.heap.size ba w w') : Cl w' ba bl bb A c L := by
  refine ⟨h.nl, h.nb, ?_, ?_, fun j hj => ?_⟩
  · exact (hb.cell (cell_lt h.lines) h.nl).trans h.lines
  · exact (hb.cell (cell_lt h.self) h.nb).trans h.self
  · obtain ⟨ad, h1, h2, h3⟩ := h.line j hj
    exact ⟨ad, h1, h2, (hb.cell (cell_lt h3) (by rw [block_of_add]; exact h2)).trans h3⟩
def BlockSays (w w' : World) (ba : Nat) (Ls : List B) (r : Res) (e : Ending) : Prop :=
  BelowX w.heap.size ba w w' ∧ match r with
  | .err k => e = .returned (.tuple #[.slice none 0 0, .int .i64 k])
  | .ok out rest => ∃ A k c j, e = .returned (.tuple #[.slice A k c, .int .i64 0]) ∧ k ≤ c ∧ StepsAt w' (fun b => w.heap.size ≤ b) A k out ∧ CtAt w' ba j ∧ j ≤ Ls.length ∧ rest = Ls.drop j
theorem own_steps {w : World} {B : Nat} {v : Value} {out : List Stp} {cells : List Value} {ok : Nat → Prop} (ho : w.ownsRow B 186 4 v out.length cells) (hr : RowAt w ok cells out) (hk : ∀ b, ok b → B ≤ b) :
    ∃ A k c, v = .slice A k c ∧ k ≤ c ∧ StepsAt w (fun b => B ≤ b) A k out := by
  have hr2 := hr.mono (w' := w) (ok' := fun b => B ≤ b) (fun b h _ => ⟨hk b h, rfl⟩)
  rcases ho.2 with ⟨rfl, h0⟩ | ⟨g, cap, cur, rfl, hB, hg, h1, h2, h3, h4⟩
  · have : out = [] := List.eq_nil_of_length_eq_zero h0
    subst this
    cases hr2
    exact ⟨none, 0, 0, rfl, Nat.le_refl _, rfl, [], Lies.none_, .nil⟩
  · refine ⟨_, _, _, rfl, h1, rfl, cells, ⟨ho.1, fun _ => ⟨_, rfl, hB, fun j u hu => ?_⟩⟩, hr2⟩
    exact ho.cells (g := g) rfl j u hu
theorem own_keep {w w' : World} {B : Nat} {e : TypeId} {size n : Nat} {v : Value} {xs : List Value} (h : w.ownsRow B e size v n xs) (hk : ∀ b, b < w.heap.size → B ≤ b → w'.heap[b]? = w.heap[b]?) : w'.ownsRow B e size v n xs := by
  refine ⟨h.1, ?_⟩
  rcases h.2 with h2 | ⟨g, cap, cur, hv, hB, hg, h1, h2, h3, h4⟩
  · exact .inl h2
  · exact .inr ⟨g, cap, cur, hv, hB, (hk g (lt_of_block hg) hB).trans hg, h1, h2, h3, h4⟩
theorem own_block {w : World} {B : Nat} {e : TypeId} {size n : Nat} {v : Value} {xs : List Value} (h : w.ownsRow B e size v n xs) {g : Nat} (hg : v.ownBlock = some g) : B ≤ g ∧ g < w.heap.size := by
  rcases h.2 with ⟨rfl, _⟩ | ⟨g', cap, cur, hv, hB, hh, _⟩
  · cases hg
  · subst hv
    injection hg with hg
    subst hg
    exact ⟨hB, lt_of_block hh⟩
abbrev okR (B : Nat) (v : Value) : Nat → Prop := fun b => B ≤ b ∧ some b ≠ v.ownBlock
theorem row_push {w w2 : World} {B : Nat} {v v2 : Value} {cells : List Value} {out : List Stp} {op n : Int} {A Bk : Option Addr} {k c kb cb : Nat} {args : List Lg.B} {inn : List Stp}
    (hr : RowAt w (okR B v) cells out) (hg : w.grownBy w2 v.ownBlock) (hat : v2.ownBlock = v.ownBlock ∨ v2.ownBlock = some w.heap.size)
    (hk : k = args.length) (hc : k ≤ c) (ha : Lies w (okR B v) 1 A k (strV args)) (hkb : kb ≤ cb) (hs : StepsAt w (okR B v) Bk kb inn) :
    RowAt w2 (okR B v2) (cells ++ [.int .i64 op, .slice A k c, .int .i64 n, .slice Bk kb cb]) (out ++ [⟨op, args, n, inn⟩]) := by
  obtain ⟨h1, bc, h2, h3⟩ := hs
  have h := hr.append (RowAt.cons (op := op) (n := n) hk hc ha h1 hkb h2 h3 .nil)
  refine h.mono fun b hb hlt => ⟨⟨hb.1, fun e => ?_⟩, hg.block b hlt hb.2⟩
  rcases hat with hat | hat
  · exact hb.2 (e.trans hat)
  · rw [hat] at e
    injection e with e
    omega
theorem push_on {w W1 w4 w2 : World} {ba i : Nat} {v : Value} (hx1 : BelowX w.heap.size ba w W1) (hlt : ba < w.heap.size) (OB : ∀ g, v.ownBlock = some g → w.heap.size ≤ g ∧ g < W1.heap.size)
    (h14 : BelowX W1.heap.size ba W1 w4) (hc : CtAt w4 ba i) (hg : w4.grownBy w2 v.ownBlock) : BelowX w.heap.size ba w w2 ∧ CtAt w2 ba i := by
  refine ⟨(hx1.trans (h14.mono hx1.size)).grown hg (Nat.le_trans hx1.size h14.size) (fun g h => .inl (OB g h).1), ?_⟩
  exact (hg.block ba (lt_of_block hc) (fun e => by have := (OB _ e.symm).1; omega)).trans hc
theorem row_at4 {w W1 w4 : World} {ba : Nat} {v : Value} {cells : List Value} {out : List Stp} (hlt : ba < w.heap.size) (hr : RowAt W1 (okR w.heap.size v) cells out) (h14 : BelowX W1.heap.size ba W1 w4) : RowAt w4 (okR w.heap.size v) cells out :=
  hr.mono fun b hb hs => ⟨hb, h14.block b hs (by have := hb.1; omega)⟩
theorem own_at4 {w W1 w4 : World} {ba : Nat} {v : Value} {cells : List Value} {n : Nat} (hlt : ba < w.heap.size) (ho : W1.ownsRow w.heap.size 186 4 v n cells) (h14 : BelowX W1.heap.size ba W1 w4) : w4.ownsRow w.heap.size 186 4 v n cells :=
  own_keep ho fun b hs hb => h14.block b hs (by omega)
theorem new_ok {w W1 : World} {v : Value} {b : Nat} (hs : w.heap.size ≤ W1.heap.size) (OB : ∀ g, v.ownBlock = some g → w.heap.size ≤ g ∧ g < W1.heap.size) (hb : W1.heap.size ≤ b) : okR w.heap.size v b :=
  ⟨by omega, fun e => by have := (OB _ e.symm).2; omega⟩
theorem size_setCell (w : World) (a : Addr) (u : Value) : (w.setCell a u).heap.size = w.heap.size := by simp [World.setCell]
theorem drop_line {L : List ByteArray} {j : Nat} (hj : j < L.length) : (L.map tl).drop j = tl L[j] :: (L.map tl).drop (j + 1) := by
  rw [List.drop_eq_getElem_cons (by simpa using hj)]
  simp
theorem lit_in {x : ByteArray} {l : List UInt8} (h : x.toList = l) : x = ⟨l.toArray⟩ := by
  rw [Lib.toList_data] at h
  exact tl_inj h
def ctr (w : World) (ba : Nat) : Nat := match w.heap[ba]? with
  | some (.cells cs _ _) => (intOf (cs.getD 0 undef)).toNat
  | _ => 0
theorem ctr_at {w : World} {ba i : Nat} (h : CtAt w ba i) : ctr w ba = i := by
  unfold ctr
  rw [h]
  rfl
theorem reads4 {w : World} {g : Nat} {a b c d : Value} {T : TypeId} (h : w.heap[g]? = some (.cells #[a, b, c, d] T (0, 0))) : Reads w (g + 1) 4 (some ⟨g, 0, none⟩) 1 [a, b, c, d] := by
  refine ⟨rfl, fun _ => ⟨_, rfl, Nat.lt_succ_self _, fun j y hj => ?_⟩⟩
  rw [add_eq, cell_at h]
  simpa using hj
theorem mem4 {op n : Int} {A B : Option Addr} {k c kb cb : Nat} : ∀ u ∈ [Value.int .i64 op, .slice A k c, .int .i64 n, .slice B kb cb], u.oneCell' = true := by
  intro u hu
  simp only [List.mem_cons, List.not_mem_nil, or_false] at hu
  rcases hu with rfl | rfl | rfl | rfl <;> rfl
theorem step_none {line : ByteArray} {w : World} (hE : Env w) (hs : line.size ≤ 1000000) (h : stepOf (tl line) = none) :
    Calls Tryz.prog 87 #[.string line] w fun e w' => (∃ (op : Int) (A : Option Addr) (k c : Nat) (n : Int), e = .returned (.tuple #[.agg #[.int .i64 op, .slice A k c, .int .i64 n, .slice none 0 0], .bool false])) ∧ Below w.heap.size w w' := by
  refine (lstep_any line w hE hs).mono ?_
  rintro e w' ⟨⟨op, A, k, c, n, g, rfl, hk, hm⟩, hb⟩
  unfold stepOf at h
  rw [h] at hm
  obtain rfl := hm
  exact ⟨⟨op, A, k, c, n, rfl⟩, hb⟩
theorem step_some {line : ByteArray} {w : World} {op n : Int} {xs : List B} (hE : Env w) (hs : line.size ≤ 1000000) (h : stepOf (tl line) = some (op, xs, n)) :
    Calls Tryz.prog 87 #[.string line] w fun e w' => (∃ (A : Option Addr) (k c : Nat), e = .returned (.tuple #[.agg #[.int .i64 op, .slice A k c, .int .i64 n, .slice none 0 0], .bool true]) ∧ k = xs.length ∧ k ≤ c ∧ Lies w' (fun b => w.heap.size ≤ b) 1 A k (strV xs)) ∧ Below w.heap.size w w' := by
  refine (lstep_any line w hE hs).mono ?_
  rintro e w' ⟨⟨op', A, k, c, n', g, rfl, hk, hm⟩, hb⟩
  unfold stepOf at h
  rw [h] at hm
  obtain ⟨rfl, rfl, rfl, hx, hl⟩ := hm
  exact ⟨⟨A, k, c, rfl, hx, hk, hl⟩, hb⟩
end Go.Proofs.YtifiipmmgnmciaaGreatDoor.Lg
