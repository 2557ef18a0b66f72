/- Joined by mkmerged.py: SvNext, SvPick, SvSNext. -/
import Derived.Test.YtifiipmmgnmciaaGreatDoorMi29
import Derived.Deep.RegionLaw
import Derived.Deep.CutRange
import Derived.Deep.RegionHeld3
import Derived.StillTailTactics
import Derived.Deep.RegionWith
/- SvNext, what a claim needs of it (prune.py). -/
namespace Go.Proofs.YtifiipmmgnmciaaGreatDoor.Sv
open Go.RowKit Go.Maps
open Dk (Kp)
set_option linter.unusedVariables false
set_option maxRecDepth 100000
theorem infoJob : (Tryz.prog.info? 58).map (fun i => (i.zero, i.size, i.bytes)) = some (some (.agg #[.string ⟨#[]⟩, .int .i64 0, .int .i64 0]), 3, 32) := by kernel_rfl
def jobC (K : ByteArray) : List Value := [.string K, .int .i64 0, .int .i64 1]
theorem job_cells (K : ByteArray) : ∀ u ∈ jobC K, u.oneCell' = true := by
  intro u hu
  simp only [jobC, List.mem_cons, List.not_mem_nil, or_false] at hu
  rcases hu with rfl | rfl | rfl <;> rfl
def JobAt (W : World) (g : Nat) (K : ByteArray) : Prop := ∃ cs : Array Value, W.heap[g]? = some (.cells cs 58 (0, 0)) ∧ ∀ (j : Nat) u, (jobC K)[j]? = some u → cs[j]? = some u
def Mid (W : World) (s : Sb) (k : Nat) (K wk : ByteArray) (there : ByteArray → Option Value) (w' : World) : Prop := ∃ g c, 1 ≤ c ∧ c ≤ maxLen ∧ W.heap.size ≤ g ∧ JobAt w' g K ∧ ScAt w' s (k + 1) 0 (Mv.putM NoM wk (.slice (some ⟨g, 0, none⟩) 1 c)) there NoM ∧ Q0 w' s.q 1 ∧ Kp (fun j => j = s.q ∨ j = s.mr) W w'
set_option maxHeartbeats 8000000 in
theorem fetch_job (W : World) (s : Sb) (k gq : Nat) (K wk : ByteArray) (there : ByteArray → Option Value) (h : ScAt W s k 0 (rowM wk none 0) there NoM) (hq : Q1 W s.q gq K) (hk : k ≤ 1000) (hw : wk.size ≤ maxLen) :
    Calls Tryz.prog 52 #[.pointer (some ⟨s.sc, 0, none⟩), .string wk] W fun e w' => e = .returned (.tuple #[]) ∧ Mid W s k K wk there w' := by
  obtain ⟨i0, hi, hz0, hz1, hz2⟩ := info_parts infoJob
  have hzs : (Value.agg #[.string ⟨#[]⟩, .int .i64 0, .int .i64 0]).cells.size = 3 := rfl
  have c0 : W.cell? ⟨s.sc, 0, none⟩ = some (.pointer (some ⟨s.q, 0, none⟩)) := (cell_heap h.st 0).trans rfl
  have P1 := Lib.hid (qpop_one W s.q gq K hq)
  obtain ⟨l1, l2, l3, l4, l5⟩ := h.lt
  obtain ⟨a1, a2, a3, a4, a5, a6, a7⟩ := h.sc_ne
  obtain ⟨cq, csq, hqb, _⟩ := hq
  obtain ⟨b1, b2, b3, b4, b5⟩ := q_ne h hqb
  -- behind Pop
  have PB : Hid (∀ w1, Q0 w1 s.q 1 → Kp (fun j => j = s.q) W w1 → ScAt w1 s k 0 (rowM wk none 0) there NoM) := Lib.hid fun w1 _ k1 => h.kp k1 (fun j e => by subst e; exact ⟨b1, b2, b3, b4, b5⟩)
  -- behind the append, in a world with the job's box and the row's new block
  have FN : Hid (∀ w1 w4 v', Q0 w1 s.q 1 → Kp (fun j => j = s.q) W w1 → Kp (fun j => False) w1 w4 → w4.ownsRow w1.heap.size 58 3 v' 1 (jobC K) → ∃ W5, (Instr.mapUpdate 83 (.map (some s.mr)) (.string wk) v').run Tryz.prog w4 = .ok () W5 ∧ Mid W s k K wk there W5) := Lib.hid fun w1 w4 v' q1 k1 k4 ho => by
    have h4 := (PB.out w1 q1 k1).kp k4 (fun j e => e.elim)
    obtain ⟨g, c, cs, rfl, g1, g2, g3, g4, g5⟩ := own_one ho
    obtain ⟨W5, hrun, m5, hg⟩ := h4.rows.put (t := 83) (e := 79) (by kernel_rfl) (by unfold maxLen; omega) hw (.slice (some ⟨g, 0, none⟩) 1 c)
    rw [put_put] at m5
    have q4 := q1.keep (k4.block _ q1.lt (fun e => e))
    have hb : ∀ j, j < w4.heap.size → j ≠ s.mr → W5.heap[j]? = w4.heap[j]? := fun j hj hne => hg.block j hj (fun e => hne (by injection e))
    obtain ⟨y1, y2, y3, y4, y5⟩ := h4.lt
    have hgm : g ≠ s.mr := fun e => by have := k1.size; omega
    exact ⟨W5, hrun, g, c, g3, g5, Nat.le_trans k1.size g4, ⟨cs, (hb _ (Lg.lt_heap g1) hgm).trans g1, g2⟩, ⟨(hb _ y1 a2).trans h4.st, h4.tab.keep (hb _ y2 a5), m5, (h4.there.more (Nat.le_succ k)).keep (hb _ y4 h.n1.symm), (h4.lease.more (Nat.le_succ k)).keep (hb _ y5 h.n2.symm), h.n1, h.n2, h.n3⟩, q4.keep (hb _ q4.lt b3), ((k1.trans (k4.mono (fun j e => e.elim))).mono (fun j e => .inl e)).grown hg (fun j e => .inl (.inr (by injection e with e; exact e.symm)))⟩
  -- the second round
  have MB : Hid (∀ w1, Mid W s k K wk there w1 → w1.cell? ⟨s.sc, 0, none⟩ = some (.pointer (some ⟨s.q, 0, none⟩)) ∧ Calls Tryz.prog 93 #[.pointer (some ⟨s.q, 0, none⟩)] w1 fun e w' => e = .returned (.tuple #[.agg noJob, .bool false]) ∧ ∀ o, Mid W s k K wk there (w'.alloc o)) := Lib.hid fun w1 ⟨g, c, m1, m2, m3, m4, m5, m6, m7⟩ => by
    refine ⟨(cell_heap m5.st 0).trans rfl, (qpop_none w1 s.q 1 m6).mono ?_⟩
    rintro e w' ⟨rfl, hb⟩
    refine ⟨rfl, fun o => ?_⟩
    have hb2 : Below w1.heap.size w1 (w'.alloc o) := hb.alloc hb.size o
    obtain ⟨cs, x1, x2⟩ := m4
    exact ⟨g, c, m1, m2, m3, ⟨cs, (hb2.block _ (Lg.lt_heap x1)).trans x1, x2⟩, m5.below hb2, m6.keep (hb2.block _ m6.lt), m7.then hb2⟩
  have HL := Lib.hid (And.intro l1 (And.intro l3 a2))
  have HB := Lib.hid PB
  clear h hqb l1 l2 l3 l4 l5 a1 a2 a3 a4 a5 a6 a7 b1 b2 b3 b4 b5
  go_enter Tryz.func52, Tryz.ntmps52
  go_wp2_with (fail)
  go_loopw [6] (fun v6 wr => (v6 = .int .i64 0 ∧ wr = W) ∨ (v6 = .int .i64 1 ∧ Mid W s k K wk there wr)) (fun v6 _ => (2 - intOf v6).toNat)
  case atStart => exact .inl ⟨rfl, rfl⟩
  case round =>
    rcases hrel with ⟨rfl, rfl⟩ | ⟨rfl, hmid⟩
    · go_upto_region 4 with (go_at_call 93; (with_reducible refine (P1.out).mono ?_); rintro e w1 ⟨rfl, q1, k1⟩)
      obtain ⟨W2, e2⟩ : ∃ W2, W2 = w1.alloc (.cells #[.string K, .int .i64 0, .int .i64 1] 58) := ⟨_, rfl⟩
      have B2 : Below w1.heap.size w1 W2 := by rw [e2]; exact (Below.refl _ _).alloc (Nat.le_refl _) _
      have j2 : W2.heap[w1.heap.size]? = some (.cells #[.string K, .int .i64 0, .int .i64 1] 58 (0, 0)) := by rw [e2]; exact heap_alloc_new _ _
      have h1 := HB.out w1 q1 k1
      have h2 := h1.below B2
      rw [← e2]
      clear e2
      have d2 : W2.cell? ⟨s.sc, 2, none⟩ = some (.map (some s.mr)) := (cell_heap h2.st 2).trans rfl
      have lj := Lg.lt_heap j2
      have ls := h2.lt.1
      have d2A : ∀ o, (W2.alloc o).cell? ⟨s.sc, 2, none⟩ = some (.map (some s.mr)) := fun o => (World.cell?_alloc_lt W2 o _ ls).trans d2
      have x0 : W2.cell? ⟨w1.heap.size, 0, none⟩ = some (.string K) := (cell_heap j2 0).trans rfl
      have x1 : W2.cell? ⟨w1.heap.size, 1, none⟩ = some (.int .i64 0) := (cell_heap j2 1).trans rfl
      have x2 : W2.cell? ⟨w1.heap.size, 2, none⟩ = some (.int .i64 1) := (cell_heap j2 2).trans rfl
      have lk := (show Mv.VMap W2.drew s.mr k (rowM wk none 0) from h2.rows.keep rfl).look1 (t := 83) (e := 79) (by kernel_rfl) (z := .slice none 0 0) (by rfl) hw
      have lkA := fun o => (show Mv.VMap (W2.alloc o).drew s.mr k (rowM wk none 0) from h2.rows.later (((Below.refl _ _).alloc (Nat.le_refl _) o).drew)).look1 (t := 83) (e := 79) (by kernel_rfl) (z := .slice none 0 0) (by rfl) hw
      simp only [put_at, Option.getD_some] at lk lkA
      have K4 : Hid (∀ o w4, (W2.alloc o).drew.grownBy w4 none → Kp (fun j => False) w1 w4 ∧ w4.cell? ⟨s.sc, 2, none⟩ = some (.map (some s.mr))) := Lib.hid fun o w4 hg => by
        have k2 : Kp (fun j => False) w1 (W2.alloc o).drew := (Kp.of_below (B2.trans (((Below.refl W2.heap.size W2).alloc (Nat.le_refl _) o).mono B2.size))).drew
        refine ⟨k2.grown hg (fun j e => by cases e), ?_⟩
        have st4 := (hg.block s.sc (by simp; omega) (fun e => by cases e)).trans ((Below.heap_alloc W2 o _ ls).trans h2.st)
        exact (cell_heap st4 2).trans rfl
      have hB2 : w1.heap.size ≤ W2.heap.size := B2.size
      clear h1 h2 j2 B2 P1 MB HB
      go_region_law (refine step_append_any _ rfl (.tmp 28) (.tmp 30) _ rfl w1.heap.size 58 i0 _ 3 32 Tryz.underlying79 hi hz0 hz1 hz2 hzs (by omega) (.slice none 0 0) 0 [] rfl (World.ownsRow_nil _ _ _ _) _ (some ⟨W2.heap.size, 0, none⟩) 1 1 (jobC K) rfl (reads_one (heap_alloc_new W2 _) rfl) (job_cells K) (by simp only [maxLen]; omega) (by omega) (by simp; omega) ?_; intro v' w4 hown hgr hat; obtain ⟨k4, d4⟩ := K4.out _ w4 hgr; obtain ⟨W5, hrun, hM⟩ := FN.out w1 w4 v' q1 k1 k4 hown; have HM := Lib.hid hM; clear hown hgr hat k4 hM)
      all_goals
        (try simp only [Exit.inBlock, Exit.then])
        go_wp2_with (fail)
        go_roundw
        case rel => exact .inr ⟨rfl, HM.out⟩
        case measure => simp [intOf]
    · obtain ⟨m0, PO⟩ := MB.out _ hmid
      have PO2 := Lib.hid PO
      clear PO MB FN P1 HB
      go_wp2_with (go_at_call 93; (with_reducible refine (PO2.out).mono ?_); rintro e w1 ⟨rfl, hm⟩)
      refine bodyPost_ret (results_none rfl _ _ _) rfl ?_
      exact ⟨rfl, hm _⟩
end Go.Proofs.YtifiipmmgnmciaaGreatDoor.Sv
/- SvPick, what a claim needs of it (prune.py). -/
namespace Go.Proofs.YtifiipmmgnmciaaGreatDoor.Sv
open Go.RowKit Go.Maps
open Dk (Kp)
set_option linter.unusedVariables false
set_option maxRecDepth 100000
def PickSays (W : World) (s : Sb) (k : Nat) (K wk : ByteArray) (there : ByteArray → Option Value) (e : Ending) (w' : World) : Prop := e = .returned (.tuple #[.agg #[.string K, .int .i64 0, .int .i64 1], .bool true]) ∧ (∃ A c, ScAt w' s (k + 2) 0 (rowM wk A c) there NoM) ∧ Q0 w' s.q 1 ∧ Kp (fun j => j = s.q ∨ j = s.mr) W w'
set_option maxHeartbeats 4000000 in
theorem pick_job (W : World) (s : Sb) (k gq : Nat) (K wk : ByteArray) (there : ByteArray → Option Value) (h : ScAt W s k 0 (rowM wk none 0) there NoM) (hq : Q1 W s.q gq K) (hk : k ≤ 1000) (hw : wk.size ≤ maxLen) :
    Calls Tryz.prog 30 #[.pointer (some ⟨s.sc, 0, none⟩), .string wk] W (PickSays W s k K wk there) := by
  obtain ⟨W0, e0⟩ : ∃ W0, W0 = W.alloc (.cells noJob 58) := ⟨_, rfl⟩
  have B0 : Below W.heap.size W W0 := by rw [e0]; exact (Below.refl _ _).alloc (Nat.le_refl _) _
  have z0 : W0.heap[W.heap.size]? = some (.cells noJob 58 (0, 0)) := by rw [e0]; exact heap_alloc_new _ _
  have h0 := h.below B0
  have q0 : Q1 W0 s.q gq K := hq.keep (B0.block _ hq.lt.1) (B0.block _ hq.lt.2)
  have FE := Lib.hid (fetch_job W0 s k gq K wk there h0 q0 hk hw)
  have d2 : W0.cell? ⟨s.sc, 2, none⟩ = some (.map (some s.mr)) := (cell_heap h0.st 2).trans rfl
  have lk := h0.rows.look1 (t := 83) (e := 79) (by kernel_rfl) (z := .slice none 0 0) (by rfl) hw
  simp only [put_at, Option.getD_some] at lk
  have HB := Lib.hid B0
  have HZ := Lib.hid z0
  have hqW := hq.lt.1
  have hmW := h.lt.2.2.1
  have HL := Lib.hid h.lt
  clear h hq B0 z0 h0 q0
  generalize hQ : PickSays W s k K wk there = Q
  have HQ := Lib.hid hQ
  clear hQ
  go_enter Tryz.func30, Tryz.ntmps30
  go_upto_region 1 with (fail)
  rw [← e0]
  clear e0
  go_upto_region 3 with (go_at_call 52; (with_reducible refine (FE.out).mono ?_); rintro e w1 ⟨rfl, hm⟩)
  obtain ⟨g, c, m1, m2, m3, ⟨cs, x1, x2⟩, m5, m6, m7⟩ := hm
  have d3 : w1.cell? ⟨s.sc, 2, none⟩ = some (.map (some s.mr)) := (cell_heap m5.st 2).trans rfl
  have lk1 := m5.rows.look1 (t := 83) (e := 79) (by kernel_rfl) (z := .slice none 0 0) (by rfl) hw
  simp only [put_at, Option.getD_some] at lk1
  have hz1 : w1.heap[W.heap.size]? = some (.cells noJob 58 (0, 0)) := (m7.block _ (Lg.lt_heap HZ.out) (fun e => by rcases e with e | e <;> omega)).trans HZ.out
  -- the update
  have FN : Hid (∀ A cc, ∃ W5, (Instr.mapUpdate 83 (.map (some s.mr)) (.string wk) (.slice A 0 cc)).run Tryz.prog w1.drew = .ok () W5 ∧ W5.heap[W.heap.size]? = some (.cells noJob 58 (0, 0)) ∧ W5.heap[g]? = some (.cells cs 58 (0, 0)) ∧ ScAt W5 s (k + 2) 0 (rowM wk A cc) there NoM ∧ Q0 W5 s.q 1 ∧ Kp (fun j => j = s.q ∨ j = s.mr) W W5) := Lib.hid fun A cc => by
    have h4 : ScAt w1.drew s (k + 1) 0 (Mv.putM NoM wk (.slice (some ⟨g, 0, none⟩) 1 c)) there NoM := m5.keep rfl rfl rfl rfl rfl
    obtain ⟨W5, hrun, m8, hg⟩ := h4.rows.put (t := 83) (e := 79) (by kernel_rfl) (by unfold maxLen; omega) hw (.slice A 0 cc)
    rw [put_put] at m8
    have hb : ∀ j, j < w1.heap.size → j ≠ s.mr → W5.heap[j]? = w1.heap[j]? := fun j hj hne => hg.block j hj (fun e => hne (by injection e))
    obtain ⟨y1, y2, y3, y4, y5⟩ := m5.lt
    obtain ⟨a1, a2, a3, a4, a5, a6, a7⟩ := m5.sc_ne
    have hq1 := m6.lt
    have hqm : s.q ≠ s.mr := by
      obtain ⟨Aq, cq, hqb⟩ := m6
      exact (q_ne m5 hqb).2.2.1
    have hgm : g ≠ s.mr := fun e => m5.rows.nocell (ad := ⟨g, 0, none⟩) ((cell_heap x1 0).trans (x2 0 _ rfl)) e
    exact ⟨W5, hrun, (hb _ (Lg.lt_heap hz1) (by omega)).trans hz1, (hb _ (Lg.lt_heap x1) hgm).trans x1, ⟨(hb _ y1 a2).trans m5.st, m5.tab.keep (hb _ y2 a5), m8, (m5.there.more (Nat.le_succ _)).keep (hb _ y4 m5.n1.symm), (m5.lease.more (Nat.le_succ _)).keep (hb _ y5 m5.n2.symm), m5.n1, m5.n2, m5.n3⟩, m6.keep (hb _ hq1 hqm), (((Kp.of_below HB.out).trans m7).drew).grown hg (fun j e => .inl (.inr (by injection e with e; exact e.symm)))⟩
  have X2 := Lib.hid x2
  have EN : Hid (∀ A cc W5, ScAt W5 s (k + 2) 0 (rowM wk A cc) there NoM → Q0 W5 s.q 1 → Kp (fun j => j = s.q ∨ j = s.mr) W W5 → W.heap.size < W5.heap.size → s.q < W.heap.size → s.sc < W.heap.size → s.tb < W.heap.size → s.mr < W.heap.size → s.mt < W.heap.size → s.ml < W.heap.size → Q (.returned (.tuple #[.agg #[.string K, .int .i64 0, .int .i64 1], .bool true])) (((W5.setCell ⟨W.heap.size, 0, none⟩ (.string K)).setCell ⟨W.heap.size, 1, none⟩ (.int .i64 0)).setCell ⟨W.heap.size, 2, none⟩ (.int .i64 1))) := Lib.hid fun A cc W5 h1 h2 h3 _ l1 l2 l3 l4 l5 l6 => by
    rw [← HQ.out]
    have o3 : ∀ j, j < W.heap.size → (((W5.setCell ⟨W.heap.size, 0, none⟩ (.string K)).setCell ⟨W.heap.size, 1, none⟩ (.int .i64 0)).setCell ⟨W.heap.size, 2, none⟩ (.int .i64 1)).heap[j]? = W5.heap[j]? := fun j hj => by
      have e : W.heap.size ≠ j := by omega
      rw [heap_set_ne e, heap_set_ne e, heap_set_ne e]
    exact ⟨rfl, ⟨A, cc, h1.keep (o3 _ l2) (o3 _ l3) (o3 _ l4) (o3 _ l5) (o3 _ l6)⟩, h2.keep (o3 _ l1), ((h3.setNew (p := ⟨W.heap.size, 0, none⟩) (Nat.le_refl _) _).setNew (p := ⟨W.heap.size, 1, none⟩) (Nat.le_refl _) _).setNew (p := ⟨W.heap.size, 2, none⟩) (Nat.le_refl _) _⟩
  clear m5 m6 m7 x1 x2 hz1 lk d2
  rcases Nat.lt_or_ge 1 c with hc | hc
  · have hc1 : ¬ c = 1 := by omega
    obtain ⟨W5, hrun, r5, g5, s5, q5, K5⟩ := FN.out (some ⟨g, 3, none⟩) (c - 1)
    have t0 : W5.cell? ⟨g, 0, none⟩ = some (.string K) := (cell_heap g5 0).trans (X2.out 0 _ rfl)
    have t1 : W5.cell? ⟨g, 1, none⟩ = some (.int .i64 0) := (cell_heap g5 1).trans (X2.out 1 _ rfl)
    have t2 : W5.cell? ⟨g, 2, none⟩ = some (.int .i64 1) := (cell_heap g5 2).trans (X2.out 2 _ rfl)
    have y0 := cell_heap r5 0
    have y1 := cell_heap r5 1
    have y2 := cell_heap r5 2
    have u0 := frozen_heap r5 0
    have u1 := frozen_heap r5 1
    have u2 := frozen_heap r5 2
    have E5 := Lib.hid (EN.out _ _ W5 s5 q5 K5 (Lg.lt_heap r5) hqW HL.out.1 HL.out.2.1 HL.out.2.2.1 HL.out.2.2.2.1 HL.out.2.2.2.2)
    have R5 := Lib.hid r5
    clear FN EN r5 g5 s5 q5 K5
    go_upto_region 5 with (fail)
    go_region
    (try simp only [Exit.then])
    clear hrun
    go_wp2_with (fail)
    refine bodyPost_ret_by (Lg.results_cell_row2 rfl _ _ W.heap.size 58 _ (0, 0) _ rfl ((heap_set (heap_set (heap_set R5.out))).trans rfl) rfl rfl (by kernel_rfl)) rfl ?_
    exact E5.out
  · obtain rfl : c = 1 := by omega
    obtain ⟨W5, hrun, r5, g5, s5, q5, K5⟩ := FN.out (some ⟨g, 0, none⟩) 0
    have t0 : W5.cell? ⟨g, 0, none⟩ = some (.string K) := (cell_heap g5 0).trans (X2.out 0 _ rfl)
    have t1 : W5.cell? ⟨g, 1, none⟩ = some (.int .i64 0) := (cell_heap g5 1).trans (X2.out 1 _ rfl)
    have t2 : W5.cell? ⟨g, 2, none⟩ = some (.int .i64 1) := (cell_heap g5 2).trans (X2.out 2 _ rfl)
    have y0 := cell_heap r5 0
    have y1 := cell_heap r5 1
    have y2 := cell_heap r5 2
    have u0 := frozen_heap r5 0
    have u1 := frozen_heap r5 1
    have u2 := frozen_heap r5 2
    have E5 := Lib.hid (EN.out _ _ W5 s5 q5 K5 (Lg.lt_heap r5) hqW HL.out.1 HL.out.2.1 HL.out.2.2.1 HL.out.2.2.2.1 HL.out.2.2.2.2)
    have R5 := Lib.hid r5
    clear FN EN r5 g5 s5 q5 K5
    go_upto_region 5 with (fail)
    go_region
    (try simp only [Exit.then])
    clear hrun
    go_wp2_with (fail)
    refine bodyPost_ret_by (Lg.results_cell_row2 rfl _ _ W.heap.size 58 _ (0, 0) _ rfl ((heap_set (heap_set (heap_set R5.out))).trans rfl) rfl rfl (by kernel_rfl)) rfl ?_
    exact E5.out
end Go.Proofs.YtifiipmmgnmciaaGreatDoor.Sv
/- SvSNext, what a claim needs of it (prune.py). -/
namespace Go.Proofs.YtifiipmmgnmciaaGreatDoor.Sv
open Go.RowKit Go.Maps
open Dk (Kp)
set_option linter.unusedVariables false
set_option maxRecDepth 100000
def SNextSays (W : World) (s : Sb) (k : Nat) (K wk : ByteArray) (there : ByteArray → Option Value) (e : Ending) (w' : World) : Prop := e = .returned (.tuple #[leaseV K wk, .int .i64 0]) ∧ (∃ A c, ScAt w' s (k + 3) 1 (rowM wk A c) there (Mv.putM NoM K (leaseV K wk))) ∧ Q0 w' s.q 1 ∧ Kp (ScS s) W w'
set_option maxHeartbeats 4000000 in
theorem snext_job (W : World) (s : Sb) (k gq : Nat) (K wk : ByteArray) (there : ByteArray → Option Value) (h : ScAt W s k 0 (rowM wk none 0) there NoM) (hq : Q1 W s.q gq K) (hk : k ≤ 1000) (hK : K.size ≤ maxLen) (hw : wk.size ≤ 1000000000) (hw2 : Lg.nameE (Lg.tl wk) = 0) :
    Calls Tryz.prog 16 #[.pointer (some ⟨s.sc, 0, none⟩), .string wk, .int .i64 2] W (SNextSays W s k K wk there) := by
  have hwm : wk.size ≤ maxLen := by unfold maxLen; omega
  obtain ⟨W0, e0⟩ : ∃ W0, W0 = W.alloc (.cells noLease 60) := ⟨_, rfl⟩
  have B0 : Below W.heap.size W W0 := by rw [e0]; exact (Below.refl _ _).alloc (Nat.le_refl _) _
  have z0 : W0.heap[W.heap.size]? = some (.cells noLease 60 (0, 0)) := by rw [e0]; exact heap_alloc_new _ _
  have h0 := h.below B0
  have q0 : Q1 W0 s.q gq K := hq.keep (B0.block _ hq.lt.1) (B0.block _ hq.lt.2)
  have PJ := Lib.hid (pick_job W0 s k gq K wk there h0 q0 hk hwm)
  have d2 : W0.cell? ⟨s.sc, 2, none⟩ = some (.map (some s.mr)) := (cell_heap h0.st 2).trans rfl
  have lk := h0.rows.look (t := 83) (e := 79) (by kernel_rfl) (z := .slice none 0 0) (by rfl) hwm
  simp only [put_at, Option.getD_some, Option.isSome_some] at lk
  have HB := Lib.hid B0
  have HZ := Lib.hid z0
  have HL := Lib.hid h.lt
  have hqW := hq.lt.1
  have hsl : s.sc < W.heap.size ∧ s.tb < W.heap.size ∧ s.mr < W.heap.size ∧ s.mt < W.heap.size ∧ s.ml < W.heap.size := h.lt
  have HS := Lib.hid h.sc_ne
  have HN := Lib.hid (And.intro h.n1 (And.intro h.n2 h.n3))
  obtain ⟨cq, csq, hqb, _⟩ := hq
  have HQN := Lib.hid (q_ne h hqb)
  clear h hqb B0 z0 h0 q0
  generalize hQ : SNextSays W s k K wk there = Q
  have HQ := Lib.hid hQ
  clear hQ
  go_enter Tryz.func16, Tryz.ntmps16
  go_upto_region 1 with (fail)
  rw [← e0]
  clear e0
  go_upto_region 11 with (go_at_call 30; (with_reducible refine (PJ.out).mono ?_); rintro e w1 ⟨rfl, ⟨A, c, h1⟩, q1, k1⟩)
  obtain ⟨W2, e2⟩ : ∃ W2, W2 = w1.alloc (.cells #[.string K, .int .i64 0, .int .i64 1] 58) := ⟨_, rfl⟩
  have B2 : Below w1.heap.size w1 W2 := by rw [e2]; exact (Below.refl _ _).alloc (Nat.le_refl _) _
  have j2 : W2.heap[w1.heap.size]? = some (.cells #[.string K, .int .i64 0, .int .i64 1] 58 (0, 0)) := by rw [e2]; exact heap_alloc_new _ _
  rw [← e2]
  clear e2 lk d2 PJ
  have h2 := h1.below B2
  have q2 := q1.keep (B2.block _ q1.lt)
  have k2 := k1.then B2
  have z2 : W2.heap[W.heap.size]? = some (.cells noLease 60 (0, 0)) := (k2.block _ (Lg.lt_heap HZ.out) (fun e => by rcases e with e | e <;> omega)).trans HZ.out
  have d1 : W2.cell? ⟨s.sc, 1, none⟩ = some (.pointer (some ⟨s.tb, 0, none⟩)) := (cell_heap h2.st 1).trans rfl
  have x0 : W2.cell? ⟨w1.heap.size, 0, none⟩ = some (.string K) := (cell_heap j2 0).trans rfl
  have x1 : W2.cell? ⟨w1.heap.size, 1, none⟩ = some (.int .i64 0) := (cell_heap j2 1).trans rfl
  have x2 : W2.cell? ⟨w1.heap.size, 2, none⟩ = some (.int .i64 1) := (cell_heap j2 2).trans rfl
  have GR := Lib.hid (grant_any W2.drew s.tb s.ml (k + 2) K wk h2.tab (h2.lease.keep rfl) (by unfold maxLen; omega) hK hw hw2)
  have EN : Hid (∀ w3, TB w3 s.tb s.ml 1 → Mv.VMap w3 s.ml (k + 2 + 1) (Mv.putM NoM K (leaseV K wk)) → Kp (fun j => j = s.tb ∨ j = s.ml) W2.drew w3 → w3.heap[W.heap.size]? = some (.cells noLease 60 (0, 0)) ∧ Q (.returned (.tuple #[leaseV K wk, .int .i64 0])) ((((((w3.setCell ⟨W.heap.size, 0, none⟩ (.string K)).setCell ⟨W.heap.size, 1, none⟩ (.int .i64 0)).setCell ⟨W.heap.size, 2, none⟩ (.int .i64 1)).setCell ⟨W.heap.size, 3, none⟩ (.string wk)).setCell ⟨W.heap.size, 4, none⟩ (.int .i64 1)).setCell ⟨W.heap.size, 5, none⟩ (.int .i64 12))) := Lib.hid fun w3 t3 m3 k3 => by
    obtain ⟨l1, l2, l3, l4, l5⟩ := HL.out
    obtain ⟨a1, a2, a3, a4, a5, a6, a7⟩ := HS.out
    obtain ⟨b1, b2, b3, b4, b5⟩ := HQN.out
    obtain ⟨n1, n2, n3⟩ := HN.out
    obtain ⟨y1, y2, y3, y4, y5⟩ := h2.lt
    have hb : ∀ j, j < W2.heap.size → j ≠ s.tb → j ≠ s.ml → w3.heap[j]? = W2.heap[j]? := fun j hj e1 e2 => k3.block j hj (fun e => by rcases e with e | e; exact e1 e; exact e2 e)
    have o6 : ∀ j, j < W.heap.size → ((((((w3.setCell ⟨W.heap.size, 0, none⟩ (.string K)).setCell ⟨W.heap.size, 1, none⟩ (.int .i64 0)).setCell ⟨W.heap.size, 2, none⟩ (.int .i64 1)).setCell ⟨W.heap.size, 3, none⟩ (.string wk)).setCell ⟨W.heap.size, 4, none⟩ (.int .i64 1)).setCell ⟨W.heap.size, 5, none⟩ (.int .i64 12)).heap[j]? = w3.heap[j]? := fun j hj => by
      have e : W.heap.size ≠ j := by omega
      rw [heap_set_ne e, heap_set_ne e, heap_set_ne e, heap_set_ne e, heap_set_ne e, heap_set_ne e]
    have s3 : ScAt w3 s (k + 3) 1 (rowM wk A c) there (Mv.putM NoM K (leaseV K wk)) := ⟨(hb _ y1 a1 a4).trans h2.st, t3, (h2.rows.more (Nat.le_succ _)).keep (hb _ y3 (fun e => a5 e.symm) n2), (h2.there.more (Nat.le_succ _)).keep (hb _ y4 (fun e => a6 e.symm) n3), m3, n1, n2, n3⟩
    have K3 : Kp (ScS s) W w3 := ((Kp.of_below HB.out).trans ((k2.mono (T := ScS s) (fun j e => by rcases e with e | e; exact .inl e; exact .inr (.inr (.inl e)))).drew.trans (k3.mono (T := ScS s) (fun j e => by rcases e with e | e; exact .inr (.inl e); exact .inr (.inr (.inr (.inr e)))))))
    refine ⟨(hb _ (Lg.lt_heap z2) (by omega) (by omega)).trans z2, ?_⟩
    rw [← HQ.out]
    exact ⟨rfl, ⟨A, c, s3.keep (o6 _ l1) (o6 _ l2) (o6 _ l3) (o6 _ l4) (o6 _ l5)⟩, (q2.keep (hb _ q2.lt b2 b5)).keep (o6 _ hqW), (((((K3.setNew (p := ⟨W.heap.size, 0, none⟩) (Nat.le_refl _) _).setNew (p := ⟨W.heap.size, 1, none⟩) (Nat.le_refl _) _).setNew (p := ⟨W.heap.size, 2, none⟩) (Nat.le_refl _) _).setNew (p := ⟨W.heap.size, 3, none⟩) (Nat.le_refl _) _).setNew (p := ⟨W.heap.size, 4, none⟩) (Nat.le_refl _) _).setNew (p := ⟨W.heap.size, 5, none⟩) (Nat.le_refl _) _⟩
  clear h1 q1 k1 B2 j2 h2 q2 k2 z2
  go_region_with (go_at_call 31; (with_reducible refine (GR.out).mono ?_); rintro e w3 ⟨rfl, t3, m3, k3⟩; obtain ⟨z3, hQ3⟩ := EN.out w3 t3 m3 k3; have HQ3 := Lib.hid hQ3; have Z3 := Lib.hid z3; have y0 := cell_heap z3 0; have y1 := cell_heap z3 1; have y2 := cell_heap z3 2; have y3 := cell_heap z3 3; have y4 := cell_heap z3 4; have y5 := cell_heap z3 5; have u0 := frozen_heap z3 0; have u1 := frozen_heap z3 1; have u2 := frozen_heap z3 2; have u3 := frozen_heap z3 3; have u4 := frozen_heap z3 4; have u5 := frozen_heap z3 5; clear t3 m3 k3 z3 hQ3)
  all_goals
    (try simp only [Exit.then])
    go_wp2_with (fail)
    refine bodyPost_ret_by (Lg.results_cell_row2 rfl _ _ W.heap.size 60 _ (0, 0) _ rfl (heap_set (off := 5) (v := .int .i64 12) (heap_set (off := 4) (v := .int .i64 1) (heap_set (off := 3) (v := .string wk) (heap_set (off := 2) (v := .int .i64 1) (heap_set (off := 1) (v := .int .i64 0) (heap_set (off := 0) (v := .string K) Z3.out)))))) rfl rfl (by kernel_rfl)) rfl ?_
    exact HQ3.out
end Go.Proofs.YtifiipmmgnmciaaGreatDoor.Sv
