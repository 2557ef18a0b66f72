/- Joined by mkmerged.py: SvGoes, SvKnown, SvPlanK. -/
import Derived.Test.YtifiipmmgnmciaaGreatDoorMi32
import Derived.Test.YtifiipmmgnmciaaGreatDoorMi34
import Derived.Deep.RegionHeld3
import Derived.Deep.CutRange
import Derived.StillTailTactics
import Derived.Test.YtifiipmmgnmciaaGreatDoorMi19
import Derived.Test.YtifiipmmgnmciaaGreatDoorMi20
/- SvGoes, what a claim needs of it (prune.py). -/
namespace Go.Proofs.YtifiipmmgnmciaaGreatDoor.Sv
open Go.RowKit Go.Maps
open Dk (Kp)
set_option linter.unusedVariables false
set_option maxRecDepth 100000
theorem res_facts {V : World} {b : Nat} {T : TypeId} (h : V.heap[b]? = some (.cells noRes T (0, 0))) : V.cell? ⟨b, 0, none⟩ = some (.int .i64 0) ∧ V.frozen? ⟨b, 0, none⟩ = false ∧ V.setCell ⟨b, 0, none⟩ (.int .i64 0) = V ∧ V.cell? ⟨b, 1, none⟩ = some (.string ⟨#[]⟩) ∧ V.frozen? ⟨b, 1, none⟩ = false ∧ V.setCell ⟨b, 1, none⟩ (.string ⟨#[]⟩) = V ∧ V.cell? ⟨b, 2, none⟩ = some (.string ⟨#[]⟩) ∧ V.frozen? ⟨b, 2, none⟩ = false ∧ V.setCell ⟨b, 2, none⟩ (.string ⟨#[]⟩) = V ∧ V.cell? ⟨b, 3, none⟩ = some (.slice none 0 0) ∧ V.frozen? ⟨b, 3, none⟩ = false ∧ V.setCell ⟨b, 3, none⟩ (.slice none 0 0) = V :=
  ⟨(cell_heap h 0).trans rfl, frozen_heap h 0, set_same h rfl, (cell_heap h 1).trans rfl, frozen_heap h 1, set_same h rfl, (cell_heap h 2).trans rfl, frozen_heap h 2, set_same h rfl, (cell_heap h 3).trans rfl, frozen_heap h 3, set_same h rfl⟩
def TaskRow (K c : ByteArray) (wx : World) (g : Nat) : Prop := ∃ gs, wx.heap[g]? = some (.cells gs 34 (0, 0)) ∧ ∀ (j : Nat) u, (taskC K c)[j]? = some u → gs[j]? = some u
abbrev taskV (K c : ByteArray) : Value := .agg #[.string K, .int .i64 0, .string c, .slice none 0 0, .slice none 0 0, .int .i64 50]
def GoNew (W : World) (s : Sb) (mk : Nat) (K c : ByteArray) (e : Ending) (w' : World) : Prop := e = .returned (.int .i64 0) ∧ Mv.VMap w' mk 1 (Mv.putM NoM K (taskV K c)) ∧ (∃ g, Q1 w' s.q g K) ∧ ScAt w' s 1 0 NoM (Mv.putM NoM K (.bool true)) NoM ∧ Kp (fun j => j = mk ∨ j = s.q ∨ j = s.mt) W w'
set_option maxHeartbeats 4000000 in
theorem goes_new (W : World) (s : Sb) (bs bo cb mk : Nat) (K c n go : ByteArray) (Ag Af : Option Addr) (cg cf : Nat) (at_ tx : ByteArray) (Ar : Option Addr) (lr cr : Nat) (st er : Int) (h : SB W bs bo s.sc cb mk 1) (hs : ScAt W s 0 0 NoM NoM NoM) (hq : QB W s.q 0 none 0 0) (hm : Mv.VMap W mk 0 NoM) (hK : K.size ≤ maxLen)
    (hd : mk ≠ bs ∧ mk ≠ s.sc ∧ mk ≠ s.q ∧ mk ≠ s.tb ∧ mk ≠ s.mr ∧ mk ≠ s.mt ∧ mk ≠ s.ml)
    (hkn : ∀ V, Below W.heap.size W V → Calls Tryz.prog 37 #[.pointer (some ⟨bs, 0, none⟩)] V fun e w' => e = .returned (.slice none 0 0) ∧ Below V.heap.size V w')
    (hpl : ∀ V, Below W.heap.size W V → Calls Tryz.prog 36 #[.slice Ag 1 cg, .slice Af 0 cf, .string go, .int .i64 50, .slice none 0 0] V (PlanNew V c K)) :
    Calls Tryz.prog 20 #[.pointer (some ⟨bs, 0, none⟩), .int .i64 0, .agg (opC n Ag 1 cg Af 0 cf go st er at_ tx Ar lr cr)] W (GoNew W s mk K c) := by
  obtain ⟨W0, e0⟩ : ∃ W0, W0 = W.alloc (.cells (opC n Ag 1 cg Af 0 cf go st er at_ tx Ar lr cr) 29) := ⟨_, rfl⟩
  have B0 : Below W.heap.size W W0 := by rw [e0]; exact (Below.refl _ _).alloc (Nat.le_refl _) _
  have z0 : W0.heap[W.heap.size]? = some (.cells (opC n Ag 1 cg Af 0 cf go st er at_ tx Ar lr cr) 29 (0, 0)) := by rw [e0]; exact heap_alloc_new _ _
  have hs0 : W0.heap.size = W.heap.size + 1 := by rw [e0]; simp
  have hbs := h.lt
  have SX : Hid (∀ V, Below W0.heap.size W0 V → V.cell? ⟨W.heap.size, 1, none⟩ = some (.slice Ag 1 cg) ∧ V.cell? ⟨W.heap.size, 2, none⟩ = some (.slice Af 0 cf) ∧ V.cell? ⟨W.heap.size, 3, none⟩ = some (.string go) ∧ V.cell? ⟨bs, 4, none⟩ = some (.int .i64 50)) := Lib.hid fun V hV => by
    have z := (hV.block _ (by omega)).trans z0
    exact ⟨(cell_heap z 1).trans rfl, (cell_heap z 2).trans rfl, (cell_heap z 3).trans rfl, (cell_heap (((h.below B0).keep (hV.block _ (by omega)))) 4).trans rfl⟩
  have sx := SX.out W0 (Below.refl _ _)
  obtain ⟨x1, x2, x3, b4⟩ := sx
  have xa := fun o => SX.out (W0.alloc o) ((Below.refl _ _).alloc (Nat.le_refl _) o)
  have BD : Hid (Below W0.heap.size W0 W0.drew) := Lib.hid (Below.refl _ _).drew
  have BA : Hid (∀ o, Below W0.heap.size W0 (W0.alloc o).drew) := Lib.hid fun o => ((Below.refl _ _).alloc (Nat.le_refl _) o).drew
  have KA : Hid (∀ V : World, V.heap = (W0.alloc (.cells noRes 27)).heap → Below W0.heap.size W0 V → Calls Tryz.prog 37 #[.pointer (some ⟨bs, 0, none⟩)] V fun e w' => e = .returned (.slice none 0 0) ∧ Below W0.heap.size W0 w' ∧ w'.heap[W0.heap.size]? = some (.cells noRes 27 (0, 0))) := Lib.hid fun V hv hb => (hkn V (B0.trans (hb.mono B0.size))).mono fun e w' ⟨h1, h2⟩ => ⟨h1, hb.trans (h2.mono hb.size), (h2.block _ (by rw [hv]; simp)).trans (by rw [hv]; exact heap_alloc_new W0 _)⟩
  have KB : Hid (∀ V : World, V.heap = W0.heap → Below W0.heap.size W0 V → Calls Tryz.prog 37 #[.pointer (some ⟨bs, 0, none⟩)] V fun e w' => e = .returned (.slice none 0 0) ∧ Below W0.heap.size W0 w') := Lib.hid fun V hv hb => (hkn V (B0.trans (hb.mono B0.size))).mono fun e w' ⟨h1, h2⟩ => ⟨h1, hb.trans (h2.mono hb.size)⟩
  have PA : Hid (∀ (V : World) (b : Nat), Hid (Below W0.heap.size W0 V) → V.heap[b]? = some (.cells noRes 27 (0, 0)) → Calls Tryz.prog 36 #[.slice Ag 1 cg, .slice Af 0 cf, .string go, .int .i64 50, .slice none 0 0] V fun e w' => ∃ g cc, e = .returned (.tuple #[.agg noRes, .bool false, .slice (some ⟨g, 0, none⟩) 1 cc]) ∧ Below W0.heap.size W0 w' ∧ TaskRow K c w' g ∧ w'.heap[b]? = some (.cells noRes 27 (0, 0))) := Lib.hid fun V b hb hz => (hpl V (B0.trans (hb.out.mono B0.size))).mono fun e w' ⟨g, cc, gs, h1, h2, h3, h4, h5⟩ => ⟨g, cc, h1, hb.out.trans (h5.mono hb.out.size), ⟨gs, h3, h4⟩, (h5.block _ (Lg.lt_heap hz)).trans hz⟩
  have PC : Hid (∀ (V : World), Hid (Below W0.heap.size W0 V) → Calls Tryz.prog 36 #[.slice Ag 1 cg, .slice Af 0 cf, .string go, .int .i64 50, .slice none 0 0] V fun e w' => ∃ g cc, e = .returned (.tuple #[.agg noRes, .bool false, .slice (some ⟨g, 0, none⟩) 1 cc]) ∧ Below W0.heap.size W0 w' ∧ TaskRow K c w' g) := Lib.hid fun V hb => (hpl V (B0.trans (hb.out.mono B0.size))).mono fun e w' ⟨g, cc, gs, h1, h2, h3, h4, h5⟩ => ⟨g, cc, h1, hb.out.trans (h5.mono hb.out.size), ⟨gs, h3, h4⟩⟩
  have HB0 := Lib.hid B0
  have HS0 := Lib.hid hs0
  have HSB := Lib.hid h
  have HSC := Lib.hid hs
  have HQ := Lib.hid hq
  have HM := Lib.hid hm
  have HD := Lib.hid hd
  clear h hs hq hm hd hkn hpl B0 z0 hs0
  go_enter Tryz.func20, Tryz.ntmps20
  go_upto_region 1 with (fail)
  rw [← e0]
  clear e0
  go_cut [7, 8, 9] from 13 to 28 (fun v7 v8 v9 wx => v8 = .bool false ∧ ∃ g cc, v9 = .slice (some ⟨g, 0, none⟩) 1 cc ∧ Below W0.heap.size W0 wx ∧ TaskRow K c wx g)
  case first =>
    go_region_held3 (fun V => V.cell? ⟨W.heap.size, 1, none⟩ = some (.slice Ag 1 cg) ∧ V.cell? ⟨W.heap.size, 2, none⟩ = some (.slice Af 0 cf) ∧ V.cell? ⟨W.heap.size, 3, none⟩ = some (.string go) ∧ V.cell? ⟨bs, 4, none⟩ = some (.int .i64 50)) (first | (with_reducible exact SX.out _ BD.out) | (with_reducible exact SX.out _ (BA.out _)) | (with_reducible exact SX.out _ h2.out) | (with_reducible exact SX.out _ (h2.out.alloc h2.out.size _)) | (with_reducible exact SX.out _ h1.out) | (with_reducible exact SX.out _ (h1.out.alloc h1.out.size _)) | go_keep) (first
      | (go_at_call 37; (with_reducible refine (KB.out _ ?_ ?_).mono ?_); exact rfl; exact BD.out; rintro e w1 ⟨rfl, hb1⟩; have h1 := Lib.hid hb1; clear hb1)
      | (go_at_call 37; (with_reducible refine (KA.out _ ?_ ?_).mono ?_); exact rfl; exact (BA.out _); rintro e w1 ⟨rfl, hb1, zb1⟩; have h1 := Lib.hid hb1; have z1 := Lib.hid zb1; clear hb1 zb1)
      | (go_at_call 36; (with_reducible refine (PA.out _ _ h1 z1.out).mono ?_); rintro e w2 ⟨g, cc, rfl, hb2, tr2, zb2⟩; have h2 := Lib.hid hb2; have T2 := Lib.hid tr2; obtain ⟨a0, a1, a2, a3, a4, a5, a6, a7, a8, a9, a10, a11⟩ := res_facts zb2; clear hb2 zb2 tr2)
      | (go_at_call 36; (with_reducible refine (PC.out _ h1).mono ?_); rintro e w2 ⟨g, cc, rfl, hb2, tr2⟩; have h2 := Lib.hid hb2; have T2 := Lib.hid tr2; clear hb2 tr2)
      | (go_at_call 36; (with_reducible refine (PA.out _ w1.heap.size (Lib.hid (h1.out.alloc h1.out.size _)) (heap_alloc_new w1 _)).mono ?_); rintro e w2 ⟨g, cc, rfl, hb2, tr2, zb2⟩; have h2 := Lib.hid hb2; have T2 := Lib.hid tr2; obtain ⟨a0, a1, a2, a3, a4, a5, a6, a7, a8, a9, a10, a11⟩ := res_facts zb2; clear hb2 zb2 tr2))
    all_goals
      go_wp2_with (fail)
      go_meet
      first | exact ⟨rfl, g, cc, rfl, h2.out, T2.out⟩ | exact ⟨rfl, g, cc, rfl, h2.out.alloc h2.out.size _, by obtain ⟨gs, q1, q2⟩ := T2.out; exact ⟨gs, (Below.heap_alloc _ _ _ (Lg.lt_heap q1)).trans q1, q2⟩⟩
  case rest =>
    clear KA KB PA PC xa x1 x2 x3 b4 BD BA
    obtain ⟨rfl, g, cc, rfl, hb, gs, g1, g2⟩ := hcut
    obtain ⟨W1, hW1⟩ : ∃ W1, W1 = wc := ⟨_, rfl⟩
    subst hW1
    have hbW : Below W.heap.size W W1 := HB0.out.trans (hb.mono HB0.out.size)
    have t0 : W1.cell? ⟨g, 0, none⟩ = some (.string K) := (cell_heap g1 0).trans (g2 0 _ rfl)
    have t1 : W1.cell? ⟨g, 1, none⟩ = some (.int .i64 0) := (cell_heap g1 1).trans (g2 1 _ rfl)
    have t2 : W1.cell? ⟨g, 2, none⟩ = some (.string c) := (cell_heap g1 2).trans (g2 2 _ rfl)
    have t3 : W1.cell? ⟨g, 3, none⟩ = some (.slice none 0 0) := (cell_heap g1 3).trans (g2 3 _ rfl)
    have t4 : W1.cell? ⟨g, 4, none⟩ = some (.slice none 0 0) := (cell_heap g1 4).trans (g2 4 _ rfl)
    have t5 : W1.cell? ⟨g, 5, none⟩ = some (.int .i64 50) := (cell_heap g1 5).trans (g2 5 _ rfl)
    obtain ⟨W2, e2⟩ : ∃ W2, W2 = W1.alloc (.cells #[.string K, .int .i64 0, .string c, .slice none 0 0, .slice none 0 0, .int .i64 50] 34) := ⟨_, rfl⟩
    have B2 : Below W1.heap.size W1 W2 := by rw [e2]; exact (Below.refl _ _).alloc (Nat.le_refl _) _
    have z2 : W2.heap[W1.heap.size]? = some (.cells #[.string K, .int .i64 0, .string c, .slice none 0 0, .slice none 0 0, .int .i64 50] 34 (0, 0)) := by rw [e2]; exact heap_alloc_new _ _
    have hB2 : Below W.heap.size W W2 := hbW.trans (B2.mono hbW.size)
    obtain ⟨d1, d2, d3, d4, d5, d6, d7⟩ := HD.out
    have y0 : W2.cell? ⟨W1.heap.size, 0, none⟩ = some (.string K) := (cell_heap z2 0).trans rfl
    have y1 : W2.cell? ⟨W1.heap.size, 1, none⟩ = some (.int .i64 0) := (cell_heap z2 1).trans rfl
    have y2 : W2.cell? ⟨W1.heap.size, 2, none⟩ = some (.string c) := (cell_heap z2 2).trans rfl
    have y3 : W2.cell? ⟨W1.heap.size, 3, none⟩ = some (.slice none 0 0) := (cell_heap z2 3).trans rfl
    have y4 : W2.cell? ⟨W1.heap.size, 4, none⟩ = some (.slice none 0 0) := (cell_heap z2 4).trans rfl
    have y5 : W2.cell? ⟨W1.heap.size, 5, none⟩ = some (.int .i64 50) := (cell_heap z2 5).trans rfl
    have sb2 := HSB.out.below hB2
    have b3 : W2.cell? ⟨bs, 3, none⟩ = some (.map (some mk)) := (cell_heap sb2 3).trans rfl
    have m2 : Mv.VMap W2.drew mk 0 NoM := (HM.out.later hB2).keep rfl
    obtain ⟨W3, hrun, m3, hg⟩ := m2.put (t := 54) (e := 34) (by kernel_rfl) (by unfold maxLen; omega) hK (taskV K c)
    have hbl : ∀ j, j < W2.heap.size → j ≠ mk → W3.heap[j]? = W2.heap[j]? := fun j h1 h2 => hg.block j h1 (fun e => h2 (by injection e))
    have hmk := HM.out.lt
    have hz1 := hbW.size
    have hz2 := B2.size
    have sb3 := sb2.keep (hbl _ sb2.lt (fun e => d1 e.symm))
    have c1 : W3.cell? ⟨bs, 1, none⟩ = some (.pointer (some ⟨s.sc, 0, none⟩)) := (cell_heap sb3 1).trans rfl
    have c5 : W3.cell? ⟨bs, 5, none⟩ = some (.int .i64 1) := (cell_heap sb3 5).trans rfl
    have w0 : W3.cell? ⟨W1.heap.size, 0, none⟩ = some (.string K) := (cell_heap ((hbl _ (Lg.lt_heap z2) (by omega)).trans z2) 0).trans rfl
    have K3 : Kp (fun j => j = mk) W W3 := ((Kp.of_below (S := fun j => j = mk) hB2).drew).grown hg (fun j e => .inl (by injection e with e; exact e.symm))
    have sc3 : ScAt W3.drew s 0 0 NoM NoM NoM := (HSC.out.kp K3 (fun j e => by subst e; exact ⟨d2, d4, d5, d6, d7⟩)).below (Below.refl _ _).drew
    have q3 : QB W3.drew s.q 0 none 0 0 := (K3.block _ (Lg.lt_heap HQ.out) (fun e => d3 e.symm)).trans HQ.out
    have AD : Hid (Calls Tryz.prog 38 #[.pointer (some ⟨s.sc, 0, none⟩), .agg #[.string K, .int .i64 0, .int .i64 1]] W3.drew fun e w' => e = .returned (.int .i64 0) ∧ GoNew W s mk K c (.returned (.int .i64 0)) w') := Lib.hid ((sadd_any W3.drew s 0 K NoM sc3 q3 (by omega) hK).mono (by
      rintro e w' ⟨rfl, ⟨gq, _, hq⟩, hsc, hk⟩
      refine ⟨rfl, rfl, m3.keep ((hk.block mk (by show mk < W3.heap.size; exact m3.lt) (fun e => by rcases e with e | e; exact d3 e; exact d6 e)).trans rfl), ⟨gq, hq⟩, hsc, ((K3.drew.mono (fun j e => .inl e)).trans (hk.mono (fun j e => .inr e)))⟩))
    clear sb2 sb3 m2 m3 hg hbl K3 sc3 q3 hbW hb g1 g2 B2 z2 hB2 hz1 hz2 HB0 HSB HSC HQ HM HD
    go_wp2_with (fail)
    go_loopw [37] (fun v37 wr => (v37 = .int .i64 0 ∧ wr = W1) ∨ (v37 = .int .i64 1 ∧ Hid (GoNew W s mk K c (.returned (.int .i64 0)) wr))) (fun v37 _ => (2 - intOf v37).toNat)
    case atStart => exact .inl ⟨rfl, rfl⟩
    case round =>
      rcases hrel with ⟨rfl, rfl⟩ | ⟨rfl, hfin⟩
      · go_upto_region 8 with (fail)
        rw [← e2]
        clear e2
        go_still_tail 7, (by kernel_rfl)
        change wpList _ _ _ _ _ W2.drew
        go_upto_region 9 with (fail)
        clear hrun
        go_still_tail 13, (by kernel_rfl)
        change wpList _ _ _ _ _ W3.drew
        go_wp2_with (rw [show (min (0 : Int) 9) = 0 from rfl]; go_at_call 38; (with_reducible refine (AD.out).mono ?_); rintro e w4 ⟨rfl, hF⟩; have HF := Lib.hid hF; clear hF)
        go_roundw
        case rel => exact .inr ⟨rfl, HF⟩
        case measure => simp [intOf]
      · go_wp2_with (fail)
        go_ret
        exact hfin.out
end Go.Proofs.YtifiipmmgnmciaaGreatDoor.Sv
/- SvKnown, what a claim needs of it (prune.py). -/
namespace Go.Proofs.YtifiipmmgnmciaaGreatDoor.Sv
open Go.RowKit Go.Maps
open Dk (Kp)
set_option linter.unusedVariables false
set_option maxRecDepth 100000
theorem known_none (W : World) (bs bo sc cb mk mc n : Nat) (clock cclock : Int) (h : SB W bs bo sc cb mk clock) (hc : CB W cb mc cclock) (hm : Mv.VMap W mc n NoM) (hn : n ≤ 1000) :
    Calls Tryz.prog 37 #[.pointer (some ⟨bs, 0, none⟩)] W fun e w' => e = .returned (.slice none 0 0) ∧ Below W.heap.size W w' := by
  have KE := Lib.hid (ckeys_none W cb mc n cclock hc hm hn)
  have c2 : W.cell? ⟨bs, 2, none⟩ = some (.pointer (some ⟨cb, 0, none⟩)) := (cell_heap h 2).trans rfl
  clear h hc hm
  go_enter Tryz.func37, Tryz.ntmps37
  go_wp2_with (go_at_call 42; (with_reducible refine (KE.out).mono ?_); rintro e w1 ⟨rfl, hb⟩)
  go_loopw [3, 14] (fun v3 v14 wr => v3 = .slice none 0 0 ∧ v14 = .int .i64 0 ∧ Below W.heap.size W wr) (fun _ _ _ => 0)
  case atStart => exact ⟨rfl, rfl, hb⟩
  case round =>
    obtain ⟨rfl, rfl, hb⟩ := hrel
    go_wp2_with (fail)
    go_ret
    exact ⟨rfl, hb⟩
theorem infoDone : (Tryz.prog.info? 160).map (fun i => (i.zero, i.size, i.bytes)) = some (some (.agg #[.string ⟨#[]⟩, .int .i64 0, .slice none 0 0, .string ⟨#[]⟩, .int .i64 0, .string ⟨#[]⟩, .int .i64 0]), 7, 96) := by kernel_rfl
theorem done_cells (K : ByteArray) (gf cf : Nat) : ∀ u ∈ (doneC K gf cf).toList, u.oneCell' = true := by
  intro u hu
  simp only [List.mem_cons, List.not_mem_nil, or_false] at hu
  rcases hu with rfl | rfl | rfl | rfl | rfl | rfl | rfl <;> rfl
def KnAt (W : World) (cb mc th gf cf : Nat) (K : ByteArray) (w' : World) (gd : Nat) : Prop := W.heap.size ≤ gd ∧ gd < w'.heap.size ∧ (∀ (j : Nat) v, (doneC K gf cf)[j]? = some v → w'.cell? ⟨gd, j, none⟩ = some v) ∧ TH w' th gf cf 2 ∧ CB w' cb mc 2 ∧ Kp (fun k => k = cb ∨ k = th) W w'
def KnSays (W : World) (cb mc th gf cf : Nat) (K : ByteArray) (e : Ending) (w' : World) : Prop := ∃ gd cap, e = .returned (.slice (some ⟨gd, 0, none⟩) 1 cap) ∧ KnAt W cb mc th gf cf K w' gd
set_option maxHeartbeats 2000000 in
theorem known_one (W : World) (bs bo sc cb mk mc th gf cf n : Nat) (clock : Int) (K : ByteArray) (h : SB W bs bo sc cb mk clock) (hc : CB W cb mc 1) (hm : Mv.VMap W mc n (oneM K th)) (ht : TH W th gf cf 1) (hK : K.size ≤ maxLen) (hn : n ≤ 1000) :
    Calls Tryz.prog 37 #[.pointer (some ⟨bs, 0, none⟩)] W (KnSays W cb mc th gf cf K) := by
  obtain ⟨i0, hi, hz0, hz1, hz2⟩ := info_parts infoDone
  have hzs : (Value.agg #[.string ⟨#[]⟩, .int .i64 0, .slice none 0 0, .string ⟨#[]⟩, .int .i64 0, .string ⟨#[]⟩, .int .i64 0]).cells.size = 7 := rfl
  have KE := Lib.hid (ckeys_one W cb mc th gf cf n 1 1 K hc hm ht hK hn)
  have c2 : W.cell? ⟨bs, 2, none⟩ = some (.pointer (some ⟨cb, 0, none⟩)) := (cell_heap h 2).trans rfl
  have hbs := h.lt
  have hcb := hc.lt
  have hth := Lg.lt_heap ht
  have GE : Hid (∀ w1, Below W.heap.size W w1 → w1.cell? ⟨bs, 2, none⟩ = some (.pointer (some ⟨cb, 0, none⟩)) ∧ Calls Tryz.prog 72 #[.pointer (some ⟨cb, 0, none⟩), .string K] w1 (GetSays w1 cb mc th gf cf)) := Lib.hid fun w1 hb =>
    ⟨(hb.cell (p := ⟨bs, 2, none⟩) hbs).trans c2, cget_one w1 cb mc th gf cf n K (hc.keep (hb.block _ hcb)) (hm.later hb) ((hb.block _ hth).trans ht) hK⟩
  have FN : Hid (∀ w1 w2 o w4 v', Below W.heap.size W w1 → TH w2 th gf cf 2 → CB w2 cb mc 2 → Kp (fun k => k = cb ∨ k = th) w1 w2 → (w2.alloc o).grownBy w4 none ∨ (∃ o', ((w2.alloc o).alloc o').grownBy w4 none) → w4.ownsRow w2.heap.size 160 7 v' 1 (doneC K gf cf).toList → ∃ gd cap, v' = .slice (some ⟨gd, 0, none⟩) 1 cap ∧ KnAt W cb mc th gf cf K w4 gd) := Lib.hid fun w1 w2 o w4 v' hb t2 k2 kp hg ho => by
    obtain ⟨gd, cap, cs, rfl, g1, g2, g3, g4, g5⟩ := own_one ho
    have hz1 := hb.size
    have hz2 := kp.size
    have hB : ∀ j, j < w2.heap.size → w4.heap[j]? = w2.heap[j]? := fun j hj => by
      rcases hg with hg | ⟨o', hg⟩
      · exact (hg.block j (by simp; omega) (fun e => by cases e)).trans (Below.heap_alloc w2 o _ hj)
      · exact (hg.block j (by simp; omega) (fun e => by cases e)).trans ((Below.heap_alloc _ o' _ (by simp; omega)).trans (Below.heap_alloc w2 o _ hj))
    have K4 : Kp (fun k => k = cb ∨ k = th) W w4 := by
      rcases hg with hg | ⟨o', hg⟩
      · exact (((Kp.of_below hb).trans kp).then ((Below.refl _ _).alloc (Nat.le_refl _) o)).grown hg (fun j e => by cases e)
      · exact (((Kp.of_below hb).trans kp).then (((Below.refl _ _).alloc (Nat.le_refl _) o).alloc (by simp) o')).grown hg (fun j e => by cases e)
    exact ⟨gd, cap, rfl, by omega, Lg.lt_heap g1, fun j v hj => (cell_heap g1 j).trans (g2 j v (by simpa using hj)), (hB _ (Lg.lt_heap t2)).trans t2, k2.keep (hB _ k2.lt), K4⟩
  clear h hc hm ht
  go_enter Tryz.func37, Tryz.ntmps37
  go_wp2_with (go_at_call 42; (with_reducible refine (KE.out).mono ?_); rintro e w1 ⟨⟨gb, cap, rfl, hcell⟩, hb⟩)
  go_loopw [3, 14] (fun v3 v14 wr => (v3 = .slice none 0 0 ∧ v14 = .int .i64 0 ∧ wr = w1) ∨ (v14 = .int .i64 1 ∧ ∃ gd c, v3 = .slice (some ⟨gd, 0, none⟩) 1 c ∧ KnAt W cb mc th gf cf K wr gd)) (fun _ v14 _ => (2 - intOf v14).toNat)
  case atStart => exact .inl ⟨rfl, rfl, rfl⟩
  case round =>
    rcases hrel with ⟨rfl, rfl, rfl⟩ | ⟨rfl, gd, c, rfl, hkn⟩
    · obtain ⟨c2', G⟩ := GE.out wr hb
      have GG := Lib.hid G
      have HB := Lib.hid hb
      clear G hb GE KE
      go_wp2_with (first
        | (go_at_call 72; (with_reducible refine (GG.out).mono ?_); rintro e w2 ⟨rfl, t2, k2, kp2⟩; have T2 := Lib.hid t2; have K2 := Lib.hid k2; have KP2 := Lib.hid kp2; clear t2 k2 kp2)
        | (at_builtin; refine wpList_append_any _ rfl (.tmp 28) (.tmp 32) _ rfl w2.heap.size 160 i0 _ 7 96 Tryz.underlying98 hi hz0 hz1 hz2 hzs (by omega) (.slice none 0 0) 0 [] rfl (World.ownsRow_nil _ _ _ _) _ (some ⟨w2.heap.size + 1, 0, none⟩) 1 1 (doneC K gf cf).toList rfl (reads_one (heap_alloc2_new w2 _ _) rfl) (done_cells K gf cf) (by simp only [maxLen]; omega) (by omega) (by simp; omega) ?_; intro v' w4 hown hgr hat; obtain ⟨gd, c, rfl, hkn⟩ := FN.out _ w2 _ w4 v' HB.out T2.out K2.out KP2.out (.inr ⟨_, hgr⟩) hown; have HKN := Lib.hid hkn; clear hown hgr hat hkn))
      go_roundw
      case rel => exact .inr ⟨rfl, _, _, rfl, HKN.out⟩
      case measure => simp [intOf]
    · have HKN := Lib.hid hkn
      clear hkn GE KE FN
      go_wp2_with (fail)
      go_ret
      exact ⟨_, _, rfl, HKN.out⟩
end Go.Proofs.YtifiipmmgnmciaaGreatDoor.Sv
/- SvPlanK, what a claim needs of it (prune.py). -/
namespace Go.Proofs.YtifiipmmgnmciaaGreatDoor.Sv
open Go.RowKit Go.Maps Go.Shelf
open Dk (Kp)
set_option linter.unusedVariables false
set_option maxRecDepth 100000
abbrev gotRes (gf cf : Nat) : Array Value := #[.int .i64 0, .string ⟨#[]⟩, .string ⟨#[]⟩, .slice (some ⟨gf, 0, none⟩) 1 cf]
def PlanGot (W : World) (gf cf : Nat) (e : Ending) (w' : World) : Prop := e = .returned (.tuple #[.agg (gotRes gf cf), .bool true, .slice none 0 0]) ∧ Below W.heap.size W w'
attribute [local go_sem] Oper.semAt_some
set_option pp.deepTerms true
set_option pp.maxSteps 100000
def DoneM (K : ByteArray) (gf cf : Nat) : List Unit → ByteArray → Option Value
  | [] => NoM
  | _ :: _ => Mv.putM NoM K (.agg (ocV (some (gf, cf))))
set_option maxHeartbeats 4000000 in
theorem plan_known (W : World) (gd gf cf cap : Nat) (TG As Ad At : Option Addr) (tc cs cd ct : Nat) (s n c K : ByteArray) (hs : s.size ≤ maxLen) (hK : K.size ≤ maxLen) (hE : Env W TG As Ad At tc cs cd ct s n c K) (hgd : gd < W.heap.size) (hrow : ∀ (j : Nat) v, (doneC K gf cf)[j]? = some v → W.cell? ⟨gd, j, none⟩ = some v) :
    Calls Tryz.prog 36 #[.slice TG 1 tc, .slice As 0 cs, .string s, .int .i64 50, .slice (some ⟨gd, 0, none⟩) 1 cap] W (PlanGot W gf cf) := by
  have b50a : ¬ (50 : Int) < 1 := by omega
  have b50b : ¬ (2000 : Int) < 50 := by omega
  have FI := Lib.hid hE.find
  have CH := Lib.hid hE.check
  have FC := Lib.hid hE.files
  refine (callsIn_wide (n := 10)).1 ?_
  refine callsIn_of_wp_marks Tryz.func36 rfl trivial ?_ rfl
  have hmm := @run_makeMap Tryz.prog
  simp only [Tryz.ntmps36, List.size_toArray, List.length_cons, List.length_nil, Nat.reduceAdd, Nat.reduceSub, Array.replicate_succ, Array.replicate_zero, List.push_toArray, List.append_toArray, List.nil_append, List.cons_append]
  obtain ⟨W0, e0⟩ : ∃ W0, W0 = W.alloc (.cells noRes 27) := ⟨_, rfl⟩
  have B0 : Below W.heap.size W W0 := by rw [e0]; exact (Below.refl _ _).alloc (Nat.le_refl _) _
  have z0 : W0.heap.size = W.heap.size + 1 := by rw [e0]; simp
  have v0 : W0.heap[W.heap.size]? = some (.cells noRes 27 (0, 0)) := by rw [e0]; exact heap_alloc_new W _
  have EW := Lib.hid e0
  have HB0 := Lib.hid B0
  have HZ0 := Lib.hid z0
  have V0 := Lib.hid v0
  clear e0 B0 z0 v0
  gi_wp2_with (first
    | (refine ⟨trivial, ?_⟩; gi_at_call 66; rw [← EW.out]; refine (callsIn_wide.2 (FI.out _ HB0.out)).mono ?_; rintro e V1 ⟨rfl, hb1⟩; have HB1 := Lib.hid hb1; clear hb1))
  refine ⟨trivial, ?_⟩
  have hz := HZ0.out
  have hs1 := HB1.out.size
  obtain ⟨V1a, e1⟩ : ∃ V1a, V1a = V1.alloc (.cells #[.string n, .string c, .slice Ad 0 cd, .slice At 0 ct] 122) := ⟨_, rfl⟩
  have b1 : Below W0.heap.size W0 V1a := by rw [e1]; exact HB1.out.alloc hs1 _
  rw [← e1]
  clear e1
  have CH1 := CH.out V1a (HB0.out.trans (b1.mono (by omega)))
  have H1 := Lib.hid b1
  clear b1 hz hs1
  gi_at_call 67
  refine (callsIn_wide.2 CH1).mono ?_
  rintro e V2 ⟨rfl, hb2⟩
  have b2 := H1.out.trans (hb2.mono H1.out.size)
  have FC1 := FC.out V2 (HB0.out.trans (b2.mono (by have := HZ0.out; omega)))
  have H2 := Lib.hid b2
  clear CH1 hb2 b2
  gi_wp2_with (first | (refine ⟨trivial, ?_⟩; gi_at_call 68; refine (callsIn_wide.2 FC1).mono ?_; rintro e V3 ⟨rfl, hb3⟩; have H3 := Lib.hid (H2.out.trans (hb3.mono H2.out.size)); clear hb3 FC1) | (refine ⟨trivial, ?_⟩; gi_at_call 70; refine (backwardD_in Fence.wide (10 - 1) trivial rfl _ _ _ _).mono ?_; rintro e w' ⟨rfl, rfl⟩))
  obtain ⟨W5, e5⟩ : ∃ W5, W5 = ((((((V3.alloc (.map #[] 0)).alloc (.map #[] 0)).alloc (.map #[] 0)).alloc (.cells #[.slice TG 1 tc, .slice As 0 cs, .int .i64 50, .map (some V3.heap.size), .map (some (V3.heap.size + 1)), .map (some (V3.heap.size + 1 + 1)), .slice none 0 0] 155)).alloc (.cells #[.pointer (some ⟨V3.heap.size + 1 + 1 + 1, 0, none⟩)] 151)).alloc (.cells #[.slice (some ⟨gd, 0, none⟩) 1 cap] 98)) := ⟨_, rfl⟩
  rw [← e5]
  have q5 : PlAt W TG As tc cs V3.heap.size 0 NoM W5 ∧ W5.heap.size = V3.heap.size + 6 ∧ W5.heap[V3.heap.size + 5]? = some (.cells #[.slice (some ⟨gd, 0, none⟩) 1 cap] 98 (0, 0)) := plan_made W V3 TG As tc cs (.slice (some ⟨gd, 0, none⟩) 1 cap) W5 (HB0.out.trans (H3.out.mono (by have := HZ0.out; omega))) ((H3.out.block _ (by have := HZ0.out; omega)).trans V0.out) (by have := H3.out.size; have := HZ0.out; omega) e5
  obtain ⟨q5, z5, s5⟩ := q5
  clear e5
  have hlW := q5.le
  have hrow5 : ∀ (j : Nat) v, (doneC K gf cf)[j]? = some v → W5.cell? ⟨gd, j, none⟩ = some v := fun j v hj => (q5.below.cell (p := ⟨gd, j, none⟩) hgd).trans (hrow j v hj)
  refine wpIn_rangeFunc_ownH (α := Unit) (F := Fence.wide) (n := 10) rfl (by omega) (gf := 142) (lb := #[.pointer (some ⟨V3.heap.size + 1 + 1 + 1 + 1 + 1, 0, none⟩)]) rfl trivial (enters_of Tryz.func142 (by kernel_rfl) rfl)
    (backD_one Fence.wide (10 - 1) trivial rfl (by omega) (V3.heap.size + 5) gd cap gf cf K W5 (by omega) ((cell_heap s5 0).trans rfl) (by omega) hrow5 V3.heap.size (by omega) (by omega)) KpN.trans (KpN.put (Nat.le_refl _)) (Below.refl _ _) (fun _ => rfl)
    (fun pre W' => PlAt W TG As tc cs V3.heap.size pre.length (DoneM K gf cf pre) W')
    (fun _ _ _ => False)
    (fun s A B row hs hg hr => hs.grown hg (fun r e => by have := (hr r e).1; omega))
    (fun _ _ _ _ _ hs _ _ => hs)
    q5
    (fun x a' W' => ∃ b, a' = { tmps := #[Value.slice TG 1 tc, Value.slice As 0 cs, Value.string s, Value.int IntKind.i64 50, Value.slice (some ⟨gd, 0, none⟩) 1 cap, undef, undef, undef, undef, undef, Value.pointer (some ⟨W.heap.size, 0, none⟩), Value.bool false, Value.slice none 0 0, Value.pointer (some ⟨V1.heap.size, 0, none⟩), Value.bool true, Value.pointer (some ⟨V3.heap.size + 1 + 1 + 1 + 1, 0, none⟩), undef, Value.pointer (some ⟨b, 0, none⟩), undef, Value.tuple #[Value.agg #[Value.string n, Value.string c, Value.slice Ad 0 cd, Value.slice At 0 ct], Value.bool true], Value.slice TG 1 tc, Value.string s, Value.tuple #[Value.agg #[Value.string n, Value.string c, Value.slice Ad 0 cd, Value.slice At 0 ct], Value.bool true], Value.agg #[Value.string n, Value.string c, Value.slice Ad 0 cd, Value.slice At 0 ct], Value.bool true, Value.bool true, Value.bool false, Value.bool false, Value.int IntKind.i64 50, Value.bool false, Value.bool false, Value.bool false, Value.int IntKind.i64 50, Value.bool false, Value.bool false, Value.bool false, Value.slice TG 1 tc, Value.int IntKind.i64 0, Value.bool false, Value.bool false, Value.bool false, Value.slice As 0 cs, Value.int IntKind.i64 0, Value.bool false, Value.bool false, undef, undef, undef, undef, undef, Value.slice TG 1 tc, Value.slice As 0 cs, Value.int IntKind.i64 50, Value.map (some V3.heap.size), Value.map (some (V3.heap.size + 1)), Value.map (some (V3.heap.size + 1 + 1)), Value.agg #[Value.slice TG 1 tc, Value.slice As 0 cs, Value.int IntKind.i64 50, Value.map (some V3.heap.size), Value.map (some (V3.heap.size + 1)), Value.map (some (V3.heap.size + 1 + 1)), Value.slice none 0 0], Value.pointer (some ⟨V3.heap.size + 1 + 1 + 1, 0, none⟩), Value.slice (some ⟨gd, 0, none⟩) 1 cap, Value.func (Fn.func 142) #[] #[Value.pointer (some ⟨V3.heap.size + 1 + 1 + 1 + 1 + 1, 0, none⟩)], Value.int IntKind.i64 0, Value.agg (doneC K gf cf), undef, undef, undef, undef, undef, undef, undef, undef, undef, undef, undef, undef, undef, undef, undef, undef, undef, undef, undef, undef], defers := [] } ∧ W5.heap.size ≤ b ∧ W'.heap[b]? = some (.cells (doneC K gf cf) 160 (0, 0)))
    (fun x a' s A B row hs hg hr => by
      obtain ⟨b, h1, h2, h3⟩ := hs
      exact ⟨b, h1, h2, (hg.block b (Lg.lt_heap h3) (fun e => by
        obtain ⟨_, o, ho, hc⟩ := hr b (by first | exact e | exact e.symm)
        rw [h3] at ho
        cases ho
        cases hc)).trans h3⟩)
    ?assign ?body ?done ?stop
  case assign =>
    intro l pre x W6 K' hi hK
    have hz6 := hi.size
    gi_wp2_with (fail)
    exact hK _ _ ⟨by simp, fun k o _ h1 _ => (Below.heap_alloc W6 _ k (Lg.lt_heap h1)).trans h1⟩ ⟨by simp, fun k h1 h2 => Below.heap_alloc W6 _ k (by omega)⟩ (hi.kp (fun j h1 h2 => Below.heap_alloc W6 _ j h1) (by simp) (hi.below.alloc hi.below.size _)) ⟨_, rfl, by omega, heap_alloc_new W6 _⟩
  case body =>
    intro l pre x a' W6 hl hr hi hx hlt
    obtain ⟨b, rfl, hb, hd⟩ := hx
    have hz6 := hi.size
    obtain rfl : pre = [] := by cases pre with | nil => rfl | cons y ys => simp at hlt
    have d0 : W6.cell? ⟨b, 0, none⟩ = some (.string K) := (cell_heap hd 0).trans rfl
    have d1 : W6.cell? ⟨b, 1, none⟩ = some (.int .i64 1) := (cell_heap hd 1).trans rfl
    have d2 : W6.cell? ⟨b, 2, none⟩ = some (.slice (some ⟨gf, 0, none⟩) 1 cf) := (cell_heap hd 2).trans rfl
    have d3 : W6.cell? ⟨b, 3, none⟩ = some (.string ⟨#[]⟩) := (cell_heap hd 3).trans rfl
    have d4 : W6.cell? ⟨b, 4, none⟩ = some (.int .i64 0) := (cell_heap hd 4).trans rfl
    have d5 : W6.cell? ⟨b, 5, none⟩ = some (.string ⟨#[]⟩) := (cell_heap hd 5).trans rfl
    have d6 : W6.cell? ⟨b, 6, none⟩ = some (.int .i64 2) := (cell_heap hd 6).trans rfl
    have c4 : W6.cell? ⟨V3.heap.size + 1 + 1 + 1 + 1, 0, none⟩ = some (.pointer (some ⟨V3.heap.size + 3, 0, none⟩)) := (cell_heap hi.var 0).trans rfl
    have c3 : W6.cell? ⟨V3.heap.size + 3, 3, none⟩ = some (.map (some V3.heap.size)) := (cell_heap hi.p 3).trans rfl
    obtain ⟨W7, hrun, m7, hg⟩ := (show Mv.VMap W6.drew V3.heap.size 0 NoM from hi.dm.keep rfl).put (t := 152) (e := 44) (by kernel_rfl) (by unfold maxLen; omega) hK (.agg (ocV (some (gf, cf))))
    simp only [ocV] at hrun
    have hbl : ∀ j, j < W6.heap.size → j ≠ V3.heap.size → W7.heap[j]? = W6.heap[j]? := fun j h1 h2 => hg.block j h1 (fun e => h2 (by injection e))
    have hz7 : W6.heap.size ≤ W7.heap.size := hg.size
    have hdm := hi.dm.lt
    have hle := hi.le
    have P7 : PlAt W TG As tc cs V3.heap.size 1 (Mv.putM NoM K (.agg (ocV (some (gf, cf))))) W7 :=
      ⟨m7, hi.vm.keep (hbl _ (by omega) (by omega)), hi.om.keep (hbl _ (by omega) (by omega)), (hbl _ (by omega) (by omega)).trans hi.p, (hbl _ (by omega) (by omega)).trans hi.var, (hbl _ (by omega) (by omega)).trans hi.res, hi.below.drew.grown hg (by show W.heap.size ≤ W6.heap.size; omega) (fun r e => by cases e; omega), by omega, hi.le⟩
    have Q7 : Hid (KeepsFrom W5.heap.size W6 W7 ∧ KpN W5.heap.size V3.heap.size W6 W7 ∧ PlAt W TG As tc cs V3.heap.size 1 (Mv.putM NoM K (.agg (ocV (some (gf, cf))))) W7) := Lib.hid ⟨⟨hz7, fun k o h1 h2 h3 => (hbl k (Lg.lt_heap h2) (by omega)).trans h2⟩, ⟨hz7, fun k h1 h2 => hbl k (by omega) h2⟩, P7⟩
    clear hd hi hg m7 hbl hz7 P7 hz6 hdm hle
    gi_wp2_with (fail)
    refine wpIn_region_still_tail 8 (by kernel_rfl) (by kernel_rfl) (by kernel_rfl) ?_
    simp only [List.take_succ_cons, List.take_zero, List.drop_succ_cons, List.drop_zero]
    repeat still_step
    try refine wpStill_nil ?_
    gi_wp2_with (fail)
    (try simp only [Exit.inBlock, Exit.then])
    exact Q7.out
  case stop =>
    rintro D c pre W _ _ h
    exact h.elim
  case done =>
    rintro D xs W6 hD rfl q6 hDW
    have z6 := q6.size
    have l6 := q6.le
    have c4 : W6.cell? ⟨V3.heap.size + 1 + 1 + 1 + 1, 0, none⟩ = some (.pointer (some ⟨V3.heap.size + 3, 0, none⟩)) := (cell_heap q6.var 0).trans rfl
    have AS0 := ask_any W6 (V3.heap.size + 3) tc cs V3.heap.size (V3.heap.size + 1) (V3.heap.size + 2) 1 0 0 TG As Ad At cd ct s n c K (Mv.putM NoM K (.agg (ocV (some (gf, cf))))) (some (gf, cf)) q6.p q6.dm q6.vm q6.om (by omega) (by omega) (by omega) (if_pos rfl) hK hs (fun V hV => hE.act V (q6.below.trans (hV.below (fun k e => by omega) (by omega)))) (fun V hV => hE.find V (q6.below.trans (hV.below (fun k e => by omega) (by omega))))
    gi_wp2_with (fail)
    refine ⟨trivial, ?_⟩
    gi_at_call 71
    refine (callsIn_wide.2 AS0).mono ?_
    rintro e w3 ⟨rfl, _, hk⟩
    have hz3 := hk.size
    have hDl := Lg.lt_heap hDW
    simp only [askV]
    obtain ⟨V4, e4⟩ : ∃ V4, V4 = w3.alloc (.cells (gotV gf cf) 162) := ⟨_, rfl⟩
    have b4 : Below w3.heap.size w3 V4 := by rw [e4]; exact (Below.refl _ _).alloc (Nat.le_refl _) _
    have n4 : V4.heap[w3.heap.size]? = some (.cells (gotV gf cf) 162 (0, 0)) := by rw [e4]; exact heap_alloc_new w3 _
    have k4 := hk.then b4
    have r4 := (k4.block W.heap.size (by omega) (by omega)).trans q6.res
    have D4 : V4.heap[D]? = some (.deferred (some [])) := (k4.block D hDl (by omega)).trans hDW
    have d0 : V4.cell? ⟨w3.heap.size, 0, none⟩ = some (.int .i64 0) := (cell_heap n4 0).trans rfl
    have d1 : V4.cell? ⟨w3.heap.size, 1, none⟩ = some (.string ⟨#[]⟩) := (cell_heap n4 1).trans rfl
    have d2 : V4.cell? ⟨w3.heap.size, 2, none⟩ = some (.string ⟨#[]⟩) := (cell_heap n4 2).trans rfl
    have d3 : V4.cell? ⟨w3.heap.size, 3, none⟩ = some (.slice (some ⟨gf, 0, none⟩) 1 cf) := (cell_heap n4 3).trans rfl
    have d4 : V4.cell? ⟨w3.heap.size, 4, none⟩ = some (.bool false) := (cell_heap n4 4).trans rfl
    have r0 : V4.cell? ⟨W.heap.size, 0, none⟩ = some (.int .i64 0) := (cell_heap r4 0).trans rfl
    have r1 : V4.cell? ⟨W.heap.size, 1, none⟩ = some (.string ⟨#[]⟩) := (cell_heap r4 1).trans rfl
    have r2 : V4.cell? ⟨W.heap.size, 2, none⟩ = some (.string ⟨#[]⟩) := (cell_heap r4 2).trans rfl
    have r3 : V4.cell? ⟨W.heap.size, 3, none⟩ = some (.slice none 0 0) := (cell_heap r4 3).trans rfl
    have f0 := frozen_heap r4 0
    have f1 := frozen_heap r4 1
    have f2 := frozen_heap r4 2
    have f3 := frozen_heap r4 3
    have t0 : V4.setCell ⟨W.heap.size, 0, none⟩ (.int .i64 0) = V4 := set_same r4 rfl
    have t1 : V4.setCell ⟨W.heap.size, 1, none⟩ (.string ⟨#[]⟩) = V4 := set_same r4 rfl
    have t2 : V4.setCell ⟨W.heap.size, 2, none⟩ (.string ⟨#[]⟩) = V4 := set_same r4 rfl
    have nD : W.heap.size ≠ D := fun e => by rw [← e, r4] at D4; cases D4
    have D5 : (V4.setCell ⟨W.heap.size, 3, none⟩ (.slice (some ⟨gf, 0, none⟩) 1 cf)).heap[D]? = some (.deferred (some [])) := (heap_set_ne nD).trans D4
    have R5 : (V4.setCell ⟨W.heap.size, 3, none⟩ (.slice (some ⟨gf, 0, none⟩) 1 cf)).heap[W.heap.size]? = some (.cells (gotRes gf cf) 27 (0, 0)) := (heap_set r4).trans rfl
    have bW : Below W.heap.size W (V4.setCell ⟨W.heap.size, 3, none⟩ (.slice (some ⟨gf, 0, none⟩) 1 cf)) := (q6.below.trans (k4.below (fun k e => by omega) (by omega))).setCell (p := ⟨W.heap.size, 3, none⟩) (Nat.le_refl _) _
    have FIN : Hid (PlanGot W gf cf (.returned (.tuple #[.agg (gotRes gf cf), .bool true, .slice none 0 0])) ((V4.setCell ⟨W.heap.size, 3, none⟩ (.slice (some ⟨gf, 0, none⟩) 1 cf)).putObj D (.deferred none))) := Lib.hid (by
      have hg := grownBy_putObj' (V4.setCell ⟨W.heap.size, 3, none⟩ (.slice (some ⟨gf, 0, none⟩) 1 cf)) D (.deferred none)
      exact ⟨rfl, bW.grown hg (by have := bW.size; exact this) (fun r e => by cases e; omega)⟩)
    have R6 : Hid (((V4.setCell ⟨W.heap.size, 3, none⟩ (.slice (some ⟨gf, 0, none⟩) 1 cf)).putObj D (.deferred none)).heap[W.heap.size]? = some (.cells (gotRes gf cf) 27 (0, 0))) := Lib.hid (((grownBy_putObj' (V4.setCell ⟨W.heap.size, 3, none⟩ (.slice (some ⟨gf, 0, none⟩) 1 cf)) D (.deferred none)).block W.heap.size (Lg.lt_heap R5) (fun e => by
      have e' : W.heap.size = D := by first | exact Option.some.inj e | exact (Option.some.inj e).symm
      omega)).trans R5)
    have HD5 := Lib.hid D5
    have E4 := Lib.hid e4
    clear hk hz3 e4 b4 n4 k4 r4 D4 D5 R5 bW q6 hDW z6 l6 c4 AS0 nD
    gi_upto_region 9 with (fail)
    rw [← E4.out]
    gi_wp2_with (fail)
    (try simp only [Exit.inBlock, Exit.then])
    refine ⟨by simp, .inl ⟨_, _, rfl, run_takeDeferred (b := D) HD5.out, ?_⟩⟩
    refine ⟨_, results_row3 rfl _ _ W.heap.size _ _ (0, 0) _ rfl R6.out rfl rfl (by kernel_rfl), ?_⟩
    exact FIN.out
end Go.Proofs.YtifiipmmgnmciaaGreatDoor.Sv
