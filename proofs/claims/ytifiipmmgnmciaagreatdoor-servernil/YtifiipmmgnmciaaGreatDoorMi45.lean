/- Joined by mkmerged.py: SvPoll, SvSteps, SvSteps2, SvSteps3. -/
import Derived.Test.YtifiipmmgnmciaaGreatDoorMi43
import Derived.Test.YtifiipmmgnmciaaGreatDoorMi44
import Derived.Test.YtifiipmmgnmciaaGreatDoorMi36
import Derived.Test.YtifiipmmgnmciaaGreatDoorMi24
/- SvPoll, what a claim needs of it (prune.py). -/
namespace Go.Proofs.YtifiipmmgnmciaaGreatDoor.Sv
open Go.RowKit Go.Maps
open Dk (Kp)
open Ol (Ol OlAt)
set_option linter.unusedVariables false
set_option maxRecDepth 100000
abbrev noOp : Array Value := #[.string ⟨#[]⟩, .slice none 0 0, .slice none 0 0, .string ⟨#[]⟩, .int .i64 0, .int .i64 0, .string ⟨#[]⟩, .string ⟨#[]⟩, .slice none 0 0]
theorem set9 {w : World} {b : Nat} {T : TypeId} {c0 c1 c2 c3 c4 c5 c6 c7 c8 : Value} (h : w.heap[b]? = some (.cells #[c0, c1, c2, c3, c4, c5, c6, c7, c8] T (0, 0))) (v0 v1 v2 v3 v4 v5 v6 v7 v8 : Value) : (((((((((w.setCell ⟨b, 0, none⟩ v0).setCell ⟨b, 1, none⟩ v1).setCell ⟨b, 2, none⟩ v2).setCell ⟨b, 3, none⟩ v3).setCell ⟨b, 4, none⟩ v4).setCell ⟨b, 5, none⟩ v5).setCell ⟨b, 6, none⟩ v6).setCell ⟨b, 7, none⟩ v7).setCell ⟨b, 8, none⟩ v8).heap[b]? = some (.cells #[v0, v1, v2, v3, v4, v5, v6, v7, v8] T (0, 0)) := by
  have h0 := (heap_set (off := 0) (v := v0) h).trans (show _ = some (Obj.cells #[v0, c1, c2, c3, c4, c5, c6, c7, c8] T (0, 0)) from rfl)
  have h1 := (heap_set (off := 1) (v := v1) h0).trans (show _ = some (Obj.cells #[v0, v1, c2, c3, c4, c5, c6, c7, c8] T (0, 0)) from rfl)
  have h2 := (heap_set (off := 2) (v := v2) h1).trans (show _ = some (Obj.cells #[v0, v1, v2, c3, c4, c5, c6, c7, c8] T (0, 0)) from rfl)
  have h3 := (heap_set (off := 3) (v := v3) h2).trans (show _ = some (Obj.cells #[v0, v1, v2, v3, c4, c5, c6, c7, c8] T (0, 0)) from rfl)
  have h4 := (heap_set (off := 4) (v := v4) h3).trans (show _ = some (Obj.cells #[v0, v1, v2, v3, v4, c5, c6, c7, c8] T (0, 0)) from rfl)
  have h5 := (heap_set (off := 5) (v := v5) h4).trans (show _ = some (Obj.cells #[v0, v1, v2, v3, v4, v5, c6, c7, c8] T (0, 0)) from rfl)
  have h6 := (heap_set (off := 6) (v := v6) h5).trans (show _ = some (Obj.cells #[v0, v1, v2, v3, v4, v5, v6, c7, c8] T (0, 0)) from rfl)
  have h7 := (heap_set (off := 7) (v := v7) h6).trans (show _ = some (Obj.cells #[v0, v1, v2, v3, v4, v5, v6, v7, c8] T (0, 0)) from rfl)
  have h8 := (heap_set (off := 8) (v := v8) h7).trans (show _ = some (Obj.cells #[v0, v1, v2, v3, v4, v5, v6, v7, v8] T (0, 0)) from rfl)
  exact h8
def PollSays (W : World) (x : Ol.Op) (e : Ending) (w' : World) : Prop := (∃ Ag cg Af cf Ar cr, e = .returned (.tuple #[.agg (xC x Ag cg Af cf Ar cr), .int .i64 0])) ∧ Below W.heap.size W w'
set_option maxHeartbeats 2000000 in
theorem spoll_any (W : World) (bs bo sc cb mk : Nat) (clock : Int) (x : Ol.Op) (s : ByteArray) (h : SB W bs bo sc cb mk clock)
    (hli : ∀ V, Below W.heap.size W V → Calls Tryz.prog 15 #[.pointer (some ⟨bo, 0, none⟩)] V fun e w' => ∃ A c, e = .returned (.slice A 1 c) ∧ Below V.heap.size V w' ∧
      Calls Tryz.prog 14 #[.slice A 1 c, .string s] w' fun e w'' => (∃ Ag cg Af cf Ar cr, e = .returned (.tuple #[.agg (xC x Ag cg Af cf Ar cr), .bool true])) ∧ Below w'.heap.size w' w'') :
    Calls Tryz.prog 4 #[.pointer (some ⟨bs, 0, none⟩), .string s] W (PollSays W x) := by
  obtain ⟨W0, e0⟩ : ∃ W0, W0 = W.alloc (.cells noOp 29) := ⟨_, rfl⟩
  have B0 : Below W.heap.size W W0 := by rw [e0]; exact (Below.refl _ _).alloc (Nat.le_refl _) _
  have z0 : W0.heap[W.heap.size]? = some (.cells noOp 29 (0, 0)) := by rw [e0]; exact heap_alloc_new _ _
  have hs0 : W0.heap.size = W.heap.size + 1 := by rw [e0]; simp
  have c0 : W0.cell? ⟨bs, 0, none⟩ = some (.pointer (some ⟨bo, 0, none⟩)) := (cell_heap (h.below B0) 0).trans rfl
  have LI := Lib.hid (hli W0 B0)
  have FN : Hid (∀ w1 w2 Ag cg Af cf Ar cr, Below W0.heap.size W0 w1 → Below w1.heap.size w1 w2 → ∃ W3, W3 = w2.alloc (.cells (xC x Ag cg Af cf Ar cr) 29) ∧ W3.heap[w2.heap.size]? = some (.cells (xC x Ag cg Af cf Ar cr) 29 (0, 0)) ∧ W3.heap[W.heap.size]? = some (.cells noOp 29 (0, 0)) ∧ Below W.heap.size W W3) := Lib.hid fun w1 w2 Ag cg Af cf Ar cr h1 h2 => by
    have b2 : Below W0.heap.size W0 w2 := h1.trans (h2.mono h1.size)
    have b3 : Below W0.heap.size W0 (w2.alloc (.cells (xC x Ag cg Af cf Ar cr) 29)) := b2.alloc b2.size _
    exact ⟨_, rfl, heap_alloc_new _ _, (b3.block _ (by omega)).trans z0, B0.trans (b3.mono B0.size)⟩
  clear h hli B0 z0 hs0
  go_enter Tryz.func4, Tryz.ntmps4
  go_upto_region 3 with (fail)
  rw [← e0]
  clear e0
  go_upto_region 6 with (first
    | (go_at_call 15; (with_reducible refine (LI.out).mono ?_); rintro e w1 ⟨A, c, rfl, hb1, hF⟩; have HB1 := Lib.hid hb1; have FI := Lib.hid hF; clear hb1 hF)
    | (go_at_call 14; (with_reducible refine (FI.out).mono ?_); rintro e w2 ⟨⟨Ag, cg, Af, cf, Ar, cr, rfl⟩, hb2⟩; have HB2 := Lib.hid hb2; clear hb2))
  obtain ⟨W3, e3, z3, y3, B3⟩ := FN.out w1 w2 Ag cg Af cf Ar cr HB1.out HB2.out
  rw [← e3]
  have q0 : W3.cell? ⟨w2.heap.size, 0, none⟩ = some (.string x.n) := (cell_heap z3 0).trans rfl
  have q1 : W3.cell? ⟨w2.heap.size, 1, none⟩ = some (.slice Ag x.gr.length cg) := (cell_heap z3 1).trans rfl
  have q2 : W3.cell? ⟨w2.heap.size, 2, none⟩ = some (.slice Af x.sn.length cf) := (cell_heap z3 2).trans rfl
  have q3 : W3.cell? ⟨w2.heap.size, 3, none⟩ = some (.string x.go) := (cell_heap z3 3).trans rfl
  have q4 : W3.cell? ⟨w2.heap.size, 4, none⟩ = some (.int .i64 x.st) := (cell_heap z3 4).trans rfl
  have q5 : W3.cell? ⟨w2.heap.size, 5, none⟩ = some (.int .i64 x.r.e) := (cell_heap z3 5).trans rfl
  have q6 : W3.cell? ⟨w2.heap.size, 6, none⟩ = some (.string x.r.at_) := (cell_heap z3 6).trans rfl
  have q7 : W3.cell? ⟨w2.heap.size, 7, none⟩ = some (.string x.r.tx) := (cell_heap z3 7).trans rfl
  have q8 : W3.cell? ⟨w2.heap.size, 8, none⟩ = some (.slice Ar x.r.fs.length cr) := (cell_heap z3 8).trans rfl
  have y0 := cell_heap y3 0
  have y1 := cell_heap y3 1
  have y2 := cell_heap y3 2
  have y3' := cell_heap y3 3
  have y4 := cell_heap y3 4
  have y5 := cell_heap y3 5
  have y6 := cell_heap y3 6
  have y7 := cell_heap y3 7
  have y8 := cell_heap y3 8
  have f0 := frozen_heap y3 0
  have f1 := frozen_heap y3 1
  have f2 := frozen_heap y3 2
  have f3 := frozen_heap y3 3
  have f4 := frozen_heap y3 4
  have f5 := frozen_heap y3 5
  have f6 := frozen_heap y3 6
  have f7 := frozen_heap y3 7
  have f8 := frozen_heap y3 8
  obtain ⟨W4, e4⟩ : ∃ W4, W4 = ((((((((W3.setCell ⟨W.heap.size, 0, none⟩ (.string x.n)).setCell ⟨W.heap.size, 1, none⟩ (.slice Ag x.gr.length cg)).setCell ⟨W.heap.size, 2, none⟩ (.slice Af x.sn.length cf)).setCell ⟨W.heap.size, 3, none⟩ (.string x.go)).setCell ⟨W.heap.size, 4, none⟩ (.int .i64 x.st)).setCell ⟨W.heap.size, 5, none⟩ (.int .i64 x.r.e)).setCell ⟨W.heap.size, 6, none⟩ (.string x.r.at_)).setCell ⟨W.heap.size, 7, none⟩ (.string x.r.tx)).setCell ⟨W.heap.size, 8, none⟩ (.slice Ar x.r.fs.length cr) := ⟨_, rfl⟩
  have Z4 : Hid (W4.heap[W.heap.size]? = some (.cells (xC x Ag cg Af cf Ar cr) 29 (0, 0))) := Lib.hid (by
    rw [e4]
    exact set9 y3 _ _ _ _ _ _ _ _ _)
  have B4 : Hid (Below W.heap.size W W4) := Lib.hid (by
    rw [e4]
    exact ((((((((B3.setCell (p := ⟨W.heap.size, 0, none⟩) (Nat.le_refl _) _).setCell (p := ⟨W.heap.size, 1, none⟩) (Nat.le_refl _) _).setCell (p := ⟨W.heap.size, 2, none⟩) (Nat.le_refl _) _).setCell (p := ⟨W.heap.size, 3, none⟩) (Nat.le_refl _) _).setCell (p := ⟨W.heap.size, 4, none⟩) (Nat.le_refl _) _).setCell (p := ⟨W.heap.size, 5, none⟩) (Nat.le_refl _) _).setCell (p := ⟨W.heap.size, 6, none⟩) (Nat.le_refl _) _).setCell (p := ⟨W.heap.size, 7, none⟩) (Nat.le_refl _) _).setCell (p := ⟨W.heap.size, 8, none⟩) (Nat.le_refl _) _)
  have E4 := Lib.hid e4
  clear z3 y3 B3 e3 e4 FN
  go_wp2_with (fail)
  rw [← E4.out]
  refine bodyPost_ret_by (Lg.results_cell_row2 rfl _ _ W.heap.size 29 _ (0, 0) _ rfl Z4.out rfl rfl (by kernel_rfl)) rfl ?_
  exact ⟨⟨Ag, cg, Af, cf, Ar, cr, rfl⟩, B4.out⟩
end Go.Proofs.YtifiipmmgnmciaaGreatDoor.Sv
/- SvSteps, what a claim needs of it (prune.py). -/
namespace Go.Proofs.YtifiipmmgnmciaaGreatDoor.Sv
open Go.RowKit Go.Maps
open Dk (Kp)
open Ol (Ol OlAt OlS St)
open Ops (Parts)
set_option linter.unusedVariables false
set_option maxRecDepth 100000
theorem ols_kp {w W V w' : World} {bo bl bd m nn n0 : Nat} {o : Ol} (lo : Lo w bo bl bd m n0) (hV : Below W.heap.size W V) (h : DidS w V bo bl bd m nn o w') : Kp (OlS bo bl bd m) W w' ∧ ∀ j, OlS bo bl bd m j → ¬ (n0 ≤ j ∧ j ≤ n0 + 9) :=
  ⟨(Kp.of_below hV).trans h.2, fun j hj => by have := lo.ols j hj; omega⟩
theorem Env.later {W V : World} {TG As Ad At : Option Addr} {tc cs cd ct : Nat} {s n c K : ByteArray} (h : Env W TG As Ad At tc cs cd ct s n c K) (hV : Below W.heap.size W V) : Env V TG As Ad At tc cs cd ct s n c K :=
  ⟨fun U hU => h.find U (hV.trans (hU.mono hV.size)), fun U hU => h.check U (hV.trans (hU.mono hV.size)), fun U hU => h.files U (hV.trans (hU.mono hV.size)), fun U hU => h.act U (hV.trans (hU.mono hV.size))⟩
theorem step_submit (b : Bool) (w : World) (hE : Lg.Env w) (W : World) (bo bl bd m n0 nn : Nat) (lo : Lo w bo bl bd m n0) (hn : nn ≤ 40) (h : St w W bo bl bd m nn (q0 100000)) (ho : Ow W n0 bo 0 0 0 0 0 0 NoM NoM NoM NoM NoM) (hq : QB W n0 0 none 0 0) (g : Nat) (hp : Parts W (oneS b 0 Ops.zeroR) (some ⟨g, 0, none⟩) 1 none 0 none 0) :
    Calls Tryz.prog 6 #[.pointer (some ⟨n0 + 9, 0, none⟩), .agg (opC ⟨#[97]⟩ (some ⟨g, 0, none⟩) 1 1 none 0 0 ⟨#[116]⟩ 0 0 ⟨#[]⟩ ⟨#[]⟩ none 0 0)] W fun e w' => e = .returned (.int .i64 0) ∧ St w w' bo bl bd m (nn + 2) (q1 b 100000) ∧ Ow w' n0 bo 0 0 0 0 0 0 NoM NoM NoM NoM NoM ∧ QB w' n0 0 none 0 0 := by
  refine (ssubmit_any (fun V w' => DidS w V bo bl bd m nn (q1 b 100000) w') W (n0 + 9) bo (n0 + 5) (n0 + 7) (n0 + 8) 0 _ _ 1 1 none 0 0 _ 0 0 _ _ none 0 0 ho.sb (fun V hV => do_1 b w hE V bo bl bd m nn (h.below hV) (by omega) _ _ _ _ _ _ (hp.below hV))).mono ?_
  rintro e w' ⟨rfl, V, hV, hd⟩
  obtain ⟨K, hS⟩ := ols_kp lo hV hd
  exact ⟨rfl, hd.1, ho.kp K hS, (K.block n0 (by have := ho.size; omega) (fun e => hS _ e ⟨Nat.le_refl _, by omega⟩)).trans hq⟩
theorem step_turn1 (b : Bool) (w : World) (hE : Lg.Env w) (W : World) (bo bl bd m n0 nn : Nat) (lo : Lo w bo bl bd m n0) (hn : nn ≤ 40) (h : St w W bo bl bd m nn (q1 b 100000)) (ho : Ow W n0 bo 0 0 0 0 0 0 NoM NoM NoM NoM NoM) (hq : QB W n0 0 none 0 0) :
    Calls Tryz.prog 11 #[.pointer (some ⟨n0 + 9, 0, none⟩)] W fun e w' => e = .returned (.int .i64 0) ∧ St w w' bo bl bd m (nn + 2) (q2 b 100000) ∧ Ow w' n0 bo 0 0 0 0 1 0 NoM NoM NoM NoM NoM ∧ QB w' n0 0 none 0 0 := by
  refine turn_do (fun w' => ∃ V, Below W.heap.size W V ∧ DidS w V bo bl bd m nn (q2 b 100000) w') _ W (n0 + 9) bo (n0 + 5) (n0 + 7) (n0 + 8) 0 (oneS b 1 Ops.zeroR) rfl ho.sb (by omega) (plist_one W bo bl bd m nn (q1 b 100000) (oneS b 1 Ops.zeroR) h.at_ rfl) ?_ ?_
  · intro V Ag cg Af cf Ar cr hV hp
    refine (sdo_any (fun V2 w' => DidS w V2 bo bl bd m nn (q2 b 100000) w') V (n0 + 9) bo (n0 + 5) (n0 + 7) (n0 + 8) 0 2 ⟨#[97]⟩ Ag 1 cg Af 0 cf ⟨#[116]⟩ 1 0 ⟨#[]⟩ ⟨#[]⟩ Ar 0 cr (ho.sb.below hV) (fun V2 hV2 => do_2 b w hE V2 bo bl bd m nn ((h.below hV).below hV2) (by omega) _ _ _ _ _ _ (hp.below hV2))).mono ?_
    rintro e w' ⟨rfl, V2, hV2, hd⟩
    exact ⟨rfl, V2, hV.trans (hV2.mono hV.size), hd⟩
  · rintro w' ⟨V, hV, hd⟩
    obtain ⟨K, hS⟩ := ols_kp lo hV hd
    obtain ⟨t1, t2⟩ := tick_ow w w' bo bl bd m n0 (nn + 2) 0 0 0 0 0 0 NoM NoM NoM NoM (q2 b 100000) lo hd.1 (bare1 b 2 _) (ho.kp K hS) (by omega)
    refine ⟨t1, t2.mono ?_⟩
    rintro e w'' ⟨rfl, h1, h2, h3⟩
    have hz := ho.size
    have hq1 : QB w' n0 0 none 0 0 := (K.block n0 (by omega) (fun e => hS _ e ⟨Nat.le_refl _, by omega⟩)).trans hq
    exact ⟨rfl, h1, h2, (h3.block n0 (Lg.lt_heap hq1) (by omega)).trans hq1⟩
def Waits (W : World) (n0 bo : Nat) (b : Bool) (k : Nat) (clk : Int) (rows : ByteArray → Option Value) : Prop := Ow W n0 bo k 0 1 0 clk 0 rows (Mv.putM NoM (KS b) (.bool true)) NoM NoM (Mv.putM NoM (KS b) (taskV (KS b) (cmdS b))) ∧ ∃ gq, Q1 W n0 gq (KS b)
theorem Waits.kp9 {W V : World} {n0 bo k : Nat} {b : Bool} {clk : Int} {rows : ByteArray → Option Value} {gq : Nat} (hb : W.heap[n0 + 9]? = V.heap[n0 + 9]? ∨ True) (h : Q1 W n0 gq (KS b)) (ho : SB W (n0 + 9) bo (n0 + 5) (n0 + 7) (n0 + 8) clk) (hk : Kp (fun j => j = n0 + 9) W V) : Q1 V n0 gq (KS b) := by
  obtain ⟨l1, l2⟩ := h.lt
  have hne : gq ≠ n0 + 9 := fun e => by
    obtain ⟨c, cs, _, h2, _⟩ := h
    have h3 : W.heap[n0 + 9]? = _ := ho
    rw [e, h3] at h2
    injection h2 with h2
    injection h2 with _ h2 _
    exact absurd h2 (by decide)
  exact h.keep (hk.block _ l1 (by omega)) (hk.block _ l2 hne)
theorem step_turn2 (b : Bool) (w : World) (hE : Lg.Env w) (W : World) (bo bl bd m n0 nn : Nat) (lo : Lo w bo bl bd m n0) (hn : nn ≤ 40) (h : St w W bo bl bd m nn (q2 b 100000)) (ho : Ow W n0 bo 0 0 0 0 1 0 NoM NoM NoM NoM NoM) (hq : QB W n0 0 none 0 0) :
    Calls Tryz.prog 11 #[.pointer (some ⟨n0 + 9, 0, none⟩)] W fun e w' => e = .returned (.int .i64 0) ∧ St w w' bo bl bd m nn (q2 b 100000) ∧ Waits w' n0 bo b 1 2 NoM := by
  refine turn_goes (fun w' => ∃ V, Below W.heap.size W V ∧ GoNew V (sbN n0) (n0 + 8) (KS b) (cmdS b) (.returned (.int .i64 0)) w') _ W (n0 + 9) bo (n0 + 5) (n0 + 7) (n0 + 8) 1 (oneS b 2 Ops.zeroR) rfl ho.sb (by omega) (plist_one W bo bl bd m nn (q2 b 100000) (oneS b 2 Ops.zeroR) h.at_ rfl) ?_ ?_
  · intro V Ag cg Af cf Ar cr hV hp
    obtain ⟨ad, Ad, cd, At, ct, rfl, hen⟩ := env_of b V (hE.below (h.bw.trans (hV.mono h.bw.size))) Ag Af cg cf hp.g hp.gc
    have hoV := ho.below hV
    have hqV : QB V n0 0 none 0 0 := (hV.block _ (Lg.lt_heap hq)).trans hq
    refine (goes_new V (sbN n0) (n0 + 9) bo (n0 + 7) (n0 + 8) (KS b) (cmdS b) ⟨#[97]⟩ ⟨#[116]⟩ (some ad) Af cg cf ⟨#[]⟩ ⟨#[]⟩ Ar 0 cr 2 0 hoV.sb hoV.sc hqV hoV.tm (KS_size b) ⟨by omega, by show n0 + 8 ≠ n0 + 5; omega, by show n0 + 8 ≠ n0; omega, by show n0 + 8 ≠ n0 + 2; omega, by show n0 + 8 ≠ n0 + 3; omega, by show n0 + 8 ≠ n0 + 4; omega, by show n0 + 8 ≠ n0 + 1; omega⟩ ?_ ?_).mono ?_
    · exact fun U hU => known_none U (n0 + 9) bo (n0 + 5) (n0 + 7) (n0 + 8) (n0 + 6) 0 1 0 (hoV.below hU).sb (hoV.below hU).cb (hoV.below hU).cm (by omega)
    · exact fun U hU => plan_new U (some ad) Af Ad At cg cf cd ct ⟨#[116]⟩ ⟨#[116]⟩ (cmdS b) (KS b) (by unfold maxLen; decide) (KS_size b) (hen.later hU)
    · rintro e w' hg
      have h0 := hg.1
      subst h0
      exact ⟨rfl, V, hV, hg⟩
  · rintro w' ⟨V, hV, _, g1, ⟨gq, g2⟩, g3, g4⟩
    have hz := ho.size
    have K : Kp (fun j => j = n0 + 8 ∨ j = n0 ∨ j = n0 + 4) W w' := (Kp.of_below hV).trans g4
    have h1 : St w w' bo bl bd m nn (q2 b 100000) := St.kpS h lo K (fun j hj => by rcases hj with rfl | rfl | rfl <;> exact ⟨ho.noS _ (by omega) (by omega), by omega⟩) (bare1 b 2 _)
    have hk : ∀ j, n0 ≤ j → j ≤ n0 + 9 → j ≠ n0 + 8 → j ≠ n0 → j ≠ n0 + 4 → w'.heap[j]? = W.heap[j]? := fun j a1 a2 a3 a4 a5 => K.block j (by omega) (fun e => by rcases e with e | e | e <;> omega)
    have o1 : Ow w' n0 bo 1 0 1 0 1 0 NoM (Mv.putM NoM (KS b) (.bool true)) NoM NoM (Mv.putM NoM (KS b) (taskV (KS b) (cmdS b))) := by
      obtain ⟨c, cs, x1, _⟩ := g2
      exact ⟨g3, ⟨_, _, _, _, x1⟩, ho.cm.keep (hk _ (by omega) (by omega) (by omega) (by omega) (by omega)), ho.cb.keep (hk _ (by omega) (by omega) (by omega) (by omega) (by omega)), g1, ho.sb.keep (hk _ (by omega) (by omega) (by omega) (by omega) (by omega))⟩
    obtain ⟨t1, t2⟩ := tick_ow w w' bo bl bd m n0 nn 1 0 1 0 0 1 NoM (Mv.putM NoM (KS b) (.bool true)) NoM (Mv.putM NoM (KS b) (taskV (KS b) (cmdS b))) (q2 b 100000) lo h1 (bare1 b 2 _) o1 (by omega)
    refine ⟨t1, t2.mono ?_⟩
    rintro e w'' ⟨rfl, h2, h3, h4⟩
    exact ⟨rfl, h2, h3, gq, Waits.kp9 (V := w'') (rows := NoM) (k := 0) (.inr trivial) g2 o1.sb h4⟩
end Go.Proofs.YtifiipmmgnmciaaGreatDoor.Sv
/- SvSteps2, what a claim needs of it (prune.py). -/
namespace Go.Proofs.YtifiipmmgnmciaaGreatDoor.Sv
open Go.RowKit Go.Maps
open Dk (Kp)
open Ol (Ol OlAt OlS St)
open Ops (Parts)
set_option linter.unusedVariables false
set_option maxRecDepth 100000
abbrev wkS : ByteArray := ⟨#[119]⟩
def FileAt (b : Bool) (V : World) (g : Nat) : Prop := ∃ cs, V.heap[g]? = some (.cells cs 203 (0, 0)) ∧ cs[0]? = some (.string (pathS b)) ∧ cs[1]? = some (.string (dataS b))
theorem FileAt.keep {b : Bool} (V V' : World) (g : Nat) (h : FileAt b V g) (e : V'.heap[g]? = V.heap[g]?) : FileAt b V' g := by
  obtain ⟨cs, h1, h2⟩ := h
  exact ⟨cs, e.trans h1, h2⟩
theorem FileAt.fls {b : Bool} {V : World} {g : Nat} (h : FileAt b V g) : Fs.Fls V (some ⟨g, 0, none⟩) (resS b).fs := by
  obtain ⟨cs, h1, h2, h3⟩ := h
  refine ⟨rfl, fun _ => ⟨_, rfl, Lg.lt_heap h1, fun j v hj => ?_⟩⟩
  rw [Lg.add_eq, cell_heap h1]
  match j, hj with
  | 0, hj => cases hj; exact h2
  | 1, hj => cases hj; exact h3
  | j + 2, hj => cases hj
theorem step_join (b : Bool) (w : World) (W : World) (bo bl bd m n0 nn : Nat) (lo : Lo w bo bl bd m n0) (h : St w W bo bl bd m nn (q2 b 100000)) (hw : Waits W n0 bo b 1 2 NoM) :
    Calls Tryz.prog 9 #[.pointer (some ⟨n0 + 9, 0, none⟩), .string wkS] W fun e w' => e = .returned (.int .i64 0) ∧ St w w' bo bl bd m nn (q2 b 100000) ∧ Waits w' n0 bo b 2 2 (rowM wkS none 0) := by
  obtain ⟨ho, gq, hq⟩ := hw
  refine sjoinS_any (fun w' => St w w' bo bl bd m nn (q2 b 100000) ∧ Waits w' n0 bo b 2 2 (rowM wkS none 0)) W (n0 + 9) bo (n0 + 5) (n0 + 7) (n0 + 8) 2 wkS ho.sb ((sjoin_any W (sbN n0) 1 wkS _ NoM ho.sc (by omega) (by show (1 : Nat) ≤ 1000000000; omega) (by kernel_rfl)).mono ?_)
  rintro e w' ⟨rfl, hs, hk⟩
  have hk' : Kp (fun j => j = n0 + 3) W w' := hk
  have hz := ho.size
  have kb : ∀ j, n0 ≤ j → j ≤ n0 + 9 → j ≠ n0 + 3 → w'.heap[j]? = W.heap[j]? := fun j a1 a2 a3 => hk'.block j (by omega) a3
  obtain ⟨l1, l2⟩ := hq.lt
  have hne : gq ≠ n0 + 3 := fun e => by
    obtain ⟨c, cs, _, h2, h3, _⟩ := hq
    have hc : W.cell? ⟨gq, 0, none⟩ = some (.string (KS b)) := (cell_heap h2 0).trans (h3 0 _ rfl)
    exact ho.sc.rows.nocell hc e
  have q1 : Q1 w' n0 gq (KS b) := hq.keep (hk'.block _ l1 (by omega)) (hk'.block _ l2 hne)
  refine ⟨rfl, St.kpS h lo hk' (fun j hj => by subst hj; exact ⟨ho.noS _ (by omega) (by omega), by omega⟩) (bare1 b 2 _), ⟨hs, ?_, ho.cm.keep (kb _ (by omega) (by omega) (by omega)), ho.cb.keep (kb _ (by omega) (by omega) (by omega)), ho.tm.keep (kb _ (by omega) (by omega) (by omega)), ho.sb.keep (kb _ (by omega) (by omega) (by omega))⟩, gq, q1⟩
  obtain ⟨c, cs, x1, _⟩ := q1
  exact ⟨_, _, _, _, x1⟩
def Goes (W : World) (n0 bo : Nat) (b : Bool) : Prop := ∃ A c, Ow W n0 bo 5 0 1 1 2 0 (rowM wkS A c) (Mv.putM NoM (KS b) (.bool true)) (Mv.putM NoM (KS b) (leaseV (KS b) wkS)) NoM (Mv.putM NoM (KS b) (taskV (KS b) (cmdS b)))
theorem step_next (b : Bool) (w : World) (W : World) (bo bl bd m n0 nn : Nat) (lo : Lo w bo bl bd m n0) (h : St w W bo bl bd m nn (q2 b 100000)) (hw : Waits W n0 bo b 2 2 (rowM wkS none 0)) :
    Calls Tryz.prog 5 #[.pointer (some ⟨n0 + 9, 0, none⟩), .string wkS] W fun e w' => e = .returned (.tuple #[.agg (goTask (KS b) (cmdS b)), .int .i64 0]) ∧ St w w' bo bl bd m nn (q2 b 100000) ∧ Goes w' n0 bo b := by
  obtain ⟨ho, gq, hq⟩ := hw
  have hS : ∀ j, ScS (sbN n0) j → j = n0 ∨ j = n0 + 2 ∨ j = n0 + 3 ∨ j = n0 + 4 ∨ j = n0 + 1 := fun j hj => hj
  refine (snextS W (sbN n0) 2 gq 1 (n0 + 9) bo (n0 + 7) (n0 + 8) (KS b) wkS (cmdS b) _ ho.sb ho.sc hq ho.tm (by omega) (KS_size b) (by show (1 : Nat) ≤ 1000000000; omega) (by kernel_rfl) (fun j hj => by have := hS j hj; omega)).mono ?_
  rintro e w' ⟨rfl, ⟨A, c, hs⟩, hq0, hk⟩
  have hz := ho.size
  have kb : ∀ j, n0 + 6 ≤ j → j ≤ n0 + 9 → w'.heap[j]? = W.heap[j]? := fun j a1 a2 => hk.block j (by omega) (fun e => by have := hS j e; omega)
  refine ⟨rfl, St.kpS h lo hk (fun j hj => by have := hS j hj; exact ⟨ho.noS _ (by omega) (by omega), by omega⟩) (bare1 b 2 _), A, c, ⟨hs, ?_, ho.cm.keep (kb _ (by omega) (by omega)), ho.cb.keep (kb _ (by omega) (by omega)), ho.tm.keep (kb _ (by omega) (by omega)), ho.sb.keep (kb _ (by omega) (by omega))⟩⟩
  obtain ⟨A', c', x1⟩ := hq0
  exact ⟨_, _, _, _, x1⟩
def Knows (W : World) (n0 bo : Nat) (b : Bool) (th gf cf : Nat) : Prop := (∃ A c, Ow W n0 bo 5 1 1 1 2 1 (rowM wkS A c) NoM NoM (oneM (KS b) th) (Mv.putM NoM (KS b) (taskV (KS b) (cmdS b)))) ∧ TH W th gf cf 1 ∧ n0 + 10 ≤ th ∧ FileAt b W gf ∧ 1 ≤ cf
theorem step_report (b : Bool) (w : World) (W : World) (bo bl bd m n0 nn : Nat) (lo : Lo w bo bl bd m n0) (h : St w W bo bl bd m nn (q2 b 100000)) (hg : Goes W n0 bo b) (gf cf : Nat) (hf : FileAt b W gf) (hcf : 1 ≤ cf) :
    Calls Tryz.prog 12 #[.pointer (some ⟨n0 + 9, 0, none⟩), .agg (repC (KS b) gf cf)] W fun e w' => e = .returned (.int .i64 0) ∧ St w w' bo bl bd m nn (q2 b 100000) ∧ (∃ th, W.heap.size ≤ th ∧ Knows w' n0 bo b th gf cf) ∧ Kp (fun j => j < n0 + 10) W w' := by
  obtain ⟨A, c, ho⟩ := hg
  have hz := ho.size
  refine (sreport W (sbN n0) 5 0 (n0 + 9) bo (n0 + 7) (n0 + 6) (n0 + 8) gf cf 2 (KS b) wkS _ ho.sb ho.sc ho.cb ho.cm (KS_size b) (by omega) ⟨by show n0 + 4 ≠ n0 + 7; omega, by show n0 + 4 ≠ n0 + 6; omega, by show n0 + 1 ≠ n0 + 7; omega, by show n0 + 1 ≠ n0 + 6; omega, by show n0 + 9 ≠ n0 + 4; omega, by show n0 + 9 ≠ n0 + 1; omega⟩ (fun j hj => ⟨by show j ≠ n0 + 5; omega, by show j ≠ n0 + 2; omega, by show j ≠ n0 + 3; omega, by show j ≠ n0 + 4; omega, by show j ≠ n0 + 1; omega⟩)).mono ?_
  rintro e w' ⟨rfl, hs, ⟨th, t1, t2, t3⟩, hc, hk⟩
  have hk' : Kp (fun j => j = n0 + 4 ∨ j = n0 + 1 ∨ j = n0 + 7 ∨ j = n0 + 6) W w' := hk
  have kb : ∀ j, n0 ≤ j → j ≤ n0 + 9 → j ≠ n0 + 4 → j ≠ n0 + 1 → j ≠ n0 + 7 → j ≠ n0 + 6 → w'.heap[j]? = W.heap[j]? := fun j a1 a2 a3 a4 a5 a6 => hk'.block j (by omega) (by omega)
  have hgf : ¬ (gf = n0 + 4 ∨ gf = n0 + 1 ∨ gf = n0 + 7 ∨ gf = n0 + 6) := fun e => by
    obtain ⟨cs, f1, f2, f3⟩ := hf
    have hcell : W.cell? ⟨gf, 0, none⟩ = some (.string (pathS b)) := (cell_heap f1 0).trans f2
    rcases e with e | e | e | e
    · exact ho.sc.there.nocell hcell e
    · exact ho.sc.lease.nocell hcell e
    · have h3 : W.heap[n0 + 7]? = _ := ho.cb
      rw [e, h3] at f1
      injection f1 with f1
      injection f1 with _ f1 _
      exact absurd f1 (by decide)
    · exact ho.cm.nocell hcell e
  have hlf : gf < W.heap.size := by obtain ⟨cs, f1, _⟩ := hf; exact Lg.lt_heap f1
  refine ⟨rfl, St.kpS h lo hk' (fun j hj => ⟨ho.noS _ (by omega) (by omega), by omega⟩) (bare1 b 2 _), ⟨th, t1, ⟨A, c, ⟨hs, ?_, t3, hc, ho.tm.keep (kb _ (by omega) (by omega) (by omega) (by omega) (by omega) (by omega)), ho.sb.keep (kb _ (by omega) (by omega) (by omega) (by omega) (by omega) (by omega))⟩⟩, t2, by omega, hf.keep _ _ _ (hk'.block _ hlf hgf), hcf⟩, hk'.mono (fun j hj => by omega)⟩
  obtain ⟨nth, A', n', c', x1⟩ := ho.q
  exact ⟨nth, A', n', c', (kb n0 (by omega) (by omega) (by omega) (by omega) (by omega) (by omega)).trans x1⟩
end Go.Proofs.YtifiipmmgnmciaaGreatDoor.Sv
/- SvSteps3, what a claim needs of it (prune.py). -/
namespace Go.Proofs.YtifiipmmgnmciaaGreatDoor.Sv
open Go.RowKit Go.Maps
open Dk (Kp)
open Ol (Ol OlAt OlS St)
open Ops (Parts)
set_option linter.unusedVariables false
set_option maxRecDepth 100000
theorem noS_th {V : World} {th gf cf : Nat} {k : Int} (h : TH V th gf cf k) : NoS V th := noS_cells h (fun j s v e e2 => by
  match j, e, e2 with
  | 0, e, _ => cases e
  | 1, e, _ => cases e
  | 2, _, e2 => cases e2; rintro (⟨_, h⟩ | ⟨_, _, _, h⟩) <;> cases h
  | 3, e, _ => cases e
  | 4, _, e2 => cases e2; rintro (⟨_, h⟩ | ⟨_, _, _, h⟩) <;> cases h
  | 5, e, _ => cases e
  | 6, e, _ => cases e
  | 7, e, _ => cases e
  | j + 8, e, _ => cases e)
def Ended (w W : World) (bo bl bd m n0 nn : Nat) (b : Bool) : Prop := St w W bo bl bd m nn (q3 b 100000) ∧ SB W (n0 + 9) bo (n0 + 5) (n0 + 7) (n0 + 8) 3
set_option maxHeartbeats 1000000 in
theorem step_turn3 (b : Bool) (w : World) (hE : Lg.Env w) (W : World) (bo bl bd m n0 nn : Nat) (lo : Lo w bo bl bd m n0) (hn : nn ≤ 40) (th gf cf : Nat) (h : St w W bo bl bd m nn (q2 b 100000)) (hkn : Knows W n0 bo b th gf cf) :
    Calls Tryz.prog 11 #[.pointer (some ⟨n0 + 9, 0, none⟩)] W fun e w' => e = .returned (.int .i64 0) ∧ Ended w w' bo bl bd m n0 (nn + 2) b ∧ Kp (fun j => j < n0 + 10 ∨ j = th) W w' := by
  obtain ⟨⟨A, c, ho⟩, ht, hth, hf, hcf⟩ := hkn
  have hz := ho.size
  have hlt := Lg.lt_heap ht
  have hgf : gf ≠ n0 + 7 ∧ gf ≠ th := by
    obtain ⟨cs, f1, f2, f3⟩ := hf
    refine ⟨fun e => ?_, fun e => ?_⟩
    · have h3 : W.heap[n0 + 7]? = _ := ho.cb
      rw [e, h3] at f1
      injection f1 with f1
      injection f1 with _ f1 _
      exact absurd f1 (by decide)
    · have h3 : W.heap[th]? = _ := ht
      rw [e, h3] at f1
      injection f1 with f1
      injection f1 with _ f1 _
      exact absurd f1 (by decide)
  have hlf : gf < W.heap.size := by obtain ⟨cs, f1, _⟩ := hf; exact Lg.lt_heap f1
  refine turn_goes (fun w' => ∃ V V2 V3, Below W.heap.size W V ∧ Kp (fun j => j = n0 + 7 ∨ j = th) V V2 ∧ CB V2 (n0 + 7) (n0 + 6) 2 ∧ Below V2.heap.size V2 V3 ∧ DidS w V3 bo bl bd m nn (q3 b 100000) w') _ W (n0 + 9) bo (n0 + 5) (n0 + 7) (n0 + 8) 2 (oneS b 2 Ops.zeroR) rfl ho.sb (by omega) (plist_one W bo bl bd m nn (q2 b 100000) (oneS b 2 Ops.zeroR) h.at_ rfl) ?_ ?_
  · intro V Ag cg Af cf' Ar cr hV hp
    have hoV := ho.below hV
    have htV : TH V th gf cf 1 := (hV.block _ hlt).trans ht
    have hSV : ∀ j, (j = n0 + 7 ∨ j = th) → NoS V j ∧ n0 ≤ j := fun j hj => by
      rcases hj with rfl | rfl
      · exact ⟨hoV.noS _ (by omega) (by omega), by omega⟩
      · exact ⟨noS_th htV, by omega⟩
    have S2 : ∀ V2, Kp (fun j => j = n0 + 7 ∨ j = th) V V2 → St w V2 bo bl bd m nn (q2 b 100000) ∧ Tgs V2 V2.heap.size Ag [tS b] ∧ FileAt b V2 gf ∧ SB V2 (n0 + 9) bo (n0 + 5) (n0 + 7) (n0 + 8) 2 := fun V2 hk =>
      ⟨St.kpS (h.below hV) lo hk hSV (bare1 b 2 _), tgs_ss hp.g hk (fun j hj => (hSV j hj).1) (fun t ht => by rw [List.mem_singleton.1 ht]; exact ⟨rfl, rfl⟩), (hf.keep _ _ _ (hV.block _ hlf)).keep _ _ _ (hk.block _ (Nat.lt_of_lt_of_le hlf hV.size) (fun e => by rcases e with e | e; exact hgf.1 e; exact hgf.2 e)), hoV.sb.keep (hk.block _ hoV.sb.lt (fun e => by omega))⟩
    refine (goes_known (fun w' => ∃ V2 V3, Kp (fun j => j = n0 + 7 ∨ j = th) V V2 ∧ CB V2 (n0 + 7) (n0 + 6) 2 ∧ Below V2.heap.size V2 V3 ∧ DidS w V3 bo bl bd m nn (q3 b 100000) w') V (n0 + 5) (n0 + 9) bo (n0 + 7) (n0 + 6) (n0 + 8) th gf cf (KS b) ⟨#[97]⟩ ⟨#[116]⟩ Ag Af cg cf' ⟨#[]⟩ ⟨#[]⟩ Ar 0 cr 2 0 2 hoV.sb hoV.cb.lt (Lg.lt_heap htV) ⟨by omega, by omega⟩ ?_ ?_ ?_).mono ?_
    · exact fun U hU => known_one U (n0 + 9) bo (n0 + 5) (n0 + 7) (n0 + 8) (n0 + 6) th gf cf 1 2 (KS b) (hoV.below hU).sb (hoV.below hU).cb (hoV.below hU).cm ((hU.block _ (Lg.lt_heap htV)).trans htV) (KS_size b) (by omega)
    · intro V2 hk gd cap hr
      obtain ⟨s2, tg2, _, _⟩ := S2 V2 hk
      obtain ⟨ad, Ad, cd, At, ct, rfl, hen⟩ := env_of b V2 (hE.below s2.bw) Ag Af cg cf' tg2 hp.gc
      exact plan_known V2 gd gf cf cap (some ad) Af Ad At cg cf' cd ct ⟨#[116]⟩ ⟨#[116]⟩ (cmdS b) (KS b) (by unfold maxLen; decide) (KS_size b) hen hr.1 hr.2
    · intro V2 hk t2 c2
      obtain ⟨s2, tg2, f2, sb2⟩ := S2 V2 hk
      refine (sdo_any (fun V3 w' => DidS w V3 bo bl bd m nn (q3 b 100000) w') V2 (n0 + 9) bo (n0 + 5) (n0 + 7) (n0 + 8) 2 3 ⟨#[97]⟩ Ag 1 cg Af 0 cf' ⟨#[116]⟩ 2 0 ⟨#[]⟩ ⟨#[]⟩ (some ⟨gf, 0, none⟩) 1 cf sb2 (fun V3 hV3 => do_3 b w hE V3 bo bl bd m nn (s2.below hV3) (by omega) Ag Af (some ⟨gf, 0, none⟩) cg cf' cf ⟨(tg2.below hV3).more hV3.size, Reads.none_, (f2.keep _ _ _ (hV3.block _ (by obtain ⟨cs, f1, _⟩ := f2; exact Lg.lt_heap f1))).fls, hp.gc, Nat.zero_le _, hcf⟩)).mono ?_
      rintro e w' ⟨rfl, V3, hV3, hd⟩
      exact ⟨rfl, V2, V3, hk, c2, hV3, hd⟩
    · rintro e w' ⟨rfl, V2, V3, h1, h2, h3, h4⟩
      exact ⟨rfl, V, V2, V3, hV, h1, h2, h3, h4⟩
  · rintro w' ⟨V, V2, V3, h1, h2, h3, h4, h5⟩
    have hos := lo.ols
    have kb : ∀ j, n0 ≤ j → j ≤ n0 + 9 → j ≠ n0 + 7 → w'.heap[j]? = W.heap[j]? := fun j a1 a2 a3 => by
      have l1 : j < V.heap.size := Nat.lt_of_lt_of_le (by omega : j < W.heap.size) h1.size
      have l2 : j < V2.heap.size := Nat.lt_of_lt_of_le l1 h2.size
      exact (h5.2.block j (Nat.lt_of_lt_of_le l2 h4.size) (fun e => by have := hos j e; omega)).trans ((h4.block j l2).trans ((h2.block j l1 (fun e => by omega)).trans (h1.block j (by omega))))
    have c' : CB w' (n0 + 7) (n0 + 6) 2 := h3.keep ((h5.2.block _ (Nat.lt_of_lt_of_le h3.lt h4.size) (fun e => by have := hos _ e; omega)).trans (h4.block _ h3.lt))
    have o1 : Ow w' n0 bo 5 1 1 1 2 2 (rowM wkS A c) NoM NoM (oneM (KS b) th) (Mv.putM NoM (KS b) (taskV (KS b) (cmdS b))) := by
      obtain ⟨nth, A', n', c'', x1⟩ := ho.q
      exact ⟨ho.sc.keep (kb (n0 + 5) (by omega) (by omega) (by omega)) (kb (n0 + 2) (by omega) (by omega) (by omega)) (kb (n0 + 3) (by omega) (by omega) (by omega)) (kb (n0 + 4) (by omega) (by omega) (by omega)) (kb (n0 + 1) (by omega) (by omega) (by omega)), ⟨nth, A', n', c'', (kb n0 (by omega) (by omega) (by omega)).trans x1⟩, ho.cm.keep (kb _ (by omega) (by omega) (by omega)), c', ho.tm.keep (kb _ (by omega) (by omega) (by omega)), ho.sb.keep (kb _ (by omega) (by omega) (by omega))⟩
    obtain ⟨t1, t2⟩ := tick_ow w w' bo bl bd m n0 (nn + 2) 5 1 1 1 2 2 (rowM wkS A c) NoM (oneM (KS b) th) (Mv.putM NoM (KS b) (taskV (KS b) (cmdS b))) (q3 b 100000) lo h5.1 (bare1 b 3 _) o1 (by omega)
    refine ⟨t1, t2.mono ?_⟩
    rintro e w'' ⟨rfl, h6, h7, h8⟩
    refine ⟨rfl, ⟨h6, h7.sb⟩, ?_⟩
    have k1 : Kp (fun j => j < n0 + 10 ∨ j = th) W V2 := (Kp.of_below h1).trans (h2.mono (fun j hj => by omega))
    have k2 : Kp (fun j => j < n0 + 10 ∨ j = th) V3 w' := h5.2.mono (fun j hj => by have := hos j hj; omega)
    exact ((k1.then h4).trans k2).trans (h8.mono (fun j hj => by omega))
theorem step_poll (b : Bool) (w W : World) (bo bl bd m n0 nn : Nat) (h : Ended w W bo bl bd m n0 nn b) :
    Calls Tryz.prog 4 #[.pointer (some ⟨n0 + 9, 0, none⟩), .string ⟨#[97]⟩] W (PollSays W (oneS b 3 (resS b))) := by
  obtain ⟨hs, hb⟩ := h
  refine spoll_any W (n0 + 9) bo (n0 + 5) (n0 + 7) (n0 + 8) 3 (oneS b 3 (resS b)) ⟨#[97]⟩ hb fun V hV => ?_
  refine (Ol.plist_any V bo bl bd m nn (q3 b 100000) (hs.below hV).at_).mono ?_
  rintro e w' ⟨⟨A, c, rfl, hc, hops⟩, hbl⟩
  refine ⟨A, c, rfl, hbl, (Ops.find_any A [oneS b 3 (resS b)] c ⟨#[97]⟩ w' w' hops (Below.refl _ _) (by simp)).mono ?_⟩
  rintro e2 w'' ⟨⟨x, Ag, cg, Af, cf, Ar, cr, rfl, hx, hp⟩, hb2⟩
  have hf : Ops.find [oneS b 3 (resS b)] ⟨#[97]⟩ = some (oneS b 3 (resS b)) := by cases b <;> rfl
  rw [hf] at hx
  have hx' : x = oneS b 3 (resS b) := hx
  subst hx'
  rw [hf]
  exact ⟨⟨Ag, cg, Af, cf, Ar, cr, rfl⟩, hb2⟩
end Go.Proofs.YtifiipmmgnmciaaGreatDoor.Sv
