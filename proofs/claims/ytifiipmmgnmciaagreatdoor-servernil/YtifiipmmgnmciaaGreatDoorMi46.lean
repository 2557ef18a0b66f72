/- Joined by mkmerged.py: SvAwake, SvOp0, SvParse, SvNil. -/
import Derived.Test.YtifiipmmgnmciaaGreatDoorMi45
import Derived.Test.YtifiipmmgnmciaaGreatDoorMi42
import Derived.Test.YtifiipmmgnmciaaGreatDoorMi16
import Derived.Test.YtifiipmmgnmciaaGreatDoorMi37
import Derived.Test.YtifiipmmgnmciaaGreatDoorMi08
import Derived.Test.YtifiipmmgnmciaaGreatDoorMi10
import Derived.Test.YtifiipmmgnmciaaGreatDoorMi20
/- SvAwake, what a claim needs of it (prune.py). -/
namespace Go.Proofs.YtifiipmmgnmciaaGreatDoor.Sv
open Go.RowKit Go.Maps
open Dk (Kp DkAt)
open Ol (Ol OlAt OlS St)
open Ops (Parts)
set_option linter.unusedVariables false
set_option maxRecDepth 100000
theorem oneS_tgs {w : World} {g : Nat} {T : TypeId} (h : w.heap[g]? = some (.cells #[.string ⟨#[116]⟩, .string (cmdS true), .slice none 0 0, .slice none 0 0] T (0, 0))) : Tgs w w.heap.size (some ⟨g, 0, none⟩) [tS true] := fun _ => by
  refine ⟨_, rfl, Lg.lt_heap h, fun k hk => ?_⟩
  have hk2 : k < 1 := hk
  obtain rfl : k = 0 := by omega
  exact ⟨none, 0, none, 0, Lg.cell_at h 0, Lg.cell_at h 1, Lg.cell_at h 2, Lg.cell_at h 3, Reads.none_, Reads.none_⟩
def OneSaysS (w : World) (e : Ending) (w' : World) : Prop := (∃ g, e = .returned (.agg (opC ⟨#[97]⟩ (some ⟨g, 0, none⟩) 1 1 none 0 0 ⟨#[116]⟩ 0 0 ⟨#[]⟩ ⟨#[]⟩ none 0 0)) ∧ Parts w' (oneS true 0 Ops.zeroR) (some ⟨g, 0, none⟩) 1 none 0 none 0) ∧ Below w.heap.size w w'
theorem oneS_any (w : World) : Calls Tryz.prog 26 #[] w (OneSaysS w) := by
  go_enter Tryz.func26, Tryz.ntmps26
  go_wp2_with (fail)
  refine bodyPost_ret (results_cell rfl _ _ _ ⟨w.heap.size, 0, none⟩ _ _ rfl (Cd.load_op (heap_alloc_lt (heap_alloc_new w _)) rfl)) rfl ?_
  exact ⟨⟨w.heap.size + 1, rfl, oneS_tgs (heap_alloc2_new w _ _), Reads.none_, Reads.none_, Nat.le_refl _, Nat.le_refl _, Nat.le_refl _⟩, ((Below.refl _ _).alloc (Nat.le_refl _) _).alloc (by simp) _⟩
section
variable (w W : World) (bo bl n0 : Nat)
def P0 : Prop := Lo w bo bl (w.heap.size + 1) w.heap.size n0 ∧ St w W bo bl (w.heap.size + 1) w.heap.size 0 (q0 100000) ∧ Ow W n0 bo 0 0 0 0 0 0 NoM NoM NoM NoM NoM ∧ QB W n0 0 none 0 0
def P1 : Prop := Lo w bo bl (w.heap.size + 1) w.heap.size n0 ∧ St w W bo bl (w.heap.size + 1) w.heap.size 2 (q1 true 100000) ∧ Ow W n0 bo 0 0 0 0 0 0 NoM NoM NoM NoM NoM ∧ QB W n0 0 none 0 0
def P2 : Prop := Lo w bo bl (w.heap.size + 1) w.heap.size n0 ∧ St w W bo bl (w.heap.size + 1) w.heap.size 4 (q2 true 100000) ∧ Ow W n0 bo 0 0 0 0 1 0 NoM NoM NoM NoM NoM ∧ QB W n0 0 none 0 0
def P3 : Prop := Lo w bo bl (w.heap.size + 1) w.heap.size n0 ∧ St w W bo bl (w.heap.size + 1) w.heap.size 4 (q2 true 100000) ∧ Waits W n0 bo true 1 2 NoM
def P4 : Prop := Lo w bo bl (w.heap.size + 1) w.heap.size n0 ∧ St w W bo bl (w.heap.size + 1) w.heap.size 4 (q2 true 100000) ∧ Waits W n0 bo true 2 2 (rowM wkS none 0)
def P5 : Prop := Lo w bo bl (w.heap.size + 1) w.heap.size n0 ∧ St w W bo bl (w.heap.size + 1) w.heap.size 4 (q2 true 100000) ∧ Goes W n0 bo true
def P6 (th : Nat) : Prop := Lo w bo bl (w.heap.size + 1) w.heap.size n0 ∧ St w W bo bl (w.heap.size + 1) w.heap.size 4 (q2 true 100000) ∧ ∃ gf cf, Knows W n0 bo true th gf cf
def P7 : Prop := Ended w W bo bl (w.heap.size + 1) w.heap.size n0 6 true
end
theorem P0.below {w W V : World} {bo bl n0 : Nat} (h : P0 w W bo bl n0) (hb : Below W.heap.size W V) : P0 w V bo bl n0 := by
  obtain ⟨h1, h2, h3, h4⟩ := h
  exact ⟨h1, h2.below hb, h3.below hb, (hb.block _ (Lg.lt_heap h4)).trans h4⟩
theorem P5.below {w W V : World} {bo bl n0 : Nat} (h : P5 w W bo bl n0) (hb : Below W.heap.size W V) : P5 w V bo bl n0 := by
  obtain ⟨h1, h2, A, c, h3⟩ := h
  exact ⟨h1, h2.below hb, A, c, h3.below hb⟩
set_option maxHeartbeats 4000000 in
theorem awake_of (w : World) (hE : Lg.Env w)
    (hop : ∀ W, Below w.heap.size w W → DkAt W (w.heap.size + 1) w.heap.size 0 (Ol.D0 100000) → Calls Tryz.prog 45 #[.pointer (some ⟨w.heap.size + 1, 0, none⟩)] W fun e w' => ∃ bo bl, e = .returned (.tuple #[.pointer (some ⟨bo, 0, none⟩), .int .i64 0]) ∧ St w w' bo bl (w.heap.size + 1) w.heap.size 0 (q0 100000))
    (hpr : ∀ V, Below w.heap.size w V → Calls Tryz.prog 48 #[.string (cmdS true)] V fun e w' => ∃ L cap, e = .returned (.tuple #[.slice L 1 cap, .int .i64 0]) ∧ Below V.heap.size V w' ∧
      ∀ V2, Below w'.heap.size w' V2 → Calls Tryz.prog 49 #[.slice L 1 cap, .slice none 0 0, .slice none 0 0, .int .i64 50] V2 (RunAns (FileAt true) V2)) :
    Calls Tryz.prog 13 #[] w fun e w' => e = .returned (.bool true) ∧ Below w.heap.size w w' := by
  have NW : Hid (Calls Tryz.prog 24 #[.int .i64 100000] w fun e w' => e = .returned (.tuple #[.pointer (some ⟨w.heap.size + 1, 0, none⟩), .int .i64 0]) ∧ DkAt w' (w.heap.size + 1) w.heap.size 0 (Ol.D0 100000) ∧ Below w.heap.size w w' ∧ w'.heap.size = w.heap.size + 2) := Lib.hid (Dk.pnew_yes 100000 w (by omega) (by omega))
  have OP : Hid (∀ W, DkAt W (w.heap.size + 1) w.heap.size 0 (Ol.D0 100000) → Below w.heap.size w W → Calls Tryz.prog 25 #[.pointer (some ⟨w.heap.size + 1, 0, none⟩), .int .i64 50] W fun e w' => ∃ bo bl n0, e = .returned (.tuple #[.pointer (some ⟨n0 + 9, 0, none⟩), .int .i64 0]) ∧ P0 w w' bo bl n0) := Lib.hid fun W hd hb => by
    refine (sopen_any (fun bo w1 => ∃ bl, St w w1 bo bl (w.heap.size + 1) w.heap.size 0 (q0 100000)) W (w.heap.size + 1) ((hop W hb hd).mono ?_)).mono ?_
    · rintro e w' ⟨bo, bl, rfl, hs⟩
      exact ⟨bo, rfl, bl, hs⟩
    · rintro e w' ⟨bo, w1, ⟨bl, hs⟩, rfl, hf⟩
      obtain ⟨l1, l2, l3, l4⟩ := hs.at_.lt
      exact ⟨bo, bl, w1.heap.size, rfl, ⟨l1, l2, l3, l4, hs.bw.size⟩, hs.below hf.below, ⟨hf.sc, ⟨_, _, _, _, hf.q⟩, hf.cm, hf.cb, hf.tm, hf.sb⟩, hf.q⟩
  have ONE : Hid (∀ W, Calls Tryz.prog 26 #[] W (OneSaysS W)) := Lib.hid oneS_any
  have X1 : Hid (∀ W bo bl n0 g, P0 w W bo bl n0 → Parts W (oneS true 0 Ops.zeroR) (some ⟨g, 0, none⟩) 1 none 0 none 0 → Calls Tryz.prog 6 #[.pointer (some ⟨n0 + 9, 0, none⟩), .agg (opC ⟨#[97]⟩ (some ⟨g, 0, none⟩) 1 1 none 0 0 ⟨#[116]⟩ 0 0 ⟨#[]⟩ ⟨#[]⟩ none 0 0)] W fun e w' => e = .returned (.int .i64 0) ∧ P1 w w' bo bl n0) := Lib.hid fun W bo bl n0 g ⟨h1, h2, h3, h4⟩ hp => (step_submit true w hE W bo bl _ _ n0 0 h1 (by omega) h2 h3 h4 g hp).mono fun e w' ⟨q1, q2, q3, q4⟩ => ⟨q1, h1, q2, q3, q4⟩
  have X2 : Hid (∀ W bo bl n0, P1 w W bo bl n0 → Calls Tryz.prog 11 #[.pointer (some ⟨n0 + 9, 0, none⟩)] W fun e w' => e = .returned (.int .i64 0) ∧ P2 w w' bo bl n0) := Lib.hid fun W bo bl n0 ⟨h1, h2, h3, h4⟩ => (step_turn1 true w hE W bo bl _ _ n0 2 h1 (by omega) h2 h3 h4).mono fun e w' ⟨q1, q2, q3, q4⟩ => ⟨q1, h1, q2, q3, q4⟩
  have X3 : Hid (∀ W bo bl n0, P2 w W bo bl n0 → Calls Tryz.prog 11 #[.pointer (some ⟨n0 + 9, 0, none⟩)] W fun e w' => e = .returned (.int .i64 0) ∧ P3 w w' bo bl n0) := Lib.hid fun W bo bl n0 ⟨h1, h2, h3, h4⟩ => (step_turn2 true w hE W bo bl _ _ n0 4 h1 (by omega) h2 h3 h4).mono fun e w' ⟨q1, q2, q3⟩ => ⟨q1, h1, q2, q3⟩
  have X4 : Hid (∀ W bo bl n0, P3 w W bo bl n0 → Calls Tryz.prog 9 #[.pointer (some ⟨n0 + 9, 0, none⟩), .string wkS] W fun e w' => e = .returned (.int .i64 0) ∧ P4 w w' bo bl n0) := Lib.hid fun W bo bl n0 ⟨h1, h2, h3⟩ => (step_join true w W bo bl _ _ n0 4 h1 h2 h3).mono fun e w' ⟨q1, q2, q3⟩ => ⟨q1, h1, q2, q3⟩
  have X5 : Hid (∀ W bo bl n0, P4 w W bo bl n0 → Calls Tryz.prog 5 #[.pointer (some ⟨n0 + 9, 0, none⟩), .string wkS] W fun e w' => e = .returned (.tuple #[.agg (goTask (KS true) (cmdS true)), .int .i64 0]) ∧ P5 w w' bo bl n0) := Lib.hid fun W bo bl n0 ⟨h1, h2, h3⟩ => (step_next true w W bo bl _ _ n0 4 h1 h2 h3).mono fun e w' ⟨q1, q2, q3⟩ => ⟨q1, h1, q2, q3⟩
  have RN : Hid (∀ W, Below w.heap.size w W → Calls Tryz.prog 27 #[.agg (goTask (KS true) (cmdS true))] W (RunSaysS (FileAt true) (KS true) W)) := Lib.hid fun W hb => srun_any (FileAt true) W (KS true) (cmdS true) (fun V V' g h e => h.keep _ _ _ e) (fun V hV => hpr V (hb.trans (hV.mono hb.size)))
  have X6 : Hid (∀ W bo bl n0 gf cf, P5 w W bo bl n0 → FileAt true W gf → 1 ≤ cf → Calls Tryz.prog 12 #[.pointer (some ⟨n0 + 9, 0, none⟩), .agg (repC (KS true) gf cf)] W fun e w' => e = .returned (.int .i64 0) ∧ (∃ th, W.heap.size ≤ th ∧ P6 w w' bo bl n0 th) ∧ Kp (fun j => j < n0 + 10) W w') := Lib.hid fun W bo bl n0 gf cf ⟨h1, h2, h3⟩ hf hc => (step_report true w W bo bl _ _ n0 4 h1 h2 h3 gf cf hf hc).mono fun e w' ⟨q1, q2, ⟨th, q3, q4⟩, q5⟩ => ⟨q1, ⟨th, q3, h1, q2, gf, cf, q4⟩, q5⟩
  have X7 : Hid (∀ W bo bl n0 th, P6 w W bo bl n0 th → Calls Tryz.prog 11 #[.pointer (some ⟨n0 + 9, 0, none⟩)] W fun e w' => e = .returned (.int .i64 0) ∧ P7 w w' bo bl n0 ∧ Kp (fun j => j < n0 + 10 ∨ j = th) W w') := Lib.hid fun W bo bl n0 th ⟨h1, h2, gf, cf, h3⟩ => step_turn3 true w hE W bo bl _ _ n0 4 h1 (by omega) th gf cf h2 h3
  have X8 : Hid (∀ W bo bl n0, P7 w W bo bl n0 → Calls Tryz.prog 4 #[.pointer (some ⟨n0 + 9, 0, none⟩), .string ⟨#[97]⟩] W (PollSays W (oneS true 3 (resS true)))) := Lib.hid fun W bo bl n0 h => step_poll true w W bo bl _ _ n0 6 h
  -- the task's box stays
  have KB : Hid (∀ w5 W6 w7 w8 w9 w10 bo bl n0 th, P5 w w5 bo bl n0 → W6 = w5.alloc (.cells (goTask (KS true) (cmdS true)) 34) → Below W6.heap.size W6 w7 → Kp (fun j => j < n0 + 10) w7 w8 → w7.heap.size ≤ th → Kp (fun j => j < n0 + 10 ∨ j = th) w8 w9 → Below w9.heap.size w9 w10 → w10.heap[w5.heap.size]? = some (.cells (goTask (KS true) (cmdS true)) 34 (0, 0))) := Lib.hid fun w5 W6 w7 w8 w9 w10 bo bl n0 th h5 e6 h7 h8 ht h9 h10 => by
    obtain ⟨_, _, A, c, ho⟩ := h5
    have hz := ho.size
    have z6 : W6.heap[w5.heap.size]? = some (.cells (goTask (KS true) (cmdS true)) 34 (0, 0)) := by rw [e6]; exact heap_alloc_new w5 _
    have s6 : w5.heap.size < W6.heap.size := Lg.lt_heap z6
    have s7 := Nat.lt_of_lt_of_le s6 h7.size
    have s8 := Nat.lt_of_lt_of_le s7 h8.size
    have s9 := Nat.lt_of_lt_of_le s8 h9.size
    exact (h10.block _ s9).trans ((h9.block _ s8 (by omega)).trans ((h8.block _ s7 (by omega)).trans ((h7.block _ s6).trans z6)))
  have PB : Hid (∀ W V bo bl n0, P0 w W bo bl n0 → Below W.heap.size W V → P0 w V bo bl n0) := Lib.hid fun W V bo bl n0 h hb => h.below hb
  have PB5 : Hid (∀ W V bo bl n0, P5 w W bo bl n0 → Below W.heap.size W V → P5 w V bo bl n0 ∧ Below w.heap.size w V) := Lib.hid fun W V bo bl n0 h hb => ⟨h.below hb, h.2.1.bw.trans (hb.mono h.2.1.bw.size)⟩
  have FB : Hid (∀ W bo bl n0, P7 w W bo bl n0 → Below w.heap.size w W) := Lib.hid fun W bo bl n0 h => h.1.bw
  clear hE hop hpr
  go_enter Tryz.func13, Tryz.ntmps13
  go_upto_region 10 with (first
    | (go_at_call 24; (with_reducible refine (NW.out).mono ?_); rintro e w1 ⟨rfl, hd1, hb1, hs1⟩; have OP1 := Lib.hid (OP.out w1 hd1 hb1); clear hs1 hd1 hb1)
    | (go_at_call 25; (with_reducible refine (OP1.out).mono ?_); rintro e w2 ⟨bo, bl, n0, rfl, p0⟩)
    | (go_at_call 26; (with_reducible refine (ONE.out _).mono ?_); rintro e wq ⟨⟨g, rfl, hp⟩, hbq⟩; have p0' := PB.out _ _ _ _ _ p0 hbq; clear hbq)
    | (go_at_call 6; (with_reducible refine (X1.out _ _ _ _ _ p0' hp).mono ?_); rintro e w3 ⟨rfl, p1⟩)
    | (go_at_call 11; (with_reducible refine (X3.out _ _ _ _ p2).mono ?_); rintro e w5 ⟨rfl, p3⟩)
    | (go_at_call 11; (with_reducible refine (X2.out _ _ _ _ p1).mono ?_); rintro e w4 ⟨rfl, p2⟩)
    | (go_at_call 9; (with_reducible refine (X4.out _ _ _ _ p3).mono ?_); rintro e w6 ⟨rfl, p4⟩)
    | (go_at_call 5; (with_reducible refine (X5.out _ _ _ _ p4).mono ?_); rintro e w7 ⟨rfl, p5⟩))
  obtain ⟨W7, e7⟩ : ∃ W7, W7 = w7.alloc (.cells (goTask (KS true) (cmdS true)) 34) := ⟨_, rfl⟩
  have b7 : Below w7.heap.size w7 W7 := by rw [e7]; exact (Below.refl _ _).alloc (Nat.le_refl _) _
  have z7 : W7.heap[w7.heap.size]? = some (.cells (goTask (KS true) (cmdS true)) 34 (0, 0)) := by rw [e7]; exact heap_alloc_new w7 _
  obtain ⟨p5a, bw7⟩ := PB5.out _ _ _ _ _ p5 b7
  have y0 : W7.cell? ⟨w7.heap.size, 0, none⟩ = some (.string (KS true)) := (cell_heap z7 0).trans rfl
  have y1 : W7.cell? ⟨w7.heap.size, 1, none⟩ = some (.int .i64 1) := (cell_heap z7 1).trans rfl
  have y2 : W7.cell? ⟨w7.heap.size, 2, none⟩ = some (.string (cmdS true)) := (cell_heap z7 2).trans rfl
  have y3 : W7.cell? ⟨w7.heap.size, 3, none⟩ = some (.slice none 0 0) := (cell_heap z7 3).trans rfl
  have y4 : W7.cell? ⟨w7.heap.size, 4, none⟩ = some (.slice none 0 0) := (cell_heap z7 4).trans rfl
  have y5 : W7.cell? ⟨w7.heap.size, 5, none⟩ = some (.int .i64 50) := (cell_heap z7 5).trans rfl
  have RN1 := Lib.hid (RN.out W7 bw7)
  rw [← e7]
  have E7 := Lib.hid e7
  clear e7 b7 z7 bw7
  go_upto_region 13 with (first
    | (go_at_call 27; (with_reducible refine (RN1.out).mono ?_); rintro e w8 ⟨⟨gf, cf, rfl, _, _, hcf, hff⟩, hb8⟩; have HB8 := Lib.hid hb8; have p5b := (PB5.out _ _ _ _ _ p5a hb8).1; clear hb8)
    | (go_at_call 12; (with_reducible refine (X6.out _ _ _ _ _ _ p5b hff hcf).mono ?_); rintro e w9 ⟨rfl, ⟨th, hth, p6⟩, hk9⟩; have HTH := Lib.hid hth; have HK9 := Lib.hid hk9; clear hth hk9)
    | (go_at_call 11; (with_reducible refine (X7.out _ _ _ _ _ p6).mono ?_); rintro e w10 ⟨rfl, p7, hk10⟩; have HK10 := Lib.hid hk10; clear hk10)
    | (go_at_call 4; (with_reducible refine (X8.out _ _ _ _ p7).mono ?_); rintro e w11 ⟨⟨Ag, cg, Af, cf', Ar, cr, rfl⟩, hb11⟩; have HB11 := Lib.hid hb11; clear hb11))
  have zt := KB.out w7 W7 w8 w9 w10 w11 bo bl n0 th p5 E7.out HB8.out HK9.out HTH.out HK10.out HB11.out
  obtain ⟨W12, e12⟩ : ∃ W12, W12 = w11.alloc (.cells (xC (oneS true 3 (resS true)) Ag cg Af cf' Ar cr) 29) := ⟨_, rfl⟩
  have b12 : Below w11.heap.size w11 W12 := by rw [e12]; exact (Below.refl _ _).alloc (Nat.le_refl _) _
  have z12 : W12.heap[w11.heap.size]? = some (.cells (xC (oneS true 3 (resS true)) Ag cg Af cf' Ar cr) 29 (0, 0)) := by rw [e12]; exact heap_alloc_new w11 _
  have u1 : W12.cell? ⟨w7.heap.size, 1, none⟩ = some (.int .i64 1) := (cell_heap ((b12.block _ (Lg.lt_heap zt)).trans zt) 1).trans rfl
  have u4 : W12.cell? ⟨w11.heap.size, 4, none⟩ = some (.int .i64 3) := (cell_heap z12 4).trans rfl
  have u5 : W12.cell? ⟨w11.heap.size, 5, none⟩ = some (.int .i64 0) := (cell_heap z12 5).trans rfl
  have bF : Hid (Below w.heap.size w W12) := Lib.hid (by
    have h1 := FB.out _ _ _ _ p7
    have h2 := h1.trans (HB11.out.mono h1.size)
    exact h2.trans (b12.mono h2.size))
  have E12 := Lib.hid e12
  clear e12 b12 z12 zt y0 y1 y2 y3 y4 y5
  rw [← E12.out]
  go_wp2_with (fail)
  go_ret
  exact ⟨rfl, bF.out⟩
end Go.Proofs.YtifiipmmgnmciaaGreatDoor.Sv
/- SvOp0, what a claim needs of it (prune.py). -/
namespace Go.Proofs.YtifiipmmgnmciaaGreatDoor.Sv
open Go.RowKit
open Lg (tl bs)
open Dk (Dk Kp DkAt read names)
open Wl (LogAt name)
open Ol (Ol OlAt D0 read_none n00 stb)
set_option linter.unusedVariables false
set_option maxRecDepth 100000
theorem read0 (b m nn L : Nat) (n : List UInt8) (W : World) (hD : DkAt W b m nn (D0 L)) (hb : Dk.bad n = false) (hs : (bs n).size ≤ maxLen) :
    Calls Tryz.prog 150 #[.pointer (some ⟨b, 0, none⟩), .string (bs n)] W fun e w' => e = .returned (.tuple #[.string ⟨#[]⟩, .int .i64 17]) ∧ Below W.heap.size W w' := by
  have := Dk.pread_any b m nn (D0 L) (bs n) W hD hs
  rw [show tl (bs n) = n from rfl, read_none hb] at this
  exact this
theorem parts0_any (b m nn L : Nat) (W : World) (hD : DkAt W b m nn (D0 L)) (ht : Tab W) :
    Calls Tryz.prog 112 #[.pointer (some ⟨b, 0, none⟩), .int .i64 0] W fun e w' => e = .returned (.slice none 0 0) ∧ Below W.heap.size W w' := by
  have NM : Hid (Calls Tryz.prog 121 #[.int .i64 0, .int .i64 0] W fun e w' => e = .returned (.string (bs (name 0 0))) ∧ Below W.heap.size W w') := Lib.hid (Wl.name_any 0 0 (by omega) (by omega) W ht)
  have RD : Hid (∀ w1, Below W.heap.size W w1 → Calls Tryz.prog 150 #[.pointer (some ⟨b, 0, none⟩), .string (bs (name 0 0))] w1 fun e w' => e = .returned (.tuple #[.string ⟨#[]⟩, .int .i64 17]) ∧ Below W.heap.size W w') := Lib.hid fun w1 h1 => (read0 b m nn L (name 0 0) w1 (hD.below h1) n00 (Wl.name_size (by omega) (by omega))).mono fun e w' hh => ⟨hh.1, h1.trans (hh.2.mono h1.size)⟩
  clear hD ht
  generalize bs (name 0 0) = q at *
  go_enter Tryz.func112, Tryz.ntmps112
  go_wp2_with (fail)
  go_loopw [5] (fun v wx => v = .slice none 0 0 ∧ wx = W) (fun _ _ => 0)
  case atStart => exact ⟨rfl, rfl⟩
  case round =>
    obtain ⟨rfl, rfl⟩ := hrel
    go_wp2_with (first
      | (go_at_call 121; (with_reducible refine (NM.out).mono ?_); rintro e w1 ⟨rfl, h1⟩)
      | (go_at_call 150; (with_reducible refine (RD.out _ h1).mono ?_); rintro e w2 ⟨rfl, h2⟩))
    go_ret
    exact ⟨rfl, h2⟩
def WOpen0 (W : World) (b : Nat) (e : Ending) (w' : World) : Prop := e = .returned (.tuple #[.pointer (some ⟨W.heap.size, 0, none⟩), .string ⟨#[]⟩, .slice none 0 0, .int .i64 0]) ∧ LogAt w' W.heap.size b ⟨0, 0, 0, false⟩ ∧ Below W.heap.size W w'
set_option maxHeartbeats 1000000 in
theorem wopen0 (b m nn L : Nat) (W : World) (hD : DkAt W b m nn (D0 L)) (ht : Tab W) (hnn : nn ≤ 1000000) : Calls Tryz.prog 79 #[.pointer (some ⟨b, 0, none⟩)] W (WOpen0 W b) := by
  obtain ⟨W1, eW⟩ : ∃ W1, W1 = W.alloc (.cells #[.pointer (some ⟨b, 0, none⟩), .int .i64 0, .int .i64 0, .int .i64 0, .bool false] 207) := ⟨_, rfl⟩
  have B1 : Below W.heap.size W W1 := by rw [eW]; exact (Below.refl _ _).alloc (Nat.le_refl _) _
  have L1 : LogAt W1 W.heap.size b ⟨0, 0, 0, false⟩ := ⟨by rw [eW]; exact heap_alloc_new _ _⟩
  have hlt1 := L1.lt
  have DE : Hid (Calls Tryz.prog 149 #[.pointer (some ⟨b, 0, none⟩)] W fun e w' => e = .returned (.bool false) ∧ W = w') := Lib.hid (Dk.pdead_any b m nn (D0 L) W hD)
  have RS : Hid (Calls Tryz.prog 150 #[.pointer (some ⟨b, 0, none⟩), .string ⟨#[115, 116, 97, 116, 101]⟩] W1 fun e w' => e = .returned (.tuple #[.string ⟨#[]⟩, .int .i64 17]) ∧ Below W1.heap.size W1 w') := Lib.hid (read0 b m nn L Wl.state W1 (hD.below B1) stb (by rw [bs_size]; decide))
  have PA : Hid (∀ w2, Below W1.heap.size W1 w2 → Calls Tryz.prog 112 #[.pointer (some ⟨b, 0, none⟩), .int .i64 0] w2 fun e w' => e = .returned (.slice none 0 0) ∧ Below W1.heap.size W1 w') := Lib.hid fun w2 h2 => (parts0_any b m nn L w2 ((hD.below B1).below h2) ((ht.on B1).on h2)).mono fun e w' hh => ⟨hh.1, h2.trans (hh.2.mono h2.size)⟩
  have NA : Hid (∀ w3, Below W1.heap.size W1 w3 → Calls Tryz.prog 152 #[.pointer (some ⟨b, 0, none⟩)] w3 fun e w' => (∃ p c, e = .returned (.slice p 0 c)) ∧ Below W1.heap.size W1 w') := Lib.hid fun w3 h3 => (Dk.pnames_any b m nn (D0 L) w3 ((hD.below B1).below h3) hnn).mono fun e w' ⟨v, h1, h2, h4⟩ => by
    obtain ⟨p, mm, c, rfl⟩ := own_form h2
    have := Wl.own_len h2
    have h0 : mm = 0 := this
    subst h0
    exact ⟨⟨p, c, h1⟩, h3.trans (h4.mono h3.size)⟩
  have FN : Hid (∀ w, Below W1.heap.size W1 w → w.cell? ⟨W.heap.size, 1, none⟩ = some (.int .i64 0) ∧ w.cell? ⟨W.heap.size, 3, none⟩ = some (.int .i64 0) ∧ w.frozen? ⟨W.heap.size, 3, none⟩ = false ∧ w.setCell ⟨W.heap.size, 3, none⟩ (.int .i64 0) = w ∧ WOpen0 W b (.returned (.tuple #[.pointer (some ⟨W.heap.size, 0, none⟩), .string ⟨#[]⟩, .slice none 0 0, .int .i64 0])) w) := Lib.hid fun w hw => by
    have L2 := L1.below hw
    exact ⟨(cell_heap L2.st 1).trans rfl, (cell_heap L2.st 3).trans rfl, frozen_heap L2.st 3, set_same L2.st rfl, rfl, L2, B1.trans (hw.mono B1.size)⟩
  clear hD ht B1 L1
  generalize WOpen0 W b = Q at *
  go_enter Tryz.func79, Tryz.ntmps79
  go_wp2_with (first
    | (go_at_call 149; (with_reducible refine (DE.out).mono ?_); rintro e w' ⟨rfl, rfl⟩)
    | (go_at_call 150; rw [← eW]; clear eW; (with_reducible refine (RS.out).mono ?_); rintro e w2 ⟨rfl, h2⟩; have c1 := (FN.out _ h2).1)
    | (go_at_call 112; (with_reducible refine (PA.out _ h2).mono ?_); rintro e w3 ⟨rfl, h3⟩)
    | (go_at_call 152; (with_reducible refine (NA.out _ h3).mono ?_); rintro e w4 ⟨⟨p, c, rfl⟩, h4⟩))
  obtain ⟨_, c3, f3, s3, hF⟩ := FN.out _ h4
  have HF := Lib.hid hF
  clear hF h2 h3 h4 c1
  go_loopw [57] (fun i wx => i = .int .i64 0 ∧ wx = w4) (fun _ _ => 0)
  case atStart => exact ⟨rfl, rfl⟩
  case round =>
    obtain ⟨rfl, rfl⟩ := hrel
    go_wp2_with (fail)
    go_loopw [15, 77] (fun v i wy => v = .slice none 0 0 ∧ i = .int .i64 0 ∧ wy = wr) (fun _ _ _ => 0)
    case atStart => exact ⟨rfl, rfl, rfl⟩
    case round =>
      obtain ⟨rfl, rfl, rfl⟩ := hrel
      go_wp2_with (fail)
      (try simp only [Exit.inBlock, Exit.then])
      refine bodyPost_ret (Wl.results_tmp4 rfl _ _ _) rfl ?_
      exact HF.out
theorem replay0 (W : World) : Calls Tryz.prog 81 #[.slice none 0 0, .slice none 0 0] W fun e w' => e = .returned (.tuple #[.slice none 0 0, .bool true]) ∧ W = w' := by
  go_enter Tryz.func81, Tryz.ntmps81
  go_wp2_with (fail)
  go_loopw [0, 12] (fun v i wx => v = .slice none 0 0 ∧ i = .int .i64 0 ∧ wx = W) (fun _ _ _ => 0)
  case atStart => exact ⟨rfl, rfl, rfl⟩
  case round =>
    obtain ⟨rfl, rfl, rfl⟩ := hrel
    go_wp2_with (fail)
    go_ret2
    exact ⟨rfl, rfl⟩
def OOpen0 (W : World) (b m nn L : Nat) (e : Ending) (w' : World) : Prop := ∃ bo bl, e = .returned (.tuple #[.pointer (some ⟨bo, 0, none⟩), .int .i64 0]) ∧ W.heap.size ≤ bo ∧ W.heap.size ≤ bl ∧ OlAt w' bo bl b m nn ⟨D0 L, ⟨0, 0, 0, false⟩, []⟩ ∧ Below W.heap.size W w'
set_option maxHeartbeats 1000000 in
theorem oopen0 (b m nn L : Nat) (W : World) (hD : DkAt W b m nn (D0 L)) (ht : Tab W) (hnn : nn ≤ 1000000) : Calls Tryz.prog 45 #[.pointer (some ⟨b, 0, none⟩)] W (OOpen0 W b m nn L) := by
  have OP := Lib.hid (wopen0 b m nn L W hD ht hnn)
  have RP := Lib.hid replay0
  have FN : Hid (∀ w1, LogAt w1 W.heap.size b ⟨0, 0, 0, false⟩ → Below W.heap.size W w1 → ∃ w2, w2 = w1.alloc (.cells #[.pointer (some ⟨W.heap.size, 0, none⟩), .slice none 0 0, .bool false] 78) ∧ w2.cell? ⟨w1.heap.size, 1, none⟩ = some (.slice none 0 0) ∧ w2.frozen? ⟨w1.heap.size, 1, none⟩ = false ∧ w2.setCell ⟨w1.heap.size, 1, none⟩ (.slice none 0 0) = w2 ∧ OOpen0 W b m nn L (.returned (.tuple #[.pointer (some ⟨w1.heap.size, 0, none⟩), .int .i64 0])) w2) := Lib.hid fun w1 hl hb => by
    have hz := heap_alloc_new w1 (.cells #[.pointer (some ⟨W.heap.size, 0, none⟩), .slice none 0 0, .bool false] 78)
    have ha : Below w1.heap.size w1 (w1.alloc (.cells #[.pointer (some ⟨W.heap.size, 0, none⟩), .slice none 0 0, .bool false] 78)) := (Below.refl _ _).alloc (Nat.le_refl _) _
    exact ⟨_, rfl, (cell_heap hz 1).trans rfl, frozen_heap hz 1, set_same hz rfl, w1.heap.size, W.heap.size, rfl, hb.size, Nat.le_refl _, ⟨⟨none, 0, hz, Nat.le_refl _, Ops.Ops.none_⟩, hl.below ha, (hD.below hb).below ha, (fun x hx => by cases hx), Nat.zero_le _⟩, hb.trans (ha.mono hb.size)⟩
  clear hD ht
  generalize OOpen0 W b m nn L = Q at *
  go_enter Tryz.func45, Tryz.ntmps45
  go_wp2_with (first
    | (go_at_call 79; (with_reducible refine (OP.out).mono ?_); rintro e w1 ⟨rfl, hl, hb⟩; obtain ⟨w2, e2, c1, f1, s1, hF⟩ := FN.out w1 hl hb; have HF := Lib.hid hF; clear hF hl hb)
    | (go_at_call 81; rw [← e2]; clear e2; (with_reducible refine (RP.out _).mono ?_); rintro e w3 ⟨rfl, rfl⟩))
  exact HF.out
end Go.Proofs.YtifiipmmgnmciaaGreatDoor.Sv
/- SvParse, what a claim needs of it (prune.py). -/
namespace Go.Proofs.YtifiipmmgnmciaaGreatDoor.Sv
open Go.RowKit
set_option linter.unusedVariables false
set_option maxRecDepth 100000
def lineS : List Lg.Stp := [⟨1, [[111, 117, 116, 47, 120], [49]], 0, []⟩]
theorem parse_line : Lg.parse (Lg.tl (cmdS true)) = (lineS, 0) := by kernel_rfl
theorem line_of {W : World} {ok : Nat → Prop} {A : Option Addr} (h : Lg.StepsAt W ok A 1 lineS) : ∃ sd, A = some sd ∧ LineAt W sd ⟨#[111, 117, 116, 47, 120]⟩ ⟨#[49]⟩ := by
  obtain ⟨ad, A', ka, ca, B', kb, cb, rfl, h0, h1, h2, h3, rfl, _, ha, _, hbk⟩ := h.at_ (k := 0) (by decide)
  have e0 : ad.add (0 * 4) = ad := by simp [Addr.add]
  rw [e0] at h0
  obtain ⟨rfl, _⟩ := hbk
  obtain ⟨aa, rfl, _, hc⟩ := ha.2 (by decide)
  have c0 := hc 0 _ rfl
  have c1 := hc 1 _ rfl
  rw [show aa.add 0 = aa by simp [Addr.add]] at c0
  rw [show ∀ (a : Addr), a.add 1 = ⟨a.block, a.off + 1, none⟩ from fun a => by simp [Addr.add]] at c1
  rw [show ∀ (a : Addr), a.add (0 * 4 + 1) = ⟨a.block, a.off + 1, none⟩ from fun a => by simp [Addr.add]] at h1
  rw [show ∀ (a : Addr), a.add (0 * 4 + 2) = ⟨a.block, a.off + 2, none⟩ from fun a => by simp [Addr.add]] at h2
  rw [show ∀ (a : Addr), a.add (0 * 4 + 3) = ⟨a.block, a.off + 3, none⟩ from fun a => by simp [Addr.add]] at h3
  exact ⟨ad, rfl, aa, ca, B', cb, h0, h1, h2, h3, c0, c1⟩
theorem right_line (w : World) (hE : Lg.Env w) (ok : Nat → Prop) (A : Option Addr) (c : Nat) (h : Lg.StepsAt w ok A 1 lineS) :
    Calls Tryz.prog 89 #[.slice A 1 c] w fun e w' => e = .returned (.int .i64 0) ∧ Below w.heap.size w w' := by
  have := Lg.lright_any lineS A 1 c w ok h (Lg.parse_num parse_line) (by rw [Lg.parse_print parse_line]; exact (by decide)) hE
  rw [Lg.right_parse parse_line] at this
  exact this
theorem parse_run (w : World) (hE : Lg.Env w) : Calls Tryz.prog 48 #[.string (cmdS true)] w fun e w' => ∃ L cap, e = .returned (.tuple #[.slice L 1 cap, .int .i64 0]) ∧ Below w.heap.size w w' ∧
      ∀ V2, Below w'.heap.size w' V2 → Calls Tryz.prog 49 #[.slice L 1 cap, .slice none 0 0, .slice none 0 0, .int .i64 50] V2 (RunAns (FileAt true) V2) := by
  refine (Lg.parse_any (cmdS true) w hE (by decide)).mono ?_
  rintro e w' ⟨⟨A, k, c, rfl, hk, hs⟩, hb⟩
  rw [parse_line] at hs ⊢
  obtain rfl : k = 1 := hs.1
  refine ⟨A, c, rfl, hb, fun V2 h2 => ?_⟩
  have hE2 := (hE.below hb).below h2
  obtain ⟨sd, rfl, hl⟩ := line_of (hs.below h2)
  exact run1 V2 _ ⟨#[120]⟩ _ ⟨#[49, 10]⟩ hE2 (by kernel_rfl) (by decide) (by decide) (by kernel_rfl) (by decide) (by kernel_rfl) sd c hl fun W hW => right_line W (hE2.below hW) _ _ c ((hs.below h2).below hW)
end Go.Proofs.YtifiipmmgnmciaaGreatDoor.Sv
/- SvNil, what a claim needs of it (prune.py). -/
namespace Go.Proofs.YtifiipmmgnmciaaGreatDoor.Sv
open Go.RowKit
open Dk (Kp DkAt)
open Ol (St)
set_option linter.unusedVariables false
set_option maxRecDepth 100000
theorem open_at (w : World) (hE : Lg.Env w) (W : World) (bw : Below w.heap.size w W) (hD : DkAt W (w.heap.size + 1) w.heap.size 0 (Ol.D0 100000)) :
    Calls Tryz.prog 45 #[.pointer (some ⟨w.heap.size + 1, 0, none⟩)] W fun e w' => ∃ bo bl, e = .returned (.tuple #[.pointer (some ⟨bo, 0, none⟩), .int .i64 0]) ∧ St w w' bo bl (w.heap.size + 1) w.heap.size 0 (q0 100000) := by
  refine (oopen0 (w.heap.size + 1) w.heap.size 0 100000 W hD (hE.below bw).2.1 (by omega)).mono ?_
  rintro e w' ⟨bo, bl, h1, h2, h3, h4, h5⟩
  exact ⟨bo, bl, h1, bw.trans (h5.mono bw.size), Nat.le_succ _, Nat.le_refl _, Nat.le_trans bw.size h3, Nat.le_trans bw.size h2, h4⟩
theorem nil_walk (s : ByteArray) (_ : s.size ≤ maxLen) (w : World) (hE : Lg.Env w) : Calls Tryz.prog 3 #[.string s] w fun e w' => e = .returned (.bool true) ∧ Below w.heap.size w w' :=
  nil_of s w fun V hV => awake_of V (hE.below hV) (fun W hW hD => open_at V (hE.below hV) W hW hD) (fun U hU => parse_run U ((hE.below hV).below hU))
end Go.Proofs.YtifiipmmgnmciaaGreatDoor.Sv
