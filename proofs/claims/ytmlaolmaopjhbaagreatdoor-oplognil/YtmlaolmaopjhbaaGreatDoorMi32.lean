/- Joined by mkmerged.py: CdOp2, CdText. -/
import Derived.Test.YtmlaolmaopjhbaaGreatDoorMi31
import Derived.Test.YtmlaolmaopjhbaaGreatDoorMi30
import Derived.Test.YtmlaolmaopjhbaaGreatDoorMi17
import Derived.Test.YtmlaolmaopjhbaaGreatDoorMi03
import Derived.Deep.RegionHeld3
/- CdOp2, what a claim needs of it (prune.py). -/
namespace Go.Proofs.YtmlaolmaopjhbaaGreatDoor.Cd
open Go.RowKit
open Pk (Rd)
open Dk (Kp)
open Ops (Rs Ev Parts evOf)
set_option linter.unusedVariables false
set_option maxRecDepth 100000
abbrev zcells9 : Array Value := #[.string ⟨#[]⟩, .slice none 0 0, .slice none 0 0, .string ⟨#[]⟩, .int .i64 0, .int .i64 0, .string ⟨#[]⟩, .string ⟨#[]⟩, .slice none 0 0]
abbrev zcells10 : Array Value := #[.int .i64 0, .string ⟨#[]⟩, .slice none 0 0, .slice none 0 0, .string ⟨#[]⟩, .int .i64 0, .int .i64 0, .string ⟨#[]⟩, .string ⟨#[]⟩, .slice none 0 0]
def OpSays (w0 w : World) (b c : Nat) (s : Sc) (e : Ending) (w' : World) : Prop := ∃ Ag cg Af cf Ar cr, e = .returned (.agg #[.string s.op.1.n, .slice Ag s.op.1.gr.length cg, .slice Af s.op.1.sn.length cf, .string s.op.1.go, .int .i64 s.op.1.st, .int .i64 s.op.1.r.e, .string s.op.1.r.at_, .string s.op.1.r.tx, .slice Ar s.op.1.r.fs.length cr]) ∧
  GRow w' w.heap.size (.slice Ag s.op.1.gr.length cg) s.op.1.gr ∧ FRow w' w.heap.size (.slice Af s.op.1.sn.length cf) s.op.1.sn ∧ FRow w' w.heap.size (.slice Ar s.op.1.r.fs.length cr) s.op.1.r.fs ∧ Goes w0 w b c s.op.2 w'
set_option maxHeartbeats 8000000 in
theorem scop_any (w0 w : World) (b c : Nat) (s : Sc) (h : Cx w0 w b c s) :
    Calls Tryz.prog 74 #[.pointer (some ⟨c, 0, none⟩)] w (OpSays w0 w b c s) := by
  obtain ⟨W0, eW⟩ : ∃ W0, W0 = w.alloc (.cells zcells9 32) := ⟨_, rfl⟩
  have B0 : Below w.heap.size w W0 := by rw [eW]; exact (Below.refl _ _).alloc (Nat.le_refl _) _
  have z0 : W0.heap[w.heap.size]? = some (.cells zcells9 32 (0, 0)) := by rw [eW]; exact heap_alloc_new _ _
  have x0 : Cx w0 W0.drew b c s := h.below B0.drew
  have hb := h.lt.1
  have hc := h.lt.2
  have hlt := Lg.lt_heap z0
  have q0 := x0.c0
  have ZK : Hid (∀ W, Kp (SS b c) W0.drew W → W.heap[w.heap.size]? = some (.cells zcells9 32 (0, 0))) := Lib.hid fun W k => (k.block _ hlt (fun e => by rcases e with e | e <;> omega)).trans z0
  have NA := Lib.hid (fun W s' x => scnum_any w0 W b c s' x)
  have TA := Lib.hid (fun W s' x => sctext_any w0 W b c s' x)
  have FA : Hid (∀ W s', Cx w0 W b c s' → Calls Tryz.prog 142 #[.pointer (some ⟨c, 0, none⟩)] W fun e w' => ∃ A k, e = .returned (.slice A s'.files.1.length k) ∧ FRow w' W.heap.size (.slice A s'.files.1.length k) s'.files.1 ∧ Goes w0 W b c s'.files.2 w') := Lib.hid (fun W s' x => scfiles_any w0 W b c s' x)
  have GA : Hid (∀ W s', Cx w0 W b c s' → Calls Tryz.prog 141 #[.pointer (some ⟨c, 0, none⟩)] W fun e w' => ∃ A k, e = .returned (.slice A s'.graph.1.length k) ∧ GRow w' W.heap.size (.slice A s'.graph.1.length k) s'.graph.1 ∧ Goes w0 W b c s'.graph.2 w') := Lib.hid (fun W s' x => scgraph_any w0 W b c s' x)
  have RA : Hid (∀ W s', Cx w0 W b c s' → Calls Tryz.prog 143 #[.pointer (some ⟨c, 0, none⟩)] W fun e w' => ∃ A k, e = .returned (.agg #[.int .i64 s'.res.1.e, .string s'.res.1.at_, .string s'.res.1.tx, .slice A s'.res.1.fs.length k]) ∧ FRow w' W.heap.size (.slice A s'.res.1.fs.length k) s'.res.1.fs ∧ Goes w0 W b c s'.res.2 w') := Lib.hid (fun W s' x => scres_any w0 W b c s' x)
  have OP : Hid (s.op = (⟨bs s.text.1, s.text.2.graph.1, s.text.2.graph.2.files.1, bs s.text.2.graph.2.files.2.text.1, s.text.2.graph.2.files.2.text.2.num.1, s.text.2.graph.2.files.2.text.2.num.2.res.1⟩, s.text.2.graph.2.files.2.text.2.num.2.res.2)) := Lib.hid rfl
  have H := Lib.hid h
  have HB := Lib.hid B0
  have HW : Hid (w.heap.size < W0.heap.size) := Lib.hid hlt
  have hne : c ≠ w.heap.size := by omega
  have hne' : w.heap.size ≠ c := by omega
  clear h z0 B0 hb hlt
  go_enter Tryz.func74, Tryz.ntmps74
  go_upto_region 1 with (fail)
  rw [← eW]
  clear eW
  go_region_held3 (fun W => W.cell? ⟨c, 0, none⟩ = some (.pointer (some ⟨b, 0, none⟩))) (first | (with_reducible exact q0) | (with_reducible exact q1) | (with_reducible exact q2) | (with_reducible exact q3) | (with_reducible exact q4) | (with_reducible exact q5) | (with_reducible exact q6) | go_keep) (first
    | (go_at_call 137; (with_reducible refine Calls.mono (TA.out _ _ x0) ?_); rintro e w1 ⟨rfl, x1, k1⟩; have q1 := x1.c0)
    | (go_at_call 141; (with_reducible refine Calls.mono (GA.out _ _ x1) ?_); rintro e w2 ⟨Ag, cg, rfl, hg2, x2, k2⟩; have q2 := x2.c0; have HG := Lib.hid hg2; clear hg2)
    | (go_at_call 142; (with_reducible refine Calls.mono (FA.out _ _ x2) ?_); rintro e w3 ⟨Af, cf, rfl, hf3, x3, k3⟩; have q3 := x3.c0; have HF := Lib.hid hf3; clear hf3)
    | (go_at_call 137; (with_reducible refine Calls.mono (TA.out _ _ x3) ?_); rintro e w4 ⟨rfl, x4, k4⟩; have q4 := x4.c0)
    | (go_at_call 136; (with_reducible refine Calls.mono (NA.out _ _ x4) ?_); rintro e w5 ⟨rfl, x5, k5⟩; have q5 := x5.c0)
    | (go_at_call 143; (with_reducible refine Calls.mono (RA.out _ _ x5) ?_); rintro e w6 ⟨Ar, cr, rfl, hr6, x6, k6⟩; have q6 := x6.c0; have HR := Lib.hid hr6; have kz := ((((k1.trans k2).trans k3).trans k4).trans k5).trans k6; have hz := ZK.out w6 kz; obtain ⟨y0, y1, y2, y3, y4, y5, y6, y7, y8, f0, f1, f2, f3, f4, f5, f6, f7, f8⟩ := Ops.nine hz; have HZ := Lib.hid hz; clear hz hr6))
  all_goals
    go_wp2_with (fail)
    refine bodyPost_ret (results_cell rfl _ _ _ ⟨w.heap.size, 0, none⟩ _ _ rfl (load_op (Ops.set9 HZ.out _ _ _ _ _ _ _ _ _) rfl)) rfl ?_
    have h0 : w.heap.size < W0.heap.size := HW.out
    have h1 : w.heap.size < w1.heap.size := Nat.lt_of_lt_of_le h0 k1.size
    have h2 : w.heap.size < w2.heap.size := Nat.lt_of_lt_of_le h1 k2.size
    have h5 : w.heap.size < w5.heap.size := Nat.lt_of_lt_of_le h2 (((k3.trans k4).trans k5).size)
    have hS1 : ∀ i, SS b c i → i < w1.heap.size := SS.lt x1
    have hS2 : ∀ i, SS b c i → i < w2.heap.size := SS.lt x2
    have FG : GRow w6 w1.heap.size _ _ := HG.out.kp (((k3.trans k4).trans k5).trans k6) hS1
    have FF : FRow w6 w2.heap.size _ _ := HF.out.kp ((k4.trans k5).trans k6) hS2
    unfold OpSays
    rw [OP.out]
    refine ⟨Ag, cg, Af, cf, Ar, cr, rfl, ?_, ?_, ?_, ?_⟩
    · exact (((((((((FG.set h1 _).set h1 _).set h1 _).set h1 _).set h1 _).set h1 _).set h1 _).set h1 _).set h1 _).base (Nat.le_of_lt h1)
    · exact (((((((((FF.set h2 _).set h2 _).set h2 _).set h2 _).set h2 _).set h2 _).set h2 _).set h2 _).set h2 _).base (Nat.le_of_lt h2)
    · exact (((((((((HR.out.set h5 _).set h5 _).set h5 _).set h5 _).set h5 _).set h5 _).set h5 _).set h5 _).set h5 _).base (Nat.le_of_lt h5)
    · have g := Goes.below H.out HB.out.drew x6 kz
      exact Goes.set H.out (Goes.set H.out (Goes.set H.out (Goes.set H.out (Goes.set H.out (Goes.set H.out (Goes.set H.out (Goes.set H.out (Goes.set H.out g (Nat.le_refl _) _) (Nat.le_refl _) _) (Nat.le_refl _) _) (Nat.le_refl _) _) (Nat.le_refl _) _) (Nat.le_refl _) _) (Nat.le_refl _) _) (Nat.le_refl _) _) (Nat.le_refl _) _
def DoneSays (s : Sc) (v : Value) (w : World) (e : Ending) (w' : World) : Prop := e = .returned (.tuple #[if s.fin ≠ 0 then .agg zcells10 else v, .int .i64 (s.fin : Int)]) ∧ Below w.heap.size w w'
set_option maxHeartbeats 4000000 in
theorem done_any (w0 w : World) (b c : Nat) (s : Sc) (k : Int) (x : Op) (Ag : Option Addr) (cg : Nat) (Af : Option Addr) (cf : Nat) (Ar : Option Addr) (cr : Nat) (h : Cx w0 w b c s) :
    Calls Tryz.prog 144 #[.pointer (some ⟨c, 0, none⟩), .agg #[.int .i64 k, .string x.n, .slice Ag x.gr.length cg, .slice Af x.sn.length cf, .string x.go, .int .i64 x.st, .int .i64 x.r.e, .string x.r.at_, .string x.r.tx, .slice Ar x.r.fs.length cr]] w (DoneSays s (.agg #[.int .i64 k, .string x.n, .slice Ag x.gr.length cg, .slice Af x.sn.length cf, .string x.go, .int .i64 x.st, .int .i64 x.r.e, .string x.r.at_, .string x.r.tx, .slice Ar x.r.fs.length cr]) w) := by
  obtain ⟨W0, eW⟩ : ∃ W0, W0 = ((w.alloc (.cells #[.int .i64 k, .string x.n, .slice Ag x.gr.length cg, .slice Af x.sn.length cf, .string x.go, .int .i64 x.st, .int .i64 x.r.e, .string x.r.at_, .string x.r.tx, .slice Ar x.r.fs.length cr] 34)).alloc (.cells zcells10 34)).alloc (.cells zcells10 34) := ⟨_, rfl⟩
  have B0 : Below w.heap.size w W0 := by rw [eW]; exact (((Below.refl _ _).alloc (Nat.le_refl _) _).alloc (by simp) _).alloc (by simp; omega) _
  have z0 : W0.heap[w.heap.size]? = some (.cells #[.int .i64 k, .string x.n, .slice Ag x.gr.length cg, .slice Af x.sn.length cf, .string x.go, .int .i64 x.st, .int .i64 x.r.e, .string x.r.at_, .string x.r.tx, .slice Ar x.r.fs.length cr] 34 (0, 0)) := by rw [eW]; exact heap_alloc_lt (heap_alloc_lt (heap_alloc_new w _))
  have z1 : W0.heap[w.heap.size + 1]? = some (.cells zcells10 34 (0, 0)) := by
    rw [eW]
    refine heap_alloc_lt ?_
    have := heap_alloc_new (w.alloc (.cells #[.int .i64 k, .string x.n, .slice Ag x.gr.length cg, .slice Af x.sn.length cf, .string x.go, .int .i64 x.st, .int .i64 x.r.e, .string x.r.at_, .string x.r.tx, .slice Ar x.r.fs.length cr] 34)) (.cells zcells10 34)
    simpa using this
  have z2 : W0.heap[w.heap.size + 2]? = some (.cells zcells10 34 (0, 0)) := by
    rw [eW]
    have := heap_alloc_new ((w.alloc (.cells #[.int .i64 k, .string x.n, .slice Ag x.gr.length cg, .slice Af x.sn.length cf, .string x.go, .int .i64 x.st, .int .i64 x.r.e, .string x.r.at_, .string x.r.tx, .slice Ar x.r.fs.length cr] 34)).alloc (.cells zcells10 34)) (.cells zcells10 34)
    simpa using this
  have x0 := h.below B0
  have c0 := x0.c0
  have c1 : W0.cell? ⟨c, 1, none⟩ = some (.bool s.odd) := (cell_heap x0.at_.sc 1).trans rfl
  have RE := Lib.hid (rend_any b s.rd W0 x0.at_.rd)
  have HB := Lib.hid B0
  have Z1 := Lib.hid z1
  have FI : Hid (s.fin = if s.rd.fin ≠ 0 then s.rd.fin else if s.odd = true then 11 else 0) := Lib.hid rfl
  obtain ⟨t0, t1, t2, t3, t4, t5, t6, t7, t8, t9, g0, g1, g2, g3, g4, g5, g6, g7, g8, g9⟩ := ten z1
  clear B0 x0 h z1
  by_cases hf : s.rd.fin = 0
  · rw [hf] at RE FI
    cases ho : s.odd
    · rw [ho] at FI c1
      have F : Hid (s.fin = 0) := Lib.hid (by rw [FI.out]; simp)
      obtain ⟨y0, y1, y2, y3, y4, y5, y6, y7, y8, y9, _, _, _, _, _, _, _, _, _, _⟩ := ten z0
      clear FI hf ho z0 z2
      go_enter Tryz.func144, Tryz.ntmps144
      go_upto_region 2 with (fail)
      rw [← eW]
      clear eW
      go_wp2_with (go_at_call 71; (with_reducible refine (RE.out).mono ?_); rintro e w' ⟨rfl, rfl⟩)
      (try simp only [Exit.inBlock, Exit.then])
      refine bodyPost_ret_by (Lg.results_cell_row2 rfl _ _ (w.heap.size + 1) 34 _ (0, 0) _ rfl (set10 Z1.out _ _ _ _ _ _ _ _ _ _) rfl rfl (by kernel_rfl)) rfl ?_
      unfold DoneSays
      rw [F.out]
      exact ⟨rfl, set10_below HB.out (by omega) _ _ _ _ _ _ _ _ _ _⟩
    · rw [ho] at FI c1
      have F : Hid (s.fin = 11) := Lib.hid (by rw [FI.out]; simp)
      obtain ⟨y0, y1, y2, y3, y4, y5, y6, y7, y8, y9, _, _, _, _, _, _, _, _, _, _⟩ := ten z2
      clear FI hf ho z0 z2
      go_enter Tryz.func144, Tryz.ntmps144
      go_upto_region 2 with (fail)
      rw [← eW]
      clear eW
      go_wp2_with (go_at_call 71; (with_reducible refine (RE.out).mono ?_); rintro e w' ⟨rfl, rfl⟩)
      (try simp only [Exit.inBlock, Exit.then])
      refine bodyPost_ret_by (Lg.results_cell_row2 rfl _ _ (w.heap.size + 1) 34 _ (0, 0) _ rfl (set10 Z1.out _ _ _ _ _ _ _ _ _ _) rfl rfl (by kernel_rfl)) rfl ?_
      unfold DoneSays
      rw [F.out]
      exact ⟨rfl, set10_below HB.out (by omega) _ _ _ _ _ _ _ _ _ _⟩
  · have n1 : ((s.rd.fin : Int) != 0) = true := by simp; omega
    have n2 : ¬ (s.rd.fin : Int) = 0 := by omega
    have F : Hid (s.fin = s.rd.fin) := Lib.hid (by rw [FI.out, if_pos hf])
    have HF := Lib.hid hf
    obtain ⟨y0, y1, y2, y3, y4, y5, y6, y7, y8, y9, _, _, _, _, _, _, _, _, _, _⟩ := ten z2
    clear FI hf z0 z2
    generalize s.rd.fin = q at *
    go_enter Tryz.func144, Tryz.ntmps144
    go_upto_region 2 with (fail)
    rw [← eW]
    clear eW
    go_wp2_with (go_at_call 71; (with_reducible refine (RE.out).mono ?_); rintro e w' ⟨rfl, rfl⟩)
    (try simp only [Exit.inBlock, Exit.then])
    refine bodyPost_ret_by (Lg.results_cell_row2 rfl _ _ (w.heap.size + 1) 34 _ (0, 0) _ rfl (set10 Z1.out _ _ _ _ _ _ _ _ _ _) rfl rfl (by kernel_rfl)) rfl ?_
    unfold DoneSays
    rw [F.out, if_pos HF.out]
    exact ⟨rfl, set10_below HB.out (by omega) _ _ _ _ _ _ _ _ _ _⟩
def REvSays (l : B) (w : World) (e : Ending) (w' : World) : Prop := (∃ Ag cg Af cf Ar cr, e = .returned (.tuple #[evOf (readEv l).1.k (readEv l).1.x Ag cg Af cf Ar cr, .int .i64 ((readEv l).2 : Int)]) ∧ Parts w' (readEv l).1.x Ag cg Af cf Ar cr) ∧ Below w.heap.size w w'
theorem row_later {w w' : World} {B : Nat} {v : Value} {l : List Fl} (h : FRow w B v l) (k : Below w.heap.size w w') : FRow w' B v l := h.kp (S := fun _ => False) (Kp.of_below k) (fun i hi => hi.elim)
theorem grow_later {w w' : World} {B : Nat} {v : Value} {l : List Tg} (h : GRow w B v l) (k : Below w.heap.size w w') : GRow w' B v l := h.kp (S := fun _ => False) (Kp.of_below k) (fun i hi => hi.elim)
theorem parts_rows {w : World} {B : Nat} {x : Op} {Ag : Option Addr} {cg : Nat} {Af : Option Addr} {cf : Nat} {Ar : Option Addr} {cr : Nat} (hg : GRow w B (.slice Ag x.gr.length cg) x.gr) (hf : FRow w B (.slice Af x.sn.length cf) x.sn) (hr : FRow w B (.slice Ar x.r.fs.length cr) x.r.fs) : Parts w x Ag cg Af cf Ar cr := by
  obtain ⟨A1, c1, e1, l1, h1⟩ := hg.form
  obtain ⟨A2, c2, e2, l2, h2⟩ := hf.form
  obtain ⟨A3, c3, e3, l3, h3⟩ := hr.form
  injection e1 with a1 _ b1
  injection e2 with a2 _ b2
  injection e3 with a3 _ b3
  subst a1 b1 a2 b2 a3 b3
  exact ⟨h1, h2, h3, l1, l2, l3⟩
theorem GRow.put10 {w : World} {B g : Nat} {v : Value} {l : List Tg} (h : GRow w B v l) (hq : g < B) (b0 b1 b2 b3 b4 b5 b6 b7 b8 b9 : Value) : GRow (Cd.put10 w g b0 b1 b2 b3 b4 b5 b6 b7 b8 b9) B v l := ((((((((((h.set (p := ⟨g, _, none⟩) hq _).set (p := ⟨g, _, none⟩) hq _).set (p := ⟨g, _, none⟩) hq _).set (p := ⟨g, _, none⟩) hq _).set (p := ⟨g, _, none⟩) hq _).set (p := ⟨g, _, none⟩) hq _).set (p := ⟨g, _, none⟩) hq _).set (p := ⟨g, _, none⟩) hq _).set (p := ⟨g, _, none⟩) hq _).set (p := ⟨g, _, none⟩) hq _)
theorem FRow.put10 {w : World} {B g : Nat} {v : Value} {l : List Fl} (h : FRow w B v l) (hq : g < B) (b0 b1 b2 b3 b4 b5 b6 b7 b8 b9 : Value) : FRow (Cd.put10 w g b0 b1 b2 b3 b4 b5 b6 b7 b8 b9) B v l := ((((((((((h.set (p := ⟨g, _, none⟩) hq _).set (p := ⟨g, _, none⟩) hq _).set (p := ⟨g, _, none⟩) hq _).set (p := ⟨g, _, none⟩) hq _).set (p := ⟨g, _, none⟩) hq _).set (p := ⟨g, _, none⟩) hq _).set (p := ⟨g, _, none⟩) hq _).set (p := ⟨g, _, none⟩) hq _).set (p := ⟨g, _, none⟩) hq _).set (p := ⟨g, _, none⟩) hq _)
theorem zero_partsE (w : World) : Parts w zeroE.x none 0 none 0 none 0 := ⟨Tgs.none_ _ _ _, ⟨rfl, fun h => absurd h (by decide)⟩, ⟨rfl, fun h => absurd h (by decide)⟩, Nat.le_refl _, Nat.le_refl _, Nat.le_refl _⟩
set_option maxHeartbeats 4000000 in
theorem readEvent_any (l : B) (hl : l.length ≤ 100000000) (w : World) (hE : Lg.Env w) :
    Calls Tryz.prog 75 #[.string (bs l)] w (REvSays l w) := by
  obtain ⟨W0, eW⟩ : ∃ W0, W0 = w.alloc (.cells zcells10 34) := ⟨_, rfl⟩
  have B0 : Below w.heap.size w W0 := by rw [eW]; exact (Below.refl _ _).alloc (Nat.le_refl _) _
  have z0 : W0.heap[w.heap.size]? = some (.cells zcells10 34 (0, 0)) := by rw [eW]; exact heap_alloc_new _ _
  have hlt := Lg.lt_heap z0
  have TK := Lib.hid (sctake_any w hE l hl W0 B0)
  have NA := Lib.hid (fun b c W s' x => scnum_any w W b c s' x)
  have OA : Hid (∀ b c W s', Cx w W b c s' → Calls Tryz.prog 74 #[.pointer (some ⟨c, 0, none⟩)] W fun e w' => ∃ Ag cg Af cf Ar cr, e = .returned (.agg #[.string s'.op.1.n, .slice Ag s'.op.1.gr.length cg, .slice Af s'.op.1.sn.length cf, .string s'.op.1.go, .int .i64 s'.op.1.st, .int .i64 s'.op.1.r.e, .string s'.op.1.r.at_, .string s'.op.1.r.tx, .slice Ar s'.op.1.r.fs.length cr]) ∧
    GRow w' W.heap.size (.slice Ag s'.op.1.gr.length cg) s'.op.1.gr ∧ FRow w' W.heap.size (.slice Af s'.op.1.sn.length cf) s'.op.1.sn ∧ FRow w' W.heap.size (.slice Ar s'.op.1.r.fs.length cr) s'.op.1.r.fs ∧ Goes w W b c s'.op.2 w') := Lib.hid (fun b c W s' x => scop_any w W b c s' x)
  have EV : Hid (Sc.ev ⟨⟨l, 0⟩, false⟩ = (⟨(Sc.num ⟨⟨l, 0⟩, false⟩).1, (Sc.num ⟨⟨l, 0⟩, false⟩).2.op.1⟩, (Sc.num ⟨⟨l, 0⟩, false⟩).2.op.2)) := Lib.hid rfl
  have RV : Hid (readEv l = if (Sc.num ⟨⟨l, 0⟩, false⟩).2.op.2.fin ≠ 0 then (zeroE, (Sc.num ⟨⟨l, 0⟩, false⟩).2.op.2.fin) else (⟨(Sc.num ⟨⟨l, 0⟩, false⟩).1, (Sc.num ⟨⟨l, 0⟩, false⟩).2.op.1⟩, 0)) := Lib.hid rfl
  have HLT := Lib.hid hlt
  have Z0 := Lib.hid z0
  clear z0 B0 hlt EV
  generalize (⟨⟨l, 0⟩, false⟩ : Sc) = s at *
  by_cases hf : s.num.2.op.2.fin = 0
  · have E0 : Hid (readEv l = (⟨s.num.1, s.num.2.op.1⟩, 0)) := Lib.hid (by rw [RV.out, if_neg (by simp [hf])])
    have DA : Hid (∀ b c W, Cx w W b c s.num.2.op.2 → ∀ Ag cg Af cf Ar cr, Calls Tryz.prog 144 #[.pointer (some ⟨c, 0, none⟩), .agg #[.int .i64 s.num.1, .string s.num.2.op.1.n, .slice Ag s.num.2.op.1.gr.length cg, .slice Af s.num.2.op.1.sn.length cf, .string s.num.2.op.1.go, .int .i64 s.num.2.op.1.st, .int .i64 s.num.2.op.1.r.e, .string s.num.2.op.1.r.at_, .string s.num.2.op.1.r.tx, .slice Ar s.num.2.op.1.r.fs.length cr]] W fun e w' => e = .returned (.tuple #[.agg #[.int .i64 s.num.1, .string s.num.2.op.1.n, .slice Ag s.num.2.op.1.gr.length cg, .slice Af s.num.2.op.1.sn.length cf, .string s.num.2.op.1.go, .int .i64 s.num.2.op.1.st, .int .i64 s.num.2.op.1.r.e, .string s.num.2.op.1.r.at_, .string s.num.2.op.1.r.tx, .slice Ar s.num.2.op.1.r.fs.length cr], .int .i64 0]) ∧ Below W.heap.size W w') := Lib.hid fun b c W x Ag cg Af cf Ar cr => (done_any w W b c s.num.2.op.2 s.num.1 s.num.2.op.1 Ag cg Af cf Ar cr x).mono (by
      rintro e w' ⟨h1, h2⟩
      rw [hf] at h1
      exact ⟨h1, h2⟩)
    clear hf RV
    go_enter Tryz.func75, Tryz.ntmps75
    go_upto_region 1 with (fail)
    rw [← eW]
    clear eW
    go_upto_region 2 with (go_at_call 72; (with_reducible refine (TK.out).mono ?_); rintro e w1 ⟨⟨b, c, rfl, x1, hb1, hc1⟩, hb01⟩)
    have c0 := x1.c0
    have Z1 := Lib.hid ((hb01.block _ HLT.out).trans Z0.out)
    have hL := HLT.out
    go_wp2_with (first
      | (go_at_call 136; (with_reducible refine Calls.mono (NA.out _ _ _ _ x1) ?_); rintro e w2 ⟨rfl, x2, k2⟩)
      | (go_at_call 74; (with_reducible refine Calls.mono (OA.out _ _ _ _ x2) ?_); rintro e w3 ⟨Ag, cg, Af, cf, Ar, cr, rfl, hg3, hf3, hr3, x3, k3⟩; have HG := Lib.hid hg3; have HF := Lib.hid hf3; have HR := Lib.hid hr3; clear hg3 hf3 hr3)
      | (go_at_call 144; (with_reducible refine Calls.mono (DA.out _ _ _ x3 Ag cg Af cf Ar cr) ?_); rintro e w4 ⟨rfl, hb4⟩; have Z4 := ((hb4.block _ (by have := k2.size; have := k3.size; have := hb01.size; omega)).trans ((k3.block _ (by have := k2.size; have := hb01.size; omega) (fun e => by rcases e with e | e <;> omega)).trans ((k2.block _ (by have := hb01.size; omega) (fun e => by rcases e with e | e <;> omega)).trans Z1.out))); obtain ⟨t0, t1, t2, t3, t4, t5, t6, t7, t8, t9, g0, g1, g2, g3, g4, g5, g6, g7, g8, g9⟩ := ten Z4; have ZZ := Lib.hid Z4; clear Z4))
    (try simp only [Exit.inBlock, Exit.then])
    refine bodyPost_ret_by (Lg.results_cell_row2 rfl _ _ w.heap.size 34 _ (0, 0) _ rfl (set10 ZZ.out _ _ _ _ _ _ _ _ _ _) rfl rfl (by kernel_rfl)) rfl ?_
    have hq : w.heap.size < w2.heap.size := by have := k2.size; have := hb01.size; omega
    have hw4 : Below w.heap.size w w4 := x3.hw.trans (hb4.mono x3.hw.size)
    unfold REvSays
    rw [E0.out]
    exact ⟨⟨Ag, cg, Af, cf, Ar, cr, rfl, parts_rows (B := w2.heap.size) ((grow_later HG.out hb4).put10 hq _ _ _ _ _ _ _ _ _ _) ((row_later HF.out hb4).put10 hq _ _ _ _ _ _ _ _ _ _) ((row_later HR.out hb4).put10 hq _ _ _ _ _ _ _ _ _ _)⟩, set10_below hw4 (Nat.le_refl _) _ _ _ _ _ _ _ _ _ _⟩
  · have E0 : Hid (readEv l = (zeroE, s.num.2.op.2.fin)) := Lib.hid (by rw [RV.out, if_pos hf])
    have DA : Hid (∀ b c W, Cx w W b c s.num.2.op.2 → ∀ Ag cg Af cf Ar cr, Calls Tryz.prog 144 #[.pointer (some ⟨c, 0, none⟩), .agg #[.int .i64 s.num.1, .string s.num.2.op.1.n, .slice Ag s.num.2.op.1.gr.length cg, .slice Af s.num.2.op.1.sn.length cf, .string s.num.2.op.1.go, .int .i64 s.num.2.op.1.st, .int .i64 s.num.2.op.1.r.e, .string s.num.2.op.1.r.at_, .string s.num.2.op.1.r.tx, .slice Ar s.num.2.op.1.r.fs.length cr]] W fun e w' => e = .returned (.tuple #[.agg zcells10, .int .i64 (s.num.2.op.2.fin : Int)]) ∧ Below W.heap.size W w') := Lib.hid fun b c W x Ag cg Af cf Ar cr => (done_any w W b c s.num.2.op.2 s.num.1 s.num.2.op.1 Ag cg Af cf Ar cr x).mono (by
      rintro e w' ⟨h1, h2⟩
      rw [if_pos hf] at h1
      exact ⟨h1, h2⟩)
    clear hf RV
    generalize s.num.2.op.2.fin = F at *
    have HZ : Hid (evOf zeroE.k zeroE.x none 0 none 0 none 0 = .agg zcells10) := Lib.hid rfl
    go_enter Tryz.func75, Tryz.ntmps75
    go_upto_region 1 with (fail)
    rw [← eW]
    clear eW
    go_upto_region 2 with (go_at_call 72; (with_reducible refine (TK.out).mono ?_); rintro e w1 ⟨⟨b, c, rfl, x1, hb1, hc1⟩, hb01⟩)
    have c0 := x1.c0
    have Z1 := Lib.hid ((hb01.block _ HLT.out).trans Z0.out)
    have hL := HLT.out
    go_wp2_with (first
      | (go_at_call 136; (with_reducible refine Calls.mono (NA.out _ _ _ _ x1) ?_); rintro e w2 ⟨rfl, x2, k2⟩)
      | (go_at_call 74; (with_reducible refine Calls.mono (OA.out _ _ _ _ x2) ?_); rintro e w3 ⟨Ag, cg, Af, cf, Ar, cr, rfl, hg3, hf3, hr3, x3, k3⟩; have HG := Lib.hid hg3; have HF := Lib.hid hf3; have HR := Lib.hid hr3; clear hg3 hf3 hr3)
      | (go_at_call 144; (with_reducible refine Calls.mono (DA.out _ _ _ x3 Ag cg Af cf Ar cr) ?_); rintro e w4 ⟨rfl, hb4⟩; have Z4 := ((hb4.block _ (by have := k2.size; have := k3.size; have := hb01.size; omega)).trans ((k3.block _ (by have := k2.size; have := hb01.size; omega) (fun e => by rcases e with e | e <;> omega)).trans ((k2.block _ (by have := hb01.size; omega) (fun e => by rcases e with e | e <;> omega)).trans Z1.out))); obtain ⟨t0, t1, t2, t3, t4, t5, t6, t7, t8, t9, g0, g1, g2, g3, g4, g5, g6, g7, g8, g9⟩ := ten Z4; have ZZ := Lib.hid Z4; clear Z4))
    (try simp only [Exit.inBlock, Exit.then])
    refine bodyPost_ret_by (Lg.results_cell_row2 rfl _ _ w.heap.size 34 _ (0, 0) _ rfl (set10 ZZ.out _ _ _ _ _ _ _ _ _ _) rfl rfl (by kernel_rfl)) rfl ?_
    have hq : w.heap.size < w2.heap.size := by have := k2.size; have := hb01.size; omega
    have hw4 : Below w.heap.size w w4 := x3.hw.trans (hb4.mono x3.hw.size)
    unfold REvSays
    rw [E0.out]
    exact ⟨⟨none, 0, none, 0, none, 0, by rw [HZ.out]; rfl, zero_partsE _⟩, set10_below hw4 (Nat.le_refl _) _ _ _ _ _ _ _ _ _ _⟩
end Go.Proofs.YtmlaolmaopjhbaaGreatDoor.Cd
/- CdText, what a claim needs of it (prune.py). -/
namespace Go.Proofs.YtmlaolmaopjhbaaGreatDoor.Cd
open Go.RowKit
set_option linter.unusedVariables false
set_option maxRecDepth 100000
structure RowV (T : TypeId) (w : World) (g : Nat) (A : Option Addr) (vs : List Value) : Prop where
  h : ∃ cs fr, w.heap[g]? = some (.cells cs T fr)
  r : Reads w w.heap.size 1 A vs.length vs
  a : ∀ ad, A = some ad → ad.block = g
theorem RowV.keep {T : TypeId} {w w' : World} {g : Nat} {A : Option Addr} {vs : List Value} (h : RowV T w g A vs) (hk : w'.heap[g]? = w.heap[g]?) (hs : w.heap.size ≤ w'.heap.size) : RowV T w' g A vs :=
  ⟨by rw [hk]; exact h.h, ⟨h.r.1, fun hn => by
    obtain ⟨ad, e, hb, hc⟩ := h.r.2 hn
    exact ⟨ad, e, Nat.lt_of_lt_of_le hb hs, fun j u hu => (World.cell?_of_block (by rw [block_of_add, h.a ad e]; exact hk)).trans (hc j u hu)⟩⟩, h.a⟩
theorem RowV.lt {T : TypeId} {w : World} {g : Nat} {A : Option Addr} {vs : List Value} (h : RowV T w g A vs) : g < w.heap.size := by
  obtain ⟨cs, fr, h⟩ := h.h
  exact Lg.lt_heap h
theorem RowV.ku {T : TypeId} {w w' : World} {g b : Nat} {A : Option Addr} {vs : List Value} (h : RowV T w g A vs) (hT : T ≠ 5) (hb : g ≠ b) (k : KU b w w') (hs : w.heap.size ≤ w'.heap.size) : RowV T w' g A vs := by
  refine h.keep (k g h.lt hb fun cs fr e => ?_) hs
  obtain ⟨cs', fr', h1⟩ := h.h
  rw [h1] at e
  injection e with e
  injection e with _ e2 _
  exact hT e2
theorem RowV.new (T : TypeId) (w : World) (vs : List Value) : RowV T (w.alloc (.cells vs.toArray T)) w.heap.size (some ⟨w.heap.size, 0, none⟩) vs := by
  have h : (w.alloc (.cells vs.toArray T)).heap[w.heap.size]? = some (.cells vs.toArray T (0, 0)) := heap_alloc_new _ _
  refine ⟨⟨_, _, h⟩, ⟨by simp, fun _ => ⟨_, rfl, Lg.lt_heap h, fun j u hu => ?_⟩⟩, fun ad e => by injection e with e; rw [← e]⟩
  rw [Lg.add_eq, Lg.cell_at h]
  simpa using hu
def Sh (w0 : World) (b : Nat) (acc : B) (w : World) : Prop := Below w0.heap.size w0 w ∧ ShAt w0.heap.size b acc w
theorem ShAt.later {w w' : World} {B b : Nat} {l : List UInt8} (h : ShAt B b l w) (k : Below w.heap.size w w') : ShAt B b l w' := by
  rcases h with ⟨hB, v, hb, ho, hn⟩ | ⟨hB, v, hb, ho, hn⟩
  · exact .inl ⟨hB, v, heap_below k (lt_heap hb) hb, own_later ho k, hn⟩
  · exact .inr ⟨hB, v, heap_below k (lt_heap hb) hb, own_later ho k, hn⟩
theorem ShAt.lt {w : World} {B b : Nat} {l : List UInt8} (h : ShAt B b l w) : b < w.heap.size ∧ ∃ cs fr, w.heap[b]? = some (.cells cs 141 fr) := by
  rcases h with ⟨hB, v, hb, ho, hn⟩ | ⟨hB, v, hb, ho, hn⟩
  · exact ⟨lt_heap hb, _, _, hb⟩
  · exact ⟨lt_heap hb, _, _, hb⟩
theorem Sh.later {w0 w w' : World} {b : Nat} {acc : B} (h : Sh w0 b acc w) (k : Below w.heap.size w w') : Sh w0 b acc w' := ⟨h.1.trans (k.mono h.1.size), h.2.later k⟩
theorem RowV.ne {T : TypeId} {w w0 : World} {g b : Nat} {A : Option Addr} {vs : List Value} {acc : B} (h : RowV T w g A vs) (hT : T ≠ 141) (k : Sh w0 b acc w) : g ≠ b := fun e => by
  obtain ⟨_, cs, fr, h1⟩ := k.2.lt
  obtain ⟨cs', fr', h2⟩ := h.h
  rw [e, h1] at h2
  injection h2 with h2
  injection h2 with _ h2 _
  exact hT h2.symm
def KUs (b : Nat) (w w' : World) : Prop := KU b w w' ∧ w.heap.size ≤ w'.heap.size
theorem KUs.refl (b : Nat) (w : World) : KUs b w w := ⟨fun _ _ _ _ => rfl, Nat.le_refl _⟩
theorem KUs.trans {b : Nat} {w w1 w2 : World} (h : KUs b w w1) (k : KUs b w1 w2) : KUs b w w2 := ⟨h.1.trans k.1 h.2, Nat.le_trans h.2 k.2⟩
theorem KUs.of_below {b : Nat} {w w' : World} (h : Below w.heap.size w w') : KUs b w w' := ⟨KU.of_below h, h.size⟩
theorem KUs.alloc {b : Nat} {w w' : World} (h : KUs b w w') (o : Obj) : KUs b w (w'.alloc o) := h.trans (KUs.of_below ((Below.refl _ _).alloc (Nat.le_refl _) o))
theorem KUs.drew {b : Nat} {w w' : World} (h : KUs b w w') : KUs b w w'.drew := h
theorem RowV.kus {T : TypeId} {w w' : World} {g b : Nat} {A : Option Addr} {vs : List Value} (h : RowV T w g A vs) (hT : T ≠ 5) (hb : g ≠ b) (k : KUs b w w') : RowV T w' g A vs := h.ku hT hb k.1 k.2
def Wrote (w0 : World) (b : Nat) (acc : B) (w : World) (e : Ending) (w' : World) : Prop := e = .returned (.pointer (some ⟨b, 0, none⟩)) ∧ Sh w0 b acc w' ∧ KUs b w w'
theorem flat_take {α : Type} (f : α → B) (l : List α) (k : Nat) (h : k < l.length) : (l.take (k + 1)).flatMap f = (l.take k).flatMap f ++ f l[k] := by
  rw [List.take_succ_eq_append_getElem h, List.flatMap_append]; simp
theorem flat_le {α : Type} (f : α → B) (l : List α) (k : Nat) (h : k < l.length) : ((l.take k).flatMap f).length + (f l[k]).length ≤ (l.flatMap f).length := by
  have : l = l.take (k + 1) ++ l.drop (k + 1) := (List.take_append_drop _ _).symm
  conv => rhs; rw [this, List.flatMap_append, List.length_append, flat_take f l k h, List.length_append]
  omega
set_option maxHeartbeats 2000000 in
theorem stext_any (w0 : World) (ht : Tab w0) (b g : Nat) (acc : B) (A : Option Addr) (ts : List ByteArray) (c : Nat) (w : World) (h : Sh w0 b acc w) (hr : RowV 9 w g A (ts.map Value.string)) (hl : ts.length ≤ 1000) (hz : acc.length + (ts.flatMap fun t => Pk.text (tl t)).length ≤ 500000000) :
    Calls Tryz.prog 154 #[.pointer (some ⟨b, 0, none⟩), .slice A ts.length c] w (Wrote w0 b (acc ++ ts.flatMap fun t => Pk.text (tl t)) w) := by
  go_enter Tryz.func154, Tryz.ntmps154
  go_wp2_with (fail)
  go_loopw [9] (fun i wx => ∃ k : Nat, i = .int .i64 k ∧ k ≤ ts.length ∧ Sh w0 b (acc ++ (ts.take k).flatMap fun t => Pk.text (tl t)) wx ∧ RowV 9 wx g A (ts.map Value.string) ∧ KUs b w wx) (fun i _ => ts.length - (intOf i).toNat)
  case atStart => exact ⟨0, rfl, by omega, by simpa using h, hr, KUs.refl _ _⟩
  case round =>
    obtain ⟨k, rfl, hk, hsb, hrx, hkx⟩ := hrel
    rename World => wx
    by_cases hlt : k < ts.length
    · have hgb := hrx.ne (by decide) hsb
      obtain ⟨ad, e1, had, hc⟩ := hrx.r.2 (by simp; omega)
      subst e1
      have hc1 : wx.cell? (ad.add k) = some (.string ts[k]) := hc k _ (by simp [hlt])
      have FT := Lib.hid (flat_take (fun t => Pk.text (tl t)) ts k hlt)
      have FL := flat_le (fun t => Pk.text (tl t)) ts k hlt
      have TX := text_len (tl ts[k])
      have hsz : ts[k].size = (tl ts[k]).length := Lib.size_eq _
      have TXT := Lib.hid (text_any ts[k] (by omega) wx.drew (ht.on hsb.1.drew))
      clear hc
      generalize ts[k] = s at *
      generalize eq : (ts.take k).flatMap (fun t => Pk.text (tl t)) = pre at *
      have hzz : (bs (Pk.text (tl s))).size = (Pk.text (tl s)).length := bs_size _
      have hbl : (acc ++ pre).length + (bs (Pk.text (tl s))).size ≤ 140737488355328 := by rw [List.length_append]; omega
      have HB := Lib.hid hbl
      clear hzz hsz hbl eq FL TX
      have hkI : (k : Int) < (ts.length : Int) := by omega
      go_upto_region 4 with (fail)
      clear hc1
      go_region_held3 (fun _ => True) (trivial) (first
        | (go_at_call 87; (with_reducible refine Calls.mono (TXT.out) ?_); rintro e w1 ⟨rfl, hb1⟩; have hb1' := (Below.refl wx.heap.size wx).drew.trans hb1; have hsb1 := hsb.later hb1'; have hq1 : Below w0.heap.size w0 w1 := hsb1.1; have hq2 : ShAt w0.heap.size b (acc ++ pre) w1 := hsb1.2; have hq3 := hq1.size; have hr1 := hrx.keep (hb1'.block g hrx.lt) hb1'.size; clear hb1)
        | (go_at_call 100; (with_reducible refine Calls.mono (swrite_any w0.heap.size b (acc ++ pre) _ _ hq2 HB.out hq3) ?_); rintro e w2 ⟨rfl, hsb2, hb2, hk2⟩))
      (try go_wp2_with (fail))
      go_roundw
      case rel => exact ⟨k + 1, by go_num, by omega, by rw [FT.out, ← List.append_assoc]; exact ⟨hq1.trans hb2, hsb2⟩, hr1.ku (by decide) hgb hk2 hb2.size, (hkx.trans (KUs.of_below hb1')).trans ⟨hk2, hb2.size⟩⟩
      case measure => simp [intOf]; omega
    · obtain rfl : k = ts.length := by omega
      rw [List.take_length] at hsb
      clear hrx
      go_wp2_with (fail)
      go_ret
      exact ⟨rfl, hsb, hkx⟩
set_option maxHeartbeats 2000000 in
theorem snum_any (w0 : World) (ht : Tab w0) (b g : Nat) (acc : B) (A : Option Addr) (ts : List Int) (c : Nat) (w : World) (h : Sh w0 b acc w) (hr : RowV 3 w g A (ts.map (Value.int .i64))) (hl : ts.length ≤ 1000) (hi : ∀ n ∈ ts, -9223372036854775808 ≤ n ∧ n ≤ 9223372036854775807) (hz : acc.length + (ts.flatMap fun n => Pk.text (Lib.itoa n)).length ≤ 500000000) :
    Calls Tryz.prog 104 #[.pointer (some ⟨b, 0, none⟩), .slice A ts.length c] w (Wrote w0 b (acc ++ ts.flatMap fun n => Pk.text (Lib.itoa n)) w) := by
  go_enter Tryz.func104, Tryz.ntmps104
  go_wp2_with (fail)
  go_loopw [9] (fun i wx => ∃ k : Nat, i = .int .i64 k ∧ k ≤ ts.length ∧ Sh w0 b (acc ++ (ts.take k).flatMap fun n => Pk.text (Lib.itoa n)) wx ∧ RowV 3 wx g A (ts.map (Value.int .i64)) ∧ KUs b w wx) (fun i _ => ts.length - (intOf i).toNat)
  case atStart => exact ⟨0, rfl, by omega, by simpa using h, hr, KUs.refl _ _⟩
  case round =>
    obtain ⟨k, rfl, hk, hsb, hrx, hkx⟩ := hrel
    rename World => wx
    by_cases hlt : k < ts.length
    · have hgb := hrx.ne (by decide) hsb
      obtain ⟨ad, e1, had, hc⟩ := hrx.r.2 (by simp; omega)
      subst e1
      have hc1 : wx.cell? (ad.add k) = some (.int .i64 ts[k]) := hc k _ (by simp [hlt])
      have FT := Lib.hid (flat_take (fun n => Pk.text (Lib.itoa n)) ts k hlt)
      have FL := flat_le (fun n => Pk.text (Lib.itoa n)) ts k hlt
      obtain ⟨b0, b1⟩ := hi _ (List.getElem_mem hlt)
      have TXT := Lib.hid (pnum_any ts[k] b0 b1 wx.drew (ht.on hsb.1.drew))
      clear hc b0 b1
      generalize ts[k] = s at *
      generalize eq : (ts.take k).flatMap (fun n => Pk.text (Lib.itoa n)) = pre at *
      have hzz : (bs (Pk.text (Lib.itoa s))).size = (Pk.text (Lib.itoa s)).length := bs_size _
      have hbl : (acc ++ pre).length + (bs (Pk.text (Lib.itoa s))).size ≤ 140737488355328 := by rw [List.length_append]; omega
      have HB := Lib.hid hbl
      clear hzz hbl eq FL
      have hkI : (k : Int) < (ts.length : Int) := by omega
      go_upto_region 4 with (fail)
      clear hc1
      go_region_held3 (fun _ => True) (trivial) (first
        | (go_at_call 86; (with_reducible refine Calls.mono (TXT.out) ?_); rintro e w1 ⟨rfl, hb1⟩; have hb1' := (Below.refl wx.heap.size wx).drew.trans hb1; have hsb1 := hsb.later hb1'; have hq1 : Below w0.heap.size w0 w1 := hsb1.1; have hq2 : ShAt w0.heap.size b (acc ++ pre) w1 := hsb1.2; have hq3 := hq1.size; have hr1 := hrx.keep (hb1'.block g hrx.lt) hb1'.size; clear hb1)
        | (go_at_call 100; (with_reducible refine Calls.mono (swrite_any w0.heap.size b (acc ++ pre) _ _ hq2 HB.out hq3) ?_); rintro e w2 ⟨rfl, hsb2, hb2, hk2⟩))
      (try go_wp2_with (fail))
      go_roundw
      case rel => exact ⟨k + 1, by go_num, by omega, by rw [FT.out, ← List.append_assoc]; exact ⟨hq1.trans hb2, hsb2⟩, hr1.ku (by decide) hgb hk2 hb2.size, (hkx.trans (KUs.of_below hb1')).trans ⟨hk2, hb2.size⟩⟩
      case measure => simp [intOf]; omega
    · obtain rfl : k = ts.length := by omega
      rw [List.take_length] at hsb
      clear hrx
      go_wp2_with (fail)
      go_ret
      exact ⟨rfl, hsb, hkx⟩
end Go.Proofs.YtmlaolmaopjhbaaGreatDoor.Cd
