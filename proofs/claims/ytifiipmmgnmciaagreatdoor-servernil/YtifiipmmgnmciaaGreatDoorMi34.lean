/- Joined by mkmerged.py: SvAsk, SvPlanN, SvAdd. -/
import Derived.Test.YtifiipmmgnmciaaGreatDoorMi19
import Derived.Test.YtifiipmmgnmciaaGreatDoorMi29
import Derived.Test.YtifiipmmgnmciaaGreatDoorMi20
import Derived.Deep.RegionWith
import Derived.Deep.QuietTactic
import Derived.BigQuiet
/- SvAsk, what a claim needs of it (prune.py). -/
namespace Go.Proofs.YtifiipmmgnmciaaGreatDoor.Sv
open Go.RowKit Go.Maps
open Dk (Kp)
set_option linter.unusedVariables false
set_option maxRecDepth 100000
def FindHas (W : World) (om : Nat) (TG : Option Addr) (tc : Nat) (s : ByteArray) (tg : Array Value) : Prop := ∀ V, Kp (fun j => j = om) W V → Calls Tryz.prog 66 #[.slice TG 1 tc, .string s] V fun e w' => e = .returned (.tuple #[.agg tg, .bool true]) ∧ Below V.heap.size V w'
def ActKept (W : World) (om : Nat) (c K : ByteArray) : Prop := ∀ V, Kp (fun j => j = om) W V → Calls Tryz.prog 253 #[.string c, .slice none 0 0, .slice none 0 0, .int .i64 50] V fun e w' => e = .returned (.string K) ∧ Below V.heap.size V w'
theorem zVal (W : World) : (zeroValue 162).run Tryz.prog W = .ok (.agg noVal) W := rfl
def askV : Option (Nat × Nat) → Array Value
  | none => lateV
  | some (gf, cf) => gotV gf cf
def AskSays (W : World) (p tc cs dm vm om : Nat) (TG As : Option Addr) (c K : ByteArray) (o : Option (Nat × Nat)) (e : Ending) (w' : World) : Prop :=
  e = .returned (.agg (askV o)) ∧ (o = none → TaskAt W p tc cs dm vm om TG As c K w') ∧ Kp (fun j => j = p ∨ j = vm ∨ j = om) W w'
theorem askV_is (o : Option (Nat × Nat)) : ∃ A nn cc b, askV o = #[.int .i64 0, .string ⟨#[]⟩, .string ⟨#[]⟩, .slice A nn cc, .bool b] := by
  rcases o with _ | ⟨gf, cf⟩
  · exact ⟨_, _, _, _, rfl⟩
  · exact ⟨_, _, _, _, rfl⟩
theorem TaskAt.kp {W w w' : World} {p tc cs dm vm om n1 n2 : Nat} {f1 f2 : ByteArray → Option Value} {TG As : Option Addr} {c K : ByteArray} (h : TaskAt W p tc cs dm vm om TG As c K w) (h1 : Mv.VMap w vm n1 f1) (h2 : Mv.VMap w om n2 f2) (hk : Kp (fun j => j = vm ∨ j = om) w w') : TaskAt W p tc cs dm vm om TG As c K w' := by
  obtain ⟨g, cc, q1, q2, gs, q3, q4⟩ := h
  have e0 : w.cell? ⟨g, 0, none⟩ = some (.string K) := (cell_heap q3 0).trans (q4 0 _ rfl)
  have n1 := h1.nocell (ad := ⟨g, 0, none⟩) e0
  have n2 := h2.nocell (ad := ⟨g, 0, none⟩) e0
  have n3 := h1.nocell (ad := ⟨p, 0, none⟩) (cell_heap q1 0)
  have n4 := h2.nocell (ad := ⟨p, 0, none⟩) (cell_heap q1 0)
  exact ⟨g, cc, (hk.block _ (Lg.lt_heap q1) (fun e => by rcases e with e | e; exact n3 e; exact n4 e)).trans q1, q2, gs, (hk.block _ (Lg.lt_heap q3) (fun e => by rcases e with e | e; exact n1 e; exact n2 e)).trans q3, q4⟩
theorem TaskAt.le {W V w : World} {p tc cs dm vm om : Nat} {TG As : Option Addr} {c K : ByteArray} (h : TaskAt V p tc cs dm vm om TG As c K w) (hl : W.heap.size ≤ V.heap.size) : TaskAt W p tc cs dm vm om TG As c K w := by
  obtain ⟨g, cc, q1, q2, q3⟩ := h
  exact ⟨g, cc, q1, Nat.le_trans hl q2, q3⟩
set_option maxHeartbeats 2000000 in
theorem ask_any (W : World) (p tc cs dm vm om k kv ko : Nat) (TG As Ad At : Option Addr) (cd ct : Nat) (s n c K : ByteArray) (M : ByteArray → Option Value) (o : Option (Nat × Nat)) (h : PB W p TG As tc cs dm vm om (.slice none 0 0)) (hm : Mv.VMap W dm k M) (hv : Mv.VMap W vm kv NoM) (ho : Mv.VMap W om ko NoM) (hko : ko ≤ 900) (hne1 : vm ≠ om) (hne2 : dm ≠ om) (hM : M K = o.map fun q => .agg (ocV (some q))) (hK : K.size ≤ maxLen) (hs : s.size ≤ maxLen) (hA : ActKept W om c K) (hF : FindHas W om TG tc s #[.string n, .string c, .slice Ad 0 cd, .slice At 0 ct]) :
    Calls Tryz.prog 71 #[.pointer (some ⟨p, 0, none⟩), .string s] W (AskSays W p tc cs dm vm om TG As c K o) := by
  obtain ⟨W0, e0⟩ : ∃ W0, W0 = W.alloc (.cells noVal 162) := ⟨_, rfl⟩
  have B0 : Below W.heap.size W W0 := by rw [e0]; exact (Below.refl _ _).alloc (Nat.le_refl _) _
  have z0 : W0.heap.size = W.heap.size + 1 := by rw [e0]; simp
  have v0 : W0.heap[W.heap.size]? = some (.cells noVal 162 (0, 0)) := by rw [e0]; exact heap_alloc_new W _
  have hp := Lg.lt_heap h
  have p0 : PB W0 p TG As tc cs dm vm om (.slice none 0 0) := (B0.block _ hp).trans h
  have m0 := hm.later B0
  have hv0 := hv.later B0
  have ho0 := ho.later B0
  have npo : p ≠ om := ho.nocell (ad := ⟨p, 0, none⟩) (cell_heap h 0)
  have npv : p ≠ vm := hv.nocell (ad := ⟨p, 0, none⟩) (cell_heap h 0)
  have c5 : W0.cell? ⟨p, 5, none⟩ = some (.map (some om)) := (cell_heap p0 5).trans rfl
  have c4 : W0.cell? ⟨p, 4, none⟩ = some (.map (some vm)) := (cell_heap p0 4).trans rfl
  have l5 := ho0.look1 (t := 84) (e := 4) (by kernel_rfl) (z := .bool false) (by rfl) hs
  have l4 := hv0.look (t := 153) (e := 162) (by kernel_rfl) (zVal _) hs
  simp only [NoM, Option.getD_none, Option.isSome_none] at l4 l5
  have EW := Lib.hid e0
  have HB := Lib.hid B0
  have HZ := Lib.hid z0
  have V0 := Lib.hid v0
  have P0 := Lib.hid p0
  have M0 := Lib.hid m0
  have HV := Lib.hid hv0
  have HO := Lib.hid ho0
  have HA := Lib.hid hA
  have HF := Lib.hid hF
  have hvl := hv.lt
  have hol := ho.lt
  clear h hm hv ho e0 B0 z0 v0 p0 m0 hv0 ho0 hA hF
  go_enter Tryz.func71, Tryz.ntmps71
  go_upto_region 1 with (fail)
  rw [← EW.out]
  go_upto_region 6 with (fail)
  obtain ⟨VA, eA⟩ : ∃ VA, VA = W0.alloc (.cells noVal 162) := ⟨_, rfl⟩
  rw [← eA]
  have BA : Below W.heap.size W VA := by rw [eA]; exact HB.out.trans ((Below.refl _ _).alloc (by have := HZ.out; omega) _)
  have BA0 : Below W0.heap.size W0 VA := by rw [eA]; exact (Below.refl _ _).alloc (Nat.le_refl _) _
  have za : VA.heap.size = W.heap.size + 2 := by rw [eA]; simp [HZ.out]
  have oa := HO.out.later BA0
  obtain ⟨W2, hrun, o2, hg⟩ := oa.put (t := 84) (e := 4) (by kernel_rfl) (by unfold maxLen; omega) hs (.bool true)
  have hz := HZ.out
  have k2 : Kp (fun j => j = om) W W2 := (Kp.of_below BA).grown hg (fun j e => .inl (by injection e with e; exact e.symm))
  have bl : ∀ j, j < VA.heap.size → j ≠ om → W2.heap[j]? = VA.heap[j]? := fun j h1 h2 => hg.block j h1 (fun e => h2 (by injection e))
  have pA : PB VA p TG As tc cs dm vm om (.slice none 0 0) := (BA0.block p (by omega)).trans P0.out
  have p2 : PB W2 p TG As tc cs dm vm om (.slice none 0 0) := (bl p (by omega) npo).trans pA
  have m2 := (M0.out.later BA0).keep (bl dm (by have := M0.out.lt; omega) hne2)
  have v2 := (HV.out.later BA0).keep (bl vm (by omega) hne1)
  have r2 := (bl W.heap.size (by omega) (by omega)).trans ((BA0.block W.heap.size (by omega)).trans V0.out)
  have s2 : W.heap.size + 2 ≤ W2.heap.size := by rw [← za]; exact hg.size
  have ca : VA.cell? ⟨p, 5, none⟩ = some (.map (some om)) := (cell_heap pA 5).trans rfl
  have cb : W2.cell? ⟨p, 0, none⟩ = some (.slice TG 1 tc) := (cell_heap p2 0).trans rfl
  have FI := Lib.hid (HF.out W2 k2)
  have EA := Lib.hid eA
  have K2 := Lib.hid k2
  have P2 := Lib.hid p2
  have M2 := Lib.hid m2
  have V2 := Lib.hid v2
  have O2 := Lib.hid o2
  have R2 := Lib.hid r2
  have S2 := Lib.hid s2
  clear BA BA0 za oa hg hz k2 bl pA p2 m2 v2 o2 r2 s2 eA c4 c5 l4 l5
  go_wp2_with (fail)
  go_at_call 66
  (with_reducible refine (FI.out).mono ?_)
  rintro e W3 ⟨rfl, B3⟩
  have s2 := S2.out
  have s3 := B3.size
  have p3 : PB (W3.alloc (.cells #[.string n, .string c, .slice Ad 0 cd, .slice At 0 ct] 122)) p TG As tc cs dm vm om (.slice none 0 0) := (Below.heap_alloc W3 _ p (by omega)).trans ((B3.block p (by omega)).trans P2.out)
  have b3 : Below W2.heap.size W2 (W3.alloc (.cells #[.string n, .string c, .slice Ad 0 cd, .slice At 0 ct] 122)) := B3.trans ((Below.refl _ _).alloc s3 _)
  have FR0 := (fresh_any (W3.alloc (.cells #[.string n, .string c, .slice Ad 0 cd, .slice At 0 ct] 122)) p tc cs dm vm om k TG As Ad At cd ct n c K M o p3 (M2.out.later b3) hM hK (fun V hV => HA.out V ((K2.out.then b3).then hV)))
  have s3' : W.heap.size ≤ (W3.alloc (.cells #[.string n, .string c, .slice Ad 0 cd, .slice At 0 ct] 122)).heap.size := by have := b3.size; omega
  have lp3 := Lg.lt_heap p3
  have FR : Hid (Calls Tryz.prog 144 #[.pointer (some ⟨p, 0, none⟩), .agg #[.string n, .string c, .slice Ad 0 cd, .slice At 0 ct]] (W3.alloc (.cells #[.string n, .string c, .slice Ad 0 cd, .slice At 0 ct] 122)) fun e w' => e = .returned (.agg (askV o)) ∧ (o = none → TaskAt W p tc cs dm vm om TG As c K w') ∧ Kp (fun j => j = p) W2 w' ∧ w'.cell? ⟨p, 4, none⟩ = some (.map (some vm)) ∧ w'.cell? ⟨p, 5, none⟩ = some (.map (some om)) ∧ p < w'.heap.size) := Lib.hid (FR0.mono fun e w' hq => by
    rcases o with _ | ⟨gf, cf⟩
    · obtain ⟨q1, q2, q3⟩ := hq
      obtain ⟨g, cc, r1, r2⟩ := q2
      exact ⟨q1, fun _ => TaskAt.le ⟨g, cc, r1, r2⟩ s3', (Kp.of_below b3).trans q3, (cell_heap r1 4).trans rfl, (cell_heap r1 5).trans rfl, Lg.lt_heap r1⟩
    · obtain ⟨q1, q2⟩ := hq
      have r1 := (q2.block p lp3).trans p3
      exact ⟨q1, (fun e => by cases e), (Kp.of_below b3).then q2, (cell_heap r1 4).trans rfl, (cell_heap r1 5).trans rfl, Lg.lt_heap r1⟩)
  have B3' := Lib.hid b3
  have P3 := Lib.hid p3
  have S3 := Lib.hid s3
  clear s2 s3 p3 b3 B3 cb ca hrun FR0 s3' lp3
  go_wp2_with (fail)
  go_at_call 144
  (with_reducible refine (FR.out).mono ?_)
  obtain ⟨A, nn, cc, b, hvv⟩ := askV_is o
  rw [hvv]
  rintro e w4 ⟨rfl, t4, k4, y4, y5, lp4⟩
  obtain ⟨V5, e5⟩ : ∃ V5, V5 = w4.alloc (.cells #[.int .i64 0, .string ⟨#[]⟩, .string ⟨#[]⟩, .slice A nn cc, .bool b] 162) := ⟨_, rfl⟩
  have b5 : Below w4.heap.size w4 V5 := by rw [e5]; exact (Below.refl _ _).alloc (Nat.le_refl _) _
  have n5 : V5.heap[w4.heap.size]? = some (.cells #[.int .i64 0, .string ⟨#[]⟩, .string ⟨#[]⟩, .slice A nn cc, .bool b] 162 (0, 0)) := by rw [e5]; exact heap_alloc_new w4 _
  have k5 : Kp (fun j => j = p) W2 V5 := k4.then b5
  have hs2 := S2.out
  have hs4 := k4.size
  have l5 := b5.size
  have n5l := Lg.lt_heap n5
  have v5 := V2.out.keep (k5.block vm V2.out.lt (fun e => npv e.symm))
  have o5 := O2.out.keep (k5.block om O2.out.lt (fun e => npo e.symm))
  have r5 := (k5.block W.heap.size (by omega) (by omega)).trans R2.out
  have c54 : V5.cell? ⟨p, 4, none⟩ = some (.map (some vm)) := (World.cell?_of_block (a := ⟨p, 4, none⟩) (b5.block p lp4)).trans y4
  have c55 : V5.cell? ⟨p, 5, none⟩ = some (.map (some om)) := (World.cell?_of_block (a := ⟨p, 5, none⟩) (b5.block p lp4)).trans y5
  obtain ⟨a1, st1, A1, E1, kA1, S1⟩ := entry_two (show Mv.VMap V5.drew vm kv NoM from v5.keep rfl) (t := 153) (e := 162) (by kernel_rfl) zVal hs
  obtain ⟨A2, E2, kA2⟩ := S1 A1 (.agg #[.int .i64 0, .string ⟨#[]⟩, .string ⟨#[]⟩, .slice A nn cc, .bool b]) rfl
  have kk2 : Kp (fun j => j = vm) V5 A2 := (Kp.refl _ V5).drew.trans (kA1.trans kA2)
  have kk1 : Kp (fun j => j = vm) V5 A1 := (Kp.refl _ V5).drew.trans kA1
  have o52 := o5.keep (kk2.block om o5.lt (fun e => hne1 e.symm))
  obtain ⟨a2, st2, A3, E3, kA3, S3'⟩ := entry_two o52 (t := 84) (e := 4) (by kernel_rfl) (z := .bool false) (fun _ => rfl) hs
  obtain ⟨A4, E4, kA4⟩ := S3' A3 (.bool false) rfl
  have kk4 : Kp (fun j => j = vm ∨ j = om) V5 A4 := (kk2.mono (fun j e => .inl e)).trans ((kA3.trans kA4).mono (fun j e => .inr e))
  have n1A := (kk1.block w4.heap.size n5l (by omega)).trans n5
  have n4A := (kk4.block w4.heap.size n5l (by omega)).trans n5
  have r4A := (kk4.block W.heap.size (by omega) (by omega)).trans r5
  have d0 : V5.cell? ⟨w4.heap.size, 0, none⟩ = some (.int .i64 0) := (cell_heap n5 0).trans rfl
  have d1 : V5.cell? ⟨w4.heap.size, 1, none⟩ = some (.string ⟨#[]⟩) := (cell_heap n5 1).trans rfl
  have d2 : V5.cell? ⟨w4.heap.size, 2, none⟩ = some (.string ⟨#[]⟩) := (cell_heap n5 2).trans rfl
  have d3 : V5.cell? ⟨w4.heap.size, 3, none⟩ = some (.slice A nn cc) := (cell_heap n5 3).trans rfl
  have d4 : V5.cell? ⟨w4.heap.size, 4, none⟩ = some (.bool b) := (cell_heap n5 4).trans rfl
  have f0 : A1.cell? ⟨w4.heap.size, 0, none⟩ = some (.int .i64 0) := (cell_heap n1A 0).trans rfl
  have f1 : A1.cell? ⟨w4.heap.size, 1, none⟩ = some (.string ⟨#[]⟩) := (cell_heap n1A 1).trans rfl
  have f2 : A1.cell? ⟨w4.heap.size, 2, none⟩ = some (.string ⟨#[]⟩) := (cell_heap n1A 2).trans rfl
  have f3 : A1.cell? ⟨w4.heap.size, 3, none⟩ = some (.slice A nn cc) := (cell_heap n1A 3).trans rfl
  have f4 : A1.cell? ⟨w4.heap.size, 4, none⟩ = some (.bool b) := (cell_heap n1A 4).trans rfl
  have g0 : A4.cell? ⟨w4.heap.size, 0, none⟩ = some (.int .i64 0) := (cell_heap n4A 0).trans rfl
  have g1 : A4.cell? ⟨w4.heap.size, 1, none⟩ = some (.string ⟨#[]⟩) := (cell_heap n4A 1).trans rfl
  have g2 : A4.cell? ⟨w4.heap.size, 2, none⟩ = some (.string ⟨#[]⟩) := (cell_heap n4A 2).trans rfl
  have g3 : A4.cell? ⟨w4.heap.size, 3, none⟩ = some (.slice A nn cc) := (cell_heap n4A 3).trans rfl
  have g4 : A4.cell? ⟨w4.heap.size, 4, none⟩ = some (.bool b) := (cell_heap n4A 4).trans rfl
  obtain ⟨m0, m1, m2, m3, m4, m5, m6, m7, m8, m9, m10, m11, m12, m13, m14⟩ := val_facts r4A
  have c14 : A1.cell? ⟨p, 4, none⟩ = some (.map (some vm)) := (World.cell?_of_block (a := ⟨p, 4, none⟩) (kk1.block p (by omega) npv)).trans c54
  have c15 : A1.cell? ⟨p, 5, none⟩ = some (.map (some om)) := (World.cell?_of_block (a := ⟨p, 5, none⟩) (kk1.block p (by omega) npv)).trans c55
  have FIN : Hid (AskSays W p tc cs dm vm om TG As c K o (.returned (.agg #[.int .i64 0, .string ⟨#[]⟩, .string ⟨#[]⟩, .slice A nn cc, .bool b])) ((A4.setCell ⟨W.heap.size, 3, none⟩ (.slice A nn cc)).setCell ⟨W.heap.size, 4, none⟩ (.bool b))) := Lib.hid ⟨by rw [hvv], fun e => ((((t4 e).keep b5).kp v5 o5 kk4).set1 (by omega) ⟨_, _, r4A, by decide⟩ 3 _).set1 (by omega) ⟨_, _, heap_set r4A, by decide⟩ 4 _, ((((K2.out.mono (fun j e => .inr (.inr e))).trans (k5.mono (fun j e => .inl e))).trans (kk4.mono (fun j e => .inr e))).setNew (p := ⟨W.heap.size, 3, none⟩) (Nat.le_refl _) _).setNew (p := ⟨W.heap.size, 4, none⟩) (Nat.le_refl _) _⟩
  have R4 := Lib.hid r4A
  have E5 := Lib.hid e5
  clear e5 b5 n5 k5 hs2 hs4 l5 n5l v5 o5 r5 S1 S3' kA1 kA2 kA3 kA4 kk1 kk2 kk4 o52 n1A n4A r4A y4 y5 t4 k4 hvv
  go_upto_region 9 with (fail)
  rw [← E5.out]
  go_region
  all_goals
    (try simp only [Exit.then])
    go_wp2_with (fail)
    refine bodyPost_ret_by (results_row1 rfl _ _ W.heap.size _ _ (0, 0) _ rfl ((heap_set (heap_set R4.out)).trans rfl) rfl rfl (by kernel_rfl)) rfl ?_
    exact FIN.out
end Go.Proofs.YtifiipmmgnmciaaGreatDoor.Sv
/- SvPlanN, what a claim needs of it (prune.py). -/
namespace Go.Proofs.YtifiipmmgnmciaaGreatDoor.Sv
open Go.RowKit Go.Maps Go.Shelf
open Dk (Kp)
set_option linter.unusedVariables false
set_option maxRecDepth 100000
abbrev noRes : Array Value := #[.int .i64 0, .string ⟨#[]⟩, .string ⟨#[]⟩, .slice none 0 0]
structure Env (W : World) (TG As Ad At : Option Addr) (tc cs cd ct : Nat) (s n c K : ByteArray) : Prop where
  find : ∀ V, Below W.heap.size W V → Calls Tryz.prog 66 #[.slice TG 1 tc, .string s] V fun e w' => e = .returned (.tuple #[.agg #[.string n, .string c, .slice Ad 0 cd, .slice At 0 ct], .bool true]) ∧ Below V.heap.size V w'
  check : ∀ V, Below W.heap.size W V → Calls Tryz.prog 67 #[.slice TG 1 tc] V fun e w' => e = .returned (.int .i64 0) ∧ Below V.heap.size V w'
  files : ∀ V, Below W.heap.size W V → Calls Tryz.prog 68 #[.slice As 0 cs] V fun e w' => e = .returned (.int .i64 0) ∧ Below V.heap.size V w'
  act : ∀ V, Below W.heap.size W V → Calls Tryz.prog 253 #[.string c, .slice none 0 0, .slice none 0 0, .int .i64 50] V fun e w' => e = .returned (.string K) ∧ Below V.heap.size V w'
structure PlAt (W : World) (TG As : Option Addr) (tc cs b dk : Nat) (M : ByteArray → Option Value) (V : World) : Prop where
  dm : Mv.VMap V b dk M
  vm : Mv.VMap V (b + 1) 0 NoM
  om : Mv.VMap V (b + 2) 0 NoM
  p : PB V (b + 3) TG As tc cs b (b + 1) (b + 2) (.slice none 0 0)
  var : V.heap[b + 4]? = some (.cells #[.pointer (some ⟨b + 3, 0, none⟩)] 151 (0, 0))
  res : V.heap[W.heap.size]? = some (.cells noRes 27 (0, 0))
  below : Below W.heap.size W V
  size : b + 6 ≤ V.heap.size
  le : W.heap.size < b
theorem PlAt.kp {W : World} {TG As : Option Addr} {tc cs b dk : Nat} {M : ByteArray → Option Value} {A B : World} (h : PlAt W TG As tc cs b dk M A) (hk : ∀ j, j < A.heap.size → j < b + 5 → B.heap[j]? = A.heap[j]?) (hz : A.heap.size ≤ B.heap.size) (hb : Below W.heap.size W B) : PlAt W TG As tc cs b dk M B := by
  have hs := h.size
  have hl := h.le
  exact ⟨h.dm.keep (hk _ (by omega) (by omega)), h.vm.keep (hk _ (by omega) (by omega)), h.om.keep (hk _ (by omega) (by omega)), (hk _ (by omega) (by omega)).trans h.p, (hk _ (by omega) (by omega)).trans h.var, (hk _ (by omega) (by omega)).trans h.res, hb, by omega, hl⟩
theorem PlAt.grown {W : World} {TG As : Option Addr} {tc cs b dk : Nat} {M : ByteArray → Option Value} {A B : World} {row : Option Nat} (h : PlAt W TG As tc cs b dk M A) (hg : A.grownBy B row) (hr : ∀ r, row = some r → b + 5 ≤ r) : PlAt W TG As tc cs b dk M B :=
  h.kp (fun j h1 h2 => hg.block j h1 (fun e => by have := hr j e.symm; omega)) hg.size (h.below.grown hg (by have := h.size; have := h.le; omega) (fun r e => by have := hr r e; have := h.le; omega))
theorem plan_made (W V3 : World) (TG As : Option Addr) (tc cs : Nat) (dv : Value) (W5 : World) (h3 : Below W.heap.size W V3) (hr : V3.heap[W.heap.size]? = some (.cells noRes 27 (0, 0))) (hl : W.heap.size < V3.heap.size)
    (e5 : W5 = ((((((V3.alloc (.map #[] 0)).alloc (.map #[] 0)).alloc (.map #[] 0)).alloc (.cells #[.slice TG 1 tc, .slice As 0 cs, .int .i64 50, .map (some V3.heap.size), .map (some (V3.heap.size + 1)), .map (some (V3.heap.size + 1 + 1)), .slice none 0 0] 155)).alloc (.cells #[.pointer (some ⟨V3.heap.size + 1 + 1 + 1, 0, none⟩)] 151)).alloc (.cells #[dv] 98))) :
    PlAt W TG As tc cs V3.heap.size 0 NoM W5 ∧ W5.heap.size = V3.heap.size + 6 ∧ W5.heap[V3.heap.size + 5]? = some (.cells #[dv] 98 (0, 0)) := by
  obtain ⟨A1, a1⟩ : ∃ A1, A1 = V3.alloc (.map #[] 0) := ⟨_, rfl⟩
  obtain ⟨A2, a2⟩ : ∃ A2, A2 = A1.alloc (.map #[] 0) := ⟨_, rfl⟩
  obtain ⟨A3, a3⟩ : ∃ A3, A3 = A2.alloc (.map #[] 0) := ⟨_, rfl⟩
  obtain ⟨A4, a4⟩ : ∃ A4, A4 = A3.alloc (.cells #[.slice TG 1 tc, .slice As 0 cs, .int .i64 50, .map (some V3.heap.size), .map (some (V3.heap.size + 1)), .map (some (V3.heap.size + 1 + 1)), .slice none 0 0] 155) := ⟨_, rfl⟩
  obtain ⟨A5, a5⟩ : ∃ A5, A5 = A4.alloc (.cells #[.pointer (some ⟨V3.heap.size + 1 + 1 + 1, 0, none⟩)] 151) := ⟨_, rfl⟩
  rw [← a1, ← a2, ← a3, ← a4, ← a5] at e5
  have z1 : A1.heap.size = V3.heap.size + 1 := by rw [a1]; simp
  have z2 : A2.heap.size = V3.heap.size + 2 := by rw [a2]; simp [z1]
  have z3 : A3.heap.size = V3.heap.size + 3 := by rw [a3]; simp [z2]
  have z4 : A4.heap.size = V3.heap.size + 4 := by rw [a4]; simp [z3]
  have z5 : A5.heap.size = V3.heap.size + 5 := by rw [a5]; simp [z4]
  have z6 : W5.heap.size = V3.heap.size + 6 := by rw [e5]; simp [z5]
  have b5 : Below A5.heap.size A5 W5 := by rw [e5]; exact (Below.refl _ _).alloc (Nat.le_refl _) _
  have b4 : Below A4.heap.size A4 W5 := (show Below A4.heap.size A4 A5 by rw [a5]; exact (Below.refl _ _).alloc (Nat.le_refl _) _).trans (b5.mono (by omega))
  have b3 : Below A3.heap.size A3 W5 := (show Below A3.heap.size A3 A4 by rw [a4]; exact (Below.refl _ _).alloc (Nat.le_refl _) _).trans (b4.mono (by omega))
  have b2 : Below A2.heap.size A2 W5 := (show Below A2.heap.size A2 A3 by rw [a3]; exact (Below.refl _ _).alloc (Nat.le_refl _) _).trans (b3.mono (by omega))
  have b1 : Below A1.heap.size A1 W5 := (show Below A1.heap.size A1 A2 by rw [a2]; exact (Below.refl _ _).alloc (Nat.le_refl _) _).trans (b2.mono (by omega))
  have b0 : Below V3.heap.size V3 W5 := (show Below V3.heap.size V3 A1 by rw [a1]; exact (Below.refl _ _).alloc (Nat.le_refl _) _).trans (b1.mono (by omega))
  have m1 : Mv.VMap A1 V3.heap.size 0 NoM := by rw [a1]; exact Mv.VMap.made V3
  have m2 : Mv.VMap A2 (V3.heap.size + 1) 0 NoM := by rw [a2, ← z1]; exact Mv.VMap.made A1
  have m3 : Mv.VMap A3 (V3.heap.size + 2) 0 NoM := by rw [a3, ← z2]; exact Mv.VMap.made A2
  have m4 : PB A4 (V3.heap.size + 3) TG As tc cs V3.heap.size (V3.heap.size + 1) (V3.heap.size + 2) (.slice none 0 0) := by unfold PB; rw [a4, ← z3]; exact heap_alloc_new A3 _
  have m5 : A5.heap[V3.heap.size + 4]? = some (.cells #[.pointer (some ⟨V3.heap.size + 3, 0, none⟩)] 151 (0, 0)) := by rw [a5, ← z4]; exact heap_alloc_new A4 _
  exact ⟨⟨m1.later b1, m2.later b2, m3.later b3, (b4.block _ (by omega)).trans m4, (b5.block _ (by omega)).trans m5, (b0.block _ hl).trans hr, h3.trans (b0.mono (by omega)), by omega, hl⟩, z6, by rw [e5, ← z5]; exact heap_alloc_new A5 _⟩
def PlanNew (W : World) (c K : ByteArray) (e : Ending) (w' : World) : Prop := ∃ g cc gs, e = .returned (.tuple #[.agg noRes, .bool false, .slice (some ⟨g, 0, none⟩) 1 cc]) ∧ W.heap.size ≤ g ∧ w'.heap[g]? = some (.cells gs 34 (0, 0)) ∧ (∀ (j : Nat) u, (taskC K c)[j]? = some u → gs[j]? = some u) ∧ Below W.heap.size W w'
set_option maxHeartbeats 4000000 in
theorem plan_new (W : World) (TG As Ad At : Option Addr) (tc cs cd ct : Nat) (s n c K : ByteArray) (hs : s.size ≤ maxLen) (hK : K.size ≤ maxLen) (hE : Env W TG As Ad At tc cs cd ct s n c K) :
    Calls Tryz.prog 36 #[.slice TG 1 tc, .slice As 0 cs, .string s, .int .i64 50, .slice none 0 0] W (PlanNew W c K) := by
  have b50a : ¬ (50 : Int) < 1 := by omega
  have b50b : ¬ (2000 : Int) < 50 := by omega
  have FI := Lib.hid hE.find
  have CH := Lib.hid hE.check
  have FC := Lib.hid hE.files
  refine (callsIn_wide (n := 10)).1 ?_
  refine callsIn_of_wp_marks Tryz.func36 rfl trivial ?_ rfl
  have hmm := @run_makeMap Tryz.prog
  simp only [Tryz.ntmps36, List.size_toArray, List.length_cons, List.length_nil, Nat.reduceAdd, Nat.reduceSub, Array.replicate_succ, Array.replicate_zero, List.push_toArray, List.append_toArray, List.nil_append, List.cons_append]
  obtain ⟨W0, e0⟩ : ∃ W0, W0 = W.alloc (.cells noRes 27) := ⟨_, rfl⟩
  have B0 : Below W.heap.size W W0 := by rw [e0]; exact (Below.refl _ _).alloc (Nat.le_refl _) _
  have z0 : W0.heap.size = W.heap.size + 1 := by rw [e0]; simp
  have v0 : W0.heap[W.heap.size]? = some (.cells noRes 27 (0, 0)) := by rw [e0]; exact heap_alloc_new W _
  have EW := Lib.hid e0
  have HB0 := Lib.hid B0
  have HZ0 := Lib.hid z0
  have V0 := Lib.hid v0
  clear e0 B0 z0 v0
  gi_wp2_with (first
    | (refine ⟨trivial, ?_⟩; gi_at_call 66; rw [← EW.out]; refine (callsIn_wide.2 (FI.out _ HB0.out)).mono ?_; rintro e V1 ⟨rfl, hb1⟩; have HB1 := Lib.hid hb1; clear hb1))
  refine ⟨trivial, ?_⟩
  have hz := HZ0.out
  have hs1 := HB1.out.size
  obtain ⟨V1a, e1⟩ : ∃ V1a, V1a = V1.alloc (.cells #[.string n, .string c, .slice Ad 0 cd, .slice At 0 ct] 122) := ⟨_, rfl⟩
  have b1 : Below W0.heap.size W0 V1a := by rw [e1]; exact HB1.out.alloc hs1 _
  rw [← e1]
  clear e1
  have CH1 := CH.out V1a (HB0.out.trans (b1.mono (by omega)))
  have H1 := Lib.hid b1
  clear b1 hz hs1
  gi_at_call 67
  refine (callsIn_wide.2 CH1).mono ?_
  rintro e V2 ⟨rfl, hb2⟩
  have b2 := H1.out.trans (hb2.mono H1.out.size)
  have FC1 := FC.out V2 (HB0.out.trans (b2.mono (by have := HZ0.out; omega)))
  have H2 := Lib.hid b2
  clear CH1 hb2 b2
  gi_wp2_with (first | (refine ⟨trivial, ?_⟩; gi_at_call 68; refine (callsIn_wide.2 FC1).mono ?_; rintro e V3 ⟨rfl, hb3⟩; have H3 := Lib.hid (H2.out.trans (hb3.mono H2.out.size)); clear hb3 FC1) | (refine ⟨trivial, ?_⟩; gi_at_call 70; refine (backwardD_in Fence.wide (10 - 1) trivial rfl _ _ _ _).mono ?_; rintro e w' ⟨rfl, rfl⟩))
  obtain ⟨W5, e5⟩ : ∃ W5, W5 = ((((((V3.alloc (.map #[] 0)).alloc (.map #[] 0)).alloc (.map #[] 0)).alloc (.cells #[.slice TG 1 tc, .slice As 0 cs, .int .i64 50, .map (some V3.heap.size), .map (some (V3.heap.size + 1)), .map (some (V3.heap.size + 1 + 1)), .slice none 0 0] 155)).alloc (.cells #[.pointer (some ⟨V3.heap.size + 1 + 1 + 1, 0, none⟩)] 151)).alloc (.cells #[.slice none 0 0] 98)) := ⟨_, rfl⟩
  rw [← e5]
  have q5 : PlAt W TG As tc cs V3.heap.size 0 NoM W5 ∧ W5.heap.size = V3.heap.size + 6 ∧ W5.heap[V3.heap.size + 5]? = some (.cells #[.slice none 0 0] 98 (0, 0)) := plan_made W V3 TG As tc cs (.slice none 0 0) W5 (HB0.out.trans (H3.out.mono (by have := HZ0.out; omega))) ((H3.out.block _ (by have := HZ0.out; omega)).trans V0.out) (by have := H3.out.size; have := HZ0.out; omega) e5
  obtain ⟨q5, z5, s5⟩ := q5
  clear e5
  refine wpIn_rangeFunc_ownG (α := Empty) (F := Fence.wide) (n := 10) rfl (by omega) (gf := 142) (lb := #[.pointer (some ⟨V3.heap.size + 1 + 1 + 1 + 1 + 1, 0, none⟩)]) rfl trivial (enters_of Tryz.func142 (by kernel_rfl) rfl)
    (backD_nil Fence.wide (10 - 1) trivial rfl (V3.heap.size + 5) W5 (by omega) ((cell_heap s5 0).trans rfl)) belowK_t (belowK_b (Nat.le_refl _)) (Below.refl _ _) (fun _ => rfl)
    (fun pre W' => PlAt W TG As tc cs V3.heap.size 0 NoM W')
    (fun _ _ _ => False)
    (fun s A B row hs hg hr => hs.grown hg (fun r e => by have := (hr r e).1; omega))
    (fun _ _ _ _ _ hs _ _ => hs)
    q5
    (fun x => x.elim) ?assign ?body ?done ?stop
  case assign =>
    intro l x
    exact x.elim
  case body =>
    intro l pre x
    exact x.elim
  case stop =>
    rintro D c pre W _ h
    exact h.elim
  case done =>
    rintro D xs W6 hD rfl q6 hDW
    have z6 := q6.size
    have l6 := q6.le
    have c4 : W6.cell? ⟨V3.heap.size + 1 + 1 + 1 + 1, 0, none⟩ = some (.pointer (some ⟨V3.heap.size + 3, 0, none⟩)) := (cell_heap q6.var 0).trans rfl
    have AS0 := ask_any W6 (V3.heap.size + 3) tc cs V3.heap.size (V3.heap.size + 1) (V3.heap.size + 2) 0 0 0 TG As Ad At cd ct s n c K NoM none q6.p q6.dm q6.vm q6.om (by omega) (by omega) (by omega) rfl hK hs (fun V hV => hE.act V (q6.below.trans (hV.below (fun k e => by omega) (by omega)))) (fun V hV => hE.find V (q6.below.trans (hV.below (fun k e => by omega) (by omega))))
    gi_wp2_with (fail)
    refine ⟨trivial, ?_⟩
    gi_at_call 71
    refine (callsIn_wide.2 AS0).mono ?_
    rintro e w3 ⟨rfl, ht, hk⟩
    obtain ⟨g, cc, h1, h2, gs, h3, h4⟩ := ht rfl
    have hz3 := hk.size
    have hDl := Lg.lt_heap hDW
    simp only [askV]
    obtain ⟨V4, e4⟩ : ∃ V4, V4 = w3.alloc (.cells lateV 162) := ⟨_, rfl⟩
    have b4 : Below w3.heap.size w3 V4 := by rw [e4]; exact (Below.refl _ _).alloc (Nat.le_refl _) _
    have n4 : V4.heap[w3.heap.size]? = some (.cells lateV 162 (0, 0)) := by rw [e4]; exact heap_alloc_new w3 _
    have k4 := hk.then b4
    have r4 := (k4.block W.heap.size (by omega) (by omega)).trans q6.res
    have x4 := (k4.block (V3.heap.size + 4) (by omega) (by omega)).trans q6.var
    have D4 : V4.heap[D]? = some (.deferred (some [])) := (k4.block D hDl (by omega)).trans hDW
    have p4 := (b4.block _ (Lg.lt_heap h1)).trans h1
    have g4 := (b4.block _ (Lg.lt_heap h3)).trans h3
    have d1 : V4.cell? ⟨w3.heap.size, 4, none⟩ = some (.bool true) := (cell_heap n4 4).trans rfl
    have d2 : V4.cell? ⟨V3.heap.size + 1 + 1 + 1 + 1, 0, none⟩ = some (.pointer (some ⟨V3.heap.size + 3, 0, none⟩)) := (cell_heap x4 0).trans rfl
    have d3 : V4.cell? ⟨V3.heap.size + 3, 6, none⟩ = some (.slice (some ⟨g, 0, none⟩) 1 cc) := (cell_heap p4 6).trans rfl
    have r0 : V4.cell? ⟨W.heap.size, 0, none⟩ = some (.int .i64 0) := (cell_heap r4 0).trans rfl
    have r1 : V4.cell? ⟨W.heap.size, 1, none⟩ = some (.string ⟨#[]⟩) := (cell_heap r4 1).trans rfl
    have r2 : V4.cell? ⟨W.heap.size, 2, none⟩ = some (.string ⟨#[]⟩) := (cell_heap r4 2).trans rfl
    have r3 : V4.cell? ⟨W.heap.size, 3, none⟩ = some (.slice none 0 0) := (cell_heap r4 3).trans rfl
    have f0 := frozen_heap r4 0
    have f1 := frozen_heap r4 1
    have f2 := frozen_heap r4 2
    have f3 := frozen_heap r4 3
    have t0 : V4.drew.setCell ⟨W.heap.size, 0, none⟩ (.int .i64 0) = V4.drew := set_same (w := V4.drew) r4 rfl
    have t1 : V4.drew.setCell ⟨W.heap.size, 1, none⟩ (.string ⟨#[]⟩) = V4.drew := set_same (w := V4.drew) r4 rfl
    have t2 : V4.drew.setCell ⟨W.heap.size, 2, none⟩ (.string ⟨#[]⟩) = V4.drew := set_same (w := V4.drew) r4 rfl
    have t3 : V4.drew.setCell ⟨W.heap.size, 3, none⟩ (.slice none 0 0) = V4.drew := set_same (w := V4.drew) r4 rfl
    have bW : Below W.heap.size W V4.drew := (q6.below.trans (k4.below (fun k e => by omega) (by omega))).drew
    have FIN : Hid (PlanNew W c K (.returned (.tuple #[.agg noRes, .bool false, .slice (some ⟨g, 0, none⟩) 1 cc])) (V4.drew.putObj D (.deferred none))) := Lib.hid (by
      have hg := grownBy_putObj' V4.drew D (.deferred none)
      refine ⟨g, cc, gs, rfl, by omega, (hg.block g (Lg.lt_heap g4) (fun e => ?_)).trans g4, h4, bW.grown hg (by have := bW.size; exact this) (fun r e => by cases e; omega)⟩
      have e' : g = D := by first | exact Option.some.inj e | exact (Option.some.inj e).symm
      rw [e', D4] at g4
      cases g4)
    have R4 : Hid ((V4.drew.putObj D (.deferred none)).heap[W.heap.size]? = some (.cells noRes 27 (0, 0))) := Lib.hid (((grownBy_putObj' V4.drew D (.deferred none)).block W.heap.size (Lg.lt_heap r4) (fun e => by
      have e' : W.heap.size = D := by first | exact Option.some.inj e | exact (Option.some.inj e).symm
      omega)).trans r4)
    have HD4 := Lib.hid D4
    have E4 := Lib.hid e4
    clear ht hk h1 h2 h3 h4 hz3 e4 b4 n4 k4 r4 x4 D4 p4 g4 bW q6 hDW z6 l6 c4 AS0
    gi_wp2_with (fail)
    rw [← E4.out]
    gi_region
    all_goals
      (try simp only [Exit.then])
      gi_wp2_with (fail)
      refine ⟨by simp, .inl ⟨_, _, rfl, run_takeDeferred (b := D) HD4.out, ?_⟩⟩
      refine ⟨_, results_row3 rfl _ _ W.heap.size _ _ (0, 0) _ rfl R4.out rfl rfl (by kernel_rfl), ?_⟩
      exact FIN.out
end Go.Proofs.YtifiipmmgnmciaaGreatDoor.Sv
/- SvAdd, what a claim needs of it (prune.py). -/
namespace Go.Proofs.YtifiipmmgnmciaaGreatDoor.Sv
open Go.RowKit Go.Maps
open Dk (Kp)
set_option linter.unusedVariables false
set_option maxRecDepth 100000
def AddSays (W : World) (s : Sb) (k : Nat) (K : ByteArray) (rows : ByteArray → Option Value) (e : Ending) (w' : World) : Prop := e = .returned (.int .i64 0) ∧ (∃ g, W.heap.size ≤ g ∧ Q1 w' s.q g K) ∧ ScAt w' s (k + 1) 0 rows (Mv.putM NoM K (.bool true)) NoM ∧ Kp (fun j => j = s.q ∨ j = s.mt) W w'
set_option maxHeartbeats 4000000 in
theorem sadd_any (W : World) (s : Sb) (k : Nat) (K : ByteArray) (rows : ByteArray → Option Value) (h : ScAt W s k 0 rows NoM NoM) (hq : QB W s.q 0 none 0 0) (hk : k ≤ 1000) (hK : K.size ≤ maxLen) :
    Calls Tryz.prog 38 #[.pointer (some ⟨s.sc, 0, none⟩), .agg #[.string K, .int .i64 0, .int .i64 1]] W (AddSays W s k K rows) := by
  obtain ⟨W0, e0⟩ : ∃ W0, W0 = W.alloc (.cells #[.string K, .int .i64 0, .int .i64 1] 58) := ⟨_, rfl⟩
  have B0 : Below W.heap.size W W0 := by rw [e0]; exact (Below.refl _ _).alloc (Nat.le_refl _) _
  have j0 : W0.heap[W.heap.size]? = some (.cells #[.string K, .int .i64 0, .int .i64 1] 58 (0, 0)) := by rw [e0]; exact heap_alloc_new _ _
  have h0 := h.below B0
  have q0 : QB W0 s.q 0 none 0 0 := (B0.block _ (Lg.lt_heap hq)).trans hq
  have d0 : W0.cell? ⟨s.sc, 0, none⟩ = some (.pointer (some ⟨s.q, 0, none⟩)) := (cell_heap h0.st 0).trans rfl
  have d3 : W0.cell? ⟨s.sc, 3, none⟩ = some (.map (some s.mt)) := (cell_heap h0.st 3).trans rfl
  have x0 : W0.cell? ⟨W.heap.size, 0, none⟩ = some (.string K) := (cell_heap j0 0).trans rfl
  have x1 : W0.cell? ⟨W.heap.size, 1, none⟩ = some (.int .i64 0) := (cell_heap j0 1).trans rfl
  have x2 : W0.cell? ⟨W.heap.size, 2, none⟩ = some (.int .i64 1) := (cell_heap j0 2).trans rfl
  have lk := (show Mv.VMap W0.drew s.mt k NoM from h0.there.keep rfl).look1 (t := 84) (e := 4) (by kernel_rfl) (z := .bool false) (by rfl) hK
  simp only [NoM, Option.getD_none] at lk
  have PU : Hid (Calls Tryz.prog 63 #[.pointer (some ⟨s.q, 0, none⟩), .agg #[.string K, .int .i64 0, .int .i64 1], .int .i64 0, .int .i64 1] W0.drew.drew (PushSays W0.drew.drew s.q K)) := Lib.hid (qpush_any K W0.drew.drew s.q q0)
  have hlq := Lg.lt_heap hq
  have hl := h.lt
  obtain ⟨a1, a2, a3, a4, a5, a6, a7⟩ := h.sc_ne
  obtain ⟨b1, b2, b3, b4, b5⟩ := q_ne h hq
  have NX : Hid (∀ w1 V g, V.heap = W0.heap → Kp (fun j => False) W0 V → V.heap.size ≤ g → Q1 w1 s.q g K → Kp (fun j => j = s.q) V w1 → w1.cell? ⟨s.sc, 3, none⟩ = some (.map (some s.mt)) ∧ w1.cell? ⟨W.heap.size, 0, none⟩ = some (.string K) ∧ ∃ w2, (Instr.mapUpdate 84 (.map (some s.mt)) (.string K) (.bool true)).run Tryz.prog w1.drew = .ok () w2 ∧ AddSays W s k K rows (.returned (.int .i64 0)) w2) := Lib.hid fun w1 V g eV kV hg q1 k1 => by
    have hz : V.heap.size = W0.heap.size := by rw [eV]
    have kk : Kp (fun j => j = s.q) W0 w1 := (kV.mono (fun j e => e.elim)).trans k1
    have h1 := h0.kp kk (fun j e => by subst e; exact ⟨b1, b2, b3, b4, b5⟩)
    have j1 := (kk.block _ (Lg.lt_heap j0) (by omega)).trans j0
    obtain ⟨w2, hrun, m2, hgr⟩ := (show Mv.VMap w1.drew s.mt k NoM from h1.there.keep rfl).put (t := 84) (e := 4) (by kernel_rfl) (by unfold maxLen; omega) hK (.bool true)
    obtain ⟨y1, y2, y3, y4, y5⟩ := h1.lt
    have hb : ∀ j, j < w1.heap.size → j ≠ s.mt → w2.heap[j]? = w1.heap[j]? := fun j hj hne => hgr.block j hj (fun e => hne (by injection e))
    have hgm : g ≠ s.mt := fun e => by have := h0.there.lt; omega
    exact ⟨(cell_heap h1.st 3).trans rfl, (cell_heap j1 0).trans rfl, w2, hrun, rfl, ⟨g, by have := B0.size; omega, q1.keep (hb _ q1.lt.1 b4) (hb _ q1.lt.2 hgm)⟩, ⟨(hb _ y1 a3).trans h1.st, h1.tab.keep (hb _ y2 a6), (h1.rows.more (Nat.le_succ k)).keep (hb _ y3 h.n1), m2, (h1.lease.more (Nat.le_succ k)).keep (hb _ y5 h.n3.symm), h.n1, h.n2, h.n3⟩, (((Kp.of_below B0).trans (kk.mono (T := fun j => j = s.q ∨ j = s.mt) (fun j e => .inl e))).drew).grown hgr (fun j e => .inl (.inr (by injection e with e; exact e.symm)))⟩
  clear h hq h0 q0 j0 B0 a1 a2 a3 a4 a5 a6 a7 b1 b2 b3 b4 b5
  generalize AddSays W s k K rows = Q at *
  go_enter Tryz.func38, Tryz.ntmps38
  go_upto_region 1 with (fail)
  rw [← e0]
  clear e0
  go_wp2_with (fail)
  go_region
  (try simp only [Exit.then])
  go_wp2_with (fail)
  go_region_with (go_at_call 63; (with_reducible refine (PU.out).mono ?_); rintro e w1 ⟨rfl, ⟨g, hg, q1⟩, k1⟩; obtain ⟨y3, y0, w2, hrun, hQ⟩ := NX.out w1 W0.drew.drew g rfl ⟨rfl, rfl, rfl, Nat.le_refl _, fun _ _ _ => rfl⟩ hg q1 k1; have HQ := Lib.hid hQ; clear hg q1 k1 hQ)
  all_goals
    (try simp only [Exit.then])
    go_wp2_with (fail)
    go_region
    (try simp only [Exit.then])
    clear hrun
    go_wp2_with (fail)
    exact HQ.out
end Go.Proofs.YtifiipmmgnmciaaGreatDoor.Sv
