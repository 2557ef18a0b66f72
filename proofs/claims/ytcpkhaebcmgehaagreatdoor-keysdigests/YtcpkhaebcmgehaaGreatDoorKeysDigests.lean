/- For every input KeysDigests returns true; each argument reads afterwards as it read before; its row's listed variables are tied to the program's text. No condition of ours. -/
import Derived.Test.YtcpkhaebcmgehaaGreatDoorCards
import Derived.Test.YtcpkhaebcmgehaaGreatDoorTie
import Derived.Test.YtcpkhaebcmgehaaGreatDoorKaOpen
import Derived.ProofKit
import Derived.OpenShut
import Derived.Deep.DeepHandedRow
import Derived.Lay
import Derived.Stop.LaidErr
import Derived.Shelf.Vars
import Derived.Stop.ErrReads
import Derived.Deep.DeepWitnessRowRef
import Derived.Test.YtcpkhaebcmgehaaGreatDoorFsOpen
namespace Go.Proofs.YtcpkhaebcmgehaaGreatDoor.keysDigests
open Go.ChangeShapes Go.WideShapes Go.ChangeAt Go.RowKit Go.ChangeMaps
set_option linter.unusedVariables false
set_option maxRecDepth 100000

theorem own : ownKnob Tryz.prog.godebug = none := by kernel_rfl
theorem table {W : World} (h : laidMetH Tryz.prog Rows.keysDigestsRow.laid W) (hS : W.ShapedOpen Tryz.prog) : Fs.Env W := by
  have h1 : laidMet Tryz.prog Rows.keysDigestsRow.laid W := h
  refine ⟨cell_of_shapedOpen_int (t := 3) (zero := #[.int .i64 0]) hS (of_decide_eq_true (by kernel_rfl)) (by kernel_rfl) rfl (by kernel_rfl) (by kernel_rfl) Tryz.underlying3, ?_⟩
  exact Lib.tabIs_of_head (k := .u64) (zs := Lib.pow10Tab) (g := 1) (by kernel_rfl) (by kernel_rfl) Tryz.underlying243 Tryz.underlying193 (by kernel_rfl) (by kernel_rfl) (laidMet.tail (laidMet.tail h1))

/-- What the walk gives, for every argument and every world that holds the table. -/
theorem contract (H : Type) (enc : TypeId × Value → H) (W : World) (base : Nat) (args : Array Value) (ds gs : List (DataW H)) (before : List MemPlace)
    (hval : ∀ (j : Nat) t v, Tryz.f4.params[j]? = some t → args[j]? = some v → Value.okWide Tryz.prog W .any base t v)
    (hW : DataW.Whole enc Tryz.prog Tryz.f4.params.toList Rows.keysDigestsSpec.vars false W args.toList ds gs before) (hL : laidMetH Tryz.prog Rows.keysDigestsRow.laid W) (hS : W.ShapedOpen Tryz.prog) :
    Calls Tryz.prog 4 args W fun e W' => ∃ v, e = .returned v ∧ Rows.keysDigestsSpec.post enc Tryz.prog Tryz.f4 false true false false W args v W' := by
  have hW' := hW
  have hlt : ∀ p ∈ before, p.block < W.heap.size := fun p hp => hW.lt p hp
  obtain ⟨p, q, hA0, hV, rfl, hfz, hnd⟩ := hW
  have hA : DataW.TrodAll enc Tryz.prog W 0 (fun _ => true) true Tryz.f4.params.toList args.toList ds p := hA0
  have hAS := hA
  rw [Tryz.params4] at hA hval
  obtain ⟨v0, vs0, d0, ds0, p0, q0, hargs, rfl, rfl, h0, r0⟩ := trodAll_cons hA
  obtain ⟨v1, vs1, d1, ds1, p1, q1, rfl, rfl, rfl, h1, r1⟩ := trodAll_cons r0
  obtain ⟨v2, vs2, d2, ds2, p2, q2, rfl, rfl, rfl, h2, r2⟩ := trodAll_cons r1
  obtain ⟨rfl, rfl, rfl⟩ := trodAll_nil r2
  obtain rfl : args = #[v0, v1, v2] := by cases args; simp_all
  obtain ⟨rfl, rfl⟩ := trodVars_none hV
  obtain ⟨cm0, F0, fs0, fd0, N0, ns0, nd0, fu0, rfl, fu00, fu10, zc0, zf0, zfd0, zz0, zn0, gF0, gN0⟩ := open_action (hval 0 25 v0 rfl rfl) h0
  obtain ⟨A1, l1, c1, rfl, g1, m1, z1⟩ := open_targets (hval 1 29 v1 rfl rfl) h1
  obtain ⟨s2, rfl, _, _, z2⟩ := open_string Tryz.underlying9 (hval 2 9 v2 rfl rfl) h2
  refine (digestslaw_walk cm0 F0 N0 A1 fs0 ns0 l1 fd0 nd0 c1 fu0 s2 fu00 fu10 zc0 zf0 zfd0 zz0 zn0 m1 z1 z2 W (table hL hS) gF0 gN0 g1).mono fun e W' ⟨he, hb⟩ => ?_
  subst he
  exact ⟨_, rfl, post_of_below (pv := []) hW' (fun _ _ _ => (trodAll_cons_mk (shut_bool Tryz.underlying4 _) trodAll_mk0)) (fun sp hs => args_stay (by kernel_rfl) (by kernel_rfl) (by kernel_rfl) (by kernel_rfl) hAS (fun p hp => hlt p (List.mem_append_left _ hp)) hb sp (fun p hp => hs p (List.mem_append_left _ hp))) (fun _ _ => rfl) rfl
    hb (ok_one (by kernel_rfl) rfl (okWide_bool_mk Tryz.underlying4 _))⟩

/-- A world for the witness: the listed variables laid. -/
noncomputable def laidWorld (os : Os) : World := World.laidAll Tryz.prog os Rows.keysDigestsRow.laid
theorem laid_met (os : Os) : laidMet Tryz.prog Rows.keysDigestsRow.laid ((laidWorld os).forCall (fun _ _ => 0) ⟨#[], #[.agg #[.string .empty, .slice none 0 0, .slice none 0 0, .int .i64 0], .slice none 0 0, .string .empty], []⟩).memory :=
  laidMet_laidAll _ (by kernel_rfl) (by kernel_rfl)
theorem reads (os : Os) {H : Type} (enc : TypeId × Value → H) : ∃ places, DataW.whole enc Tryz.prog ((laidWorld os).forCall (fun _ _ => 0) ⟨#[], #[.agg #[.string .empty, .slice none 0 0, .slice none 0 0, .int .i64 0], .slice none 0 0, .string .empty], []⟩).memory Tryz.f4.params.toList Rows.keysDigestsSpec.vars false #[Value.agg #[.string .empty, .slice none 0 0, .slice none 0 0, .int .i64 0], Value.slice none 0 0, Value.string .empty].toList 8 = some ([.agg [.lit (.string []), .nil, .nil, .lit (.int .i64 0)], .nil, .lit (.string [])], [], places) :=
  ⟨[], by kernel_rfl⟩

theorem lifted (os : Os) (started : os.Started) (H : Type) (enc : TypeId × Value → H) (F : Stop.Interp) :
    ReturnsInHanded {} Tryz.checked os 4 .any ((OpenSpec.ofChange Rows.keysDigestsSpec).preRow enc Tryz.prog Tryz.f4 Rows.keysDigestsRow.domain false Rows.keysDigestsRow.laid) (((OpenSpec.ofChange Rows.keysDigestsSpec).at F).post enc Tryz.prog Tryz.f4 false true false false) := by
  obtain ⟨places, hx⟩ := reads os enc
  refine returnsInHanded_of_row (C := Tryz.checked) (s := OpenSpec.ofChange Rows.keysDigestsSpec) own started (by kernel_rfl) Tryz.func4
    (witness_row_atRef (enc := enc) (C := Tryz.checked) false (laidWorld os) #[.agg #[.string .empty, .slice none 0 0, .slice none 0 0, .int .i64 0], .slice none 0 0, .string .empty] (World.laidAll_os _ _ _) (by kernel_rfl) (by kernel_rfl) (by kernel_rfl)
      (OpenSpec.preRow_of_cond 8 hx (by kernel_rfl) (fun k hk => by cases hk) (by kernel_rfl) (laid_met os))) ?_
  intro W base args ds gs before hval hW _ _ _ hL hS _
  exact contract H enc W base args ds gs before hval hW hL hS

theorem said : Rows.KeysDigestsSaid :=
  OpenClaim.holds_of_cond 4 Tryz.f4 rfl rfl rfl rfl rfl rfl rfl ⟨rfl, rfl, rfl, rfl, rfl⟩ rfl rfl rfl rfl rfl (by kernel_rfl) Tryz.func4 (by kernel_rfl)
    (of_decide_eq_true (by kernel_rfl)) (by unfold Func.isWrapper; first | (rw [if_pos (by decide +kernel)]; kernel_rfl) | (rw [if_neg (by decide +kernel)]; exact ⟨rfl, rfl⟩))
    (fun os started H enc _ F => by rw [OpenClaim.pre_eq_preRow]; exact lifted os started H enc F)

theorem plain (f : FuncId) (fn : Func) (hf : Tryz.pinned.checked.prog.funcNamed "trestle/trestlelaw09.KeysDigests" = some f) (hfn : Tryz.pinned.checked.prog.funcs[f]? = some fn) :
    true = Tryz.pinned.checked.prog.looks [] ∧ ∀ (j : Nat) t, fn.params[j]? = some t → Tryz.pinned.checked.prog.wantsStandIn t = false := by
  obtain rfl : f = 4 := Option.some.inj ((show Tryz.prog.funcNamed "trestle/trestlelaw09.KeysDigests" = some 4 by kernel_rfl).symm.trans hf) |>.symm
  obtain rfl : fn = Tryz.f4 := (Option.some.inj (Tryz.func4.symm.trans hfn)).symm
  refine ⟨by kernel_rfl, fun j t ht => ?_⟩
  rw [Tryz.params4] at ht
  have hm : t ∈ [25, 29, 9] := by simpa using Array.mem_of_getElem? ht
  exact of_decide_eq_true (List.all_eq_true.1 (show ([25, 29, 9].all fun t => decide (Tryz.prog.wantsStandIn t = false)) = true by kernel_rfl) t hm)

/-- THE CARD. -/
theorem card : Rows.KeysDigestsCardSaid :=
  Claim7.holds_tied_plain_at .later [] _ _ _ _ said (fun _ h => by cases h) (by kernel_rfl) (fun _ h => by cases h) keysDigests_row_tie rfl ⟨rfl, rfl⟩ (by kernel_rfl) rfl plain (by kernel_rfl)
#print axioms card
end Go.Proofs.YtcpkhaebcmgehaaGreatDoor.keysDigests
