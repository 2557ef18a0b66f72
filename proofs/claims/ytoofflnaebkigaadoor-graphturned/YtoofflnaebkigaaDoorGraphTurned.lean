/- For every input GraphTurned returns true; each argument reads afterwards as it read before; its row's listed variables are tied to the program's text. No condition of ours. -/
import Derived.Test.YtoofflnaebkigaaDoorCards
import Derived.Test.YtoofflnaebkigaaDoorTie
import Derived.Test.YtoofflnaebkigaaDoorGrOpen
import Derived.Test.YtoofflnaebkigaaDoorGrTurned
import Derived.ProofKit
import Derived.OpenShut
import Derived.Deep.DeepHandedRow
import Derived.Lay
import Derived.Stop.LaidErr
import Derived.Shelf.Vars
import Derived.Stop.ErrReads
import Derived.Deep.DeepWitnessRowRef
namespace Go.Proofs.YtoofflnaebkigaaDoor.graphTurned
open Go.ChangeShapes Go.WideShapes Go.ChangeAt Go.RowKit Go.ChangeMaps
set_option linter.unusedVariables false
set_option maxRecDepth 100000

theorem own : ownKnob Tryd.prog.godebug = none := by kernel_rfl
theorem star : "*" ++ "errors.errorString" = "*errors.errorString" := by decide
theorem rowE (u : TypeId) (h : Tryd.prog.typeName? 3 u = some "*errors.errorString") : u = 138 :=
  typeName_ptr_named (nm := "errors.errorString") (by rw [star]; kernel_rfl) (by kernel_rfl) (by decide) u (by rw [star]; exact h)
theorem table {W : World} (h : laidMetH Tryd.prog Rows.graphTurnedRow.laid W) (hS : W.ShapedOpen Tryd.prog) : Lg.Env W := by
  have h1 : laidMet Tryd.prog Rows.graphTurnedRow.laid W := h
  have h4 := laidMet.tail (laidMet.tail (laidMet.tail (laidMet.tail h1)))
  have h5 := laidMet.tail h4
  have h7 := laidMet.tail (laidMet.tail h5)
  obtain ⟨a1, s1, v1, _⟩ := laid_sentinel h4 (g := 6) (tp := 138) (te := 140) (ts := 9) (by kernel_rfl) (by kernel_rfl) Tryd.underlying81 rowE Tryd.underlying138 Tryd.underlying140 rfl rfl Tryd.underlying9 (by kernel_rfl) (by kernel_rfl)
  obtain ⟨a2, s2, v2, _⟩ := laid_sentinel h5 (g := 5) (tp := 138) (te := 140) (ts := 9) (by kernel_rfl) (by kernel_rfl) Tryd.underlying81 rowE Tryd.underlying138 Tryd.underlying140 rfl rfl Tryd.underlying9 (by kernel_rfl) (by kernel_rfl)
  refine ⟨cell_of_shapedOpen_int (t := 3) (zero := #[.int .i64 0]) hS (of_decide_eq_true (by kernel_rfl)) (by kernel_rfl) rfl (by kernel_rfl) (by kernel_rfl) Tryd.underlying3, ?_, ?_, ⟨_, _, World.var?_cell (by kernel_rfl) v2 0⟩, ⟨_, _, World.var?_cell (by kernel_rfl) v1 0⟩⟩
  · exact Lib.tabIs_of_head (k := .u64) (zs := Lib.pow10Tab) (g := 7) (by kernel_rfl) (by kernel_rfl) Tryd.underlying142 Tryd.underlying124 (by kernel_rfl) (by kernel_rfl) (laidMet.tail (laidMet.tail h1))
  · exact Lib.tabIs_of_head (k := .u8) (zs := Lib.asciiSpaceTab) (g := 0) (by kernel_rfl) (by kernel_rfl) Tryd.underlying77 Tryd.underlying5 (by kernel_rfl) (by kernel_rfl) h7

/-- What the walk gives, for every argument and every world that holds the table. -/
theorem contract (H : Type) (enc : TypeId × Value → H) (W : World) (base : Nat) (args : Array Value) (ds gs : List (DataW H)) (before : List MemPlace)
    (hval : ∀ (j : Nat) t v, Tryd.f5.params[j]? = some t → args[j]? = some v → Value.okWide Tryd.prog W .any base t v)
    (hW : DataW.Whole enc Tryd.prog Tryd.f5.params.toList Rows.graphTurnedSpec.vars false W args.toList ds gs before) (hL : laidMetH Tryd.prog Rows.graphTurnedRow.laid W) (hS : W.ShapedOpen Tryd.prog) :
    Calls Tryd.prog 5 args W fun e W' => ∃ v, e = .returned v ∧ Rows.graphTurnedSpec.post enc Tryd.prog Tryd.f5 false true false false W args v W' := by
  have hW' := hW
  have hlt : ∀ p ∈ before, p.block < W.heap.size := fun p hp => hW.lt p hp
  obtain ⟨p, q, hA0, hV, rfl, hfz, hnd⟩ := hW
  have hA : DataW.TrodAll enc Tryd.prog W 0 (fun _ => true) true Tryd.f5.params.toList args.toList ds p := hA0
  have hAS := hA
  rw [Tryd.params5] at hA hval
  obtain ⟨v0, vs0, d0, ds0, p0, q0, hargs, rfl, rfl, h0, r0⟩ := trodAll_cons hA
  obtain ⟨v1, vs1, d1, ds1, p1, q1, rfl, rfl, rfl, h1, r1⟩ := trodAll_cons r0
  obtain ⟨rfl, rfl, rfl⟩ := trodAll_nil r1
  obtain rfl : args = #[v0, v1] := by cases args; simp_all
  obtain ⟨rfl, rfl⟩ := trodVars_none hV
  obtain ⟨A0, l0, c0, rfl, g0⟩ := Gr.open_targets (hval 0 22 v0 rfl rfl) h0
  obtain ⟨s1, rfl, _, _, z1⟩ := open_int Tryd.underlying3 (hval 1 3 v1 rfl rfl) h1
  refine (Gr.turned_walk A0 l0 c0 s1 z1 W (table hL hS) g0).mono fun e W' ⟨he, hb⟩ => ?_
  subst he
  exact ⟨_, rfl, post_of_below (pv := []) hW' (fun _ _ _ => (trodAll_cons_mk (shut_bool Tryd.underlying4 _) trodAll_mk0)) (fun sp hs => args_stay (by kernel_rfl) (by kernel_rfl) (by kernel_rfl) (by kernel_rfl) hAS (fun p hp => hlt p (List.mem_append_left _ hp)) hb sp (fun p hp => hs p (List.mem_append_left _ hp))) (fun _ _ => rfl) rfl
    hb (ok_one (by kernel_rfl) rfl (okWide_bool_mk Tryd.underlying4 _))⟩

/-- A world for the witness: the listed variables laid. -/
noncomputable def laidWorld (os : Os) : World := World.laidAll Tryd.prog os Rows.graphTurnedRow.laid
theorem laid_met (os : Os) : laidMet Tryd.prog Rows.graphTurnedRow.laid ((laidWorld os).forCall (fun _ _ => 0) ⟨#[], #[.slice none 0 0, .int .i64 0], []⟩).memory :=
  laidMet_laidAll _ (by kernel_rfl) (by kernel_rfl)
theorem reads (os : Os) {H : Type} (enc : TypeId × Value → H) : ∃ places, DataW.whole enc Tryd.prog ((laidWorld os).forCall (fun _ _ => 0) ⟨#[], #[.slice none 0 0, .int .i64 0], []⟩).memory Tryd.f5.params.toList Rows.graphTurnedSpec.vars false #[Value.slice none 0 0, Value.int .i64 0].toList 8 = some ([.nil, .lit (.int .i64 0)], [], places) :=
  ⟨[], by kernel_rfl⟩

theorem lifted (os : Os) (started : os.Started) (H : Type) (enc : TypeId × Value → H) (F : Stop.Interp) :
    ReturnsInHanded {} Tryd.checked os 5 .any ((OpenSpec.ofChange Rows.graphTurnedSpec).preRow enc Tryd.prog Tryd.f5 Rows.graphTurnedRow.domain false Rows.graphTurnedRow.laid) (((OpenSpec.ofChange Rows.graphTurnedSpec).at F).post enc Tryd.prog Tryd.f5 false true false false) := by
  obtain ⟨places, hx⟩ := reads os enc
  refine returnsInHanded_of_row (C := Tryd.checked) (s := OpenSpec.ofChange Rows.graphTurnedSpec) own started (by kernel_rfl) Tryd.func5
    (witness_row_atRef (enc := enc) (C := Tryd.checked) false (laidWorld os) #[.slice none 0 0, .int .i64 0] (World.laidAll_os _ _ _) (by kernel_rfl) (by kernel_rfl) (by kernel_rfl)
      (OpenSpec.preRow_of_cond 8 hx (by kernel_rfl) (fun k hk => by cases hk) (by kernel_rfl) (laid_met os))) ?_
  intro W base args ds gs before hval hW _ _ _ hL hS _
  exact contract H enc W base args ds gs before hval hW hL hS

theorem said : Rows.GraphTurnedSaid :=
  OpenClaim.holds_of_cond 5 Tryd.f5 rfl rfl rfl rfl rfl rfl rfl ⟨rfl, rfl, rfl, rfl, rfl⟩ rfl rfl rfl rfl rfl (by kernel_rfl) Tryd.func5 (by kernel_rfl)
    (of_decide_eq_true (by kernel_rfl)) (by unfold Func.isWrapper; first | (rw [if_pos (by decide +kernel)]; kernel_rfl) | (rw [if_neg (by decide +kernel)]; exact ⟨rfl, rfl⟩))
    (fun os started H enc _ F => by rw [OpenClaim.pre_eq_preRow]; exact lifted os started H enc F)

theorem plain (f : FuncId) (fn : Func) (hf : Tryd.pinned.checked.prog.funcNamed "trestle/trestlelaw07.GraphTurned" = some f) (hfn : Tryd.pinned.checked.prog.funcs[f]? = some fn) :
    true = Tryd.pinned.checked.prog.looks [] ∧ ∀ (j : Nat) t, fn.params[j]? = some t → Tryd.pinned.checked.prog.wantsStandIn t = false := by
  obtain rfl : f = 5 := Option.some.inj ((show Tryd.prog.funcNamed "trestle/trestlelaw07.GraphTurned" = some 5 by kernel_rfl).symm.trans hf) |>.symm
  obtain rfl : fn = Tryd.f5 := (Option.some.inj (Tryd.func5.symm.trans hfn)).symm
  refine ⟨by kernel_rfl, fun j t ht => ?_⟩
  rw [Tryd.params5] at ht
  have hm : t ∈ [22, 3] := by simpa using Array.mem_of_getElem? ht
  exact of_decide_eq_true (List.all_eq_true.1 (show ([22, 3].all fun t => decide (Tryd.prog.wantsStandIn t = false)) = true by kernel_rfl) t hm)

/-- THE CARD. -/
theorem card : Rows.GraphTurnedCardSaid :=
  Claim7.holds_tied_plain_at .later [] _ _ _ _ said (fun _ h => by cases h) (by kernel_rfl) (fun _ h => by cases h) graphTurned_row_tie rfl ⟨rfl, rfl⟩ (by kernel_rfl) rfl plain (by kernel_rfl)
#print axioms card
end Go.Proofs.YtoofflnaebkigaaDoor.graphTurned
