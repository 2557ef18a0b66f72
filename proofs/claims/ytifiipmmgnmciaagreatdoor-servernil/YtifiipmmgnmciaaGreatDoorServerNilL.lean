/- ServerNilL, what a claim needs of it (prune.py). -/
import Derived.Test.YtifiipmmgnmciaaGreatDoorRows
import Derived.Test.YtifiipmmgnmciaaGreatDoorMi46
import Derived.Test.YtifiipmmgnmciaaGreatDoorMi20
import Derived.ProofKit
import Derived.OpenShut
import Derived.Deep.DeepHandedRow
import Derived.Lay
import Derived.Stop.LaidErr
import Derived.Shelf.Vars
import Derived.Stop.ErrReads
import Derived.Deep.DeepWitnessRowRef
namespace Go.Proofs.YtifiipmmgnmciaaGreatDoor.serverNil
open Go.ChangeShapes Go.WideShapes Go.ChangeAt Go.RowKit Go.ChangeMaps
set_option linter.unusedVariables false
set_option maxRecDepth 100000
theorem own : ownKnob Tryz.prog.godebug = none := by kernel_rfl
theorem star : "*" ++ "errors.errorString" = "*errors.errorString" := by decide
theorem rowE (u : TypeId) (h : Tryz.prog.typeName? 3 u = some "*errors.errorString") : u = 472 :=
  typeName_ptr_named (nm := "errors.errorString") (by rw [star]; kernel_rfl) (by kernel_rfl) (by decide) u (by rw [star]; exact h)
theorem table {W : World} (h : laidMetH Tryz.prog Rows.serverNilRow.laid W) (hS : W.ShapedOpen Tryz.prog) : Lg.Env W := by
  have h1 : laidMet Tryz.prog Rows.serverNilRow.laid W := h
  have h4 := laidMet.tail (laidMet.tail (laidMet.tail (laidMet.tail h1)))
  have h5 := laidMet.tail h4
  have h7 := laidMet.tail (laidMet.tail h5)
  obtain ⟨a1, s1, v1, _⟩ := laid_sentinel h4 (g := 6) (tp := 472) (te := 474) (ts := 9) (by kernel_rfl) (by kernel_rfl) Tryz.underlying224 rowE Tryz.underlying472 Tryz.underlying474 rfl rfl Tryz.underlying9 (by kernel_rfl) (by kernel_rfl)
  obtain ⟨a2, s2, v2, _⟩ := laid_sentinel h5 (g := 5) (tp := 472) (te := 474) (ts := 9) (by kernel_rfl) (by kernel_rfl) Tryz.underlying224 rowE Tryz.underlying472 Tryz.underlying474 rfl rfl Tryz.underlying9 (by kernel_rfl) (by kernel_rfl)
  refine ⟨cell_of_shapedOpen_int (t := 3) (zero := #[.int .i64 0]) hS (of_decide_eq_true (by kernel_rfl)) (by kernel_rfl) rfl (by kernel_rfl) (by kernel_rfl) Tryz.underlying3, ?_, ?_, ⟨_, _, World.var?_cell (by kernel_rfl) v2 0⟩, ⟨_, _, World.var?_cell (by kernel_rfl) v1 0⟩⟩
  · exact Lib.tabIs_of_head (k := .u64) (zs := Lib.pow10Tab) (g := 7) (by kernel_rfl) (by kernel_rfl) Tryz.underlying462 Tryz.underlying363 (by kernel_rfl) (by kernel_rfl) (laidMet.tail (laidMet.tail h1))
  · exact Lib.tabIs_of_head (k := .u8) (zs := Lib.asciiSpaceTab) (g := 0) (by kernel_rfl) (by kernel_rfl) Tryz.underlying332 Tryz.underlying5 (by kernel_rfl) (by kernel_rfl) h7
theorem contract (H : Type) (enc : TypeId × Value → H) (W : World) (base : Nat) (args : Array Value) (ds gs : List (DataW H)) (before : List MemPlace)
    (hval : ∀ (j : Nat) t v, Tryz.f3.params[j]? = some t → args[j]? = some v → Value.okWide Tryz.prog W .any base t v)
    (hW : DataW.Whole enc Tryz.prog Tryz.f3.params.toList Rows.serverNilSpec.vars false W args.toList ds gs before) (hL : laidMetH Tryz.prog Rows.serverNilRow.laid W) (hS : W.ShapedOpen Tryz.prog) :
    Calls Tryz.prog 3 args W fun e W' => ∃ v, e = .returned v ∧ Rows.serverNilSpec.post enc Tryz.prog Tryz.f3 false true false false W args v W' := by
  have hW' := hW
  have hlt : ∀ p ∈ before, p.block < W.heap.size := fun p hp => hW.lt p hp
  obtain ⟨p, q, hA0, hV, rfl, hfz, hnd⟩ := hW
  have hA : DataW.TrodAll enc Tryz.prog W 0 (fun _ => true) true Tryz.f3.params.toList args.toList ds p := hA0
  have hAS := hA
  rw [Tryz.params3] at hA hval
  obtain ⟨v0, vs0, d0, ds0, p0, q0, hargs, rfl, rfl, h0, r0⟩ := trodAll_cons hA
  obtain ⟨rfl, rfl, rfl⟩ := trodAll_nil r0
  obtain rfl : args = #[v0] := by cases args; simp_all
  obtain ⟨rfl, rfl⟩ := trodVars_none hV
  obtain ⟨s0, rfl, _, _, z0⟩ := open_string Tryz.underlying9 (hval 0 9 v0 rfl rfl) h0
  refine (Sv.nil_walk s0 z0 W (table hL hS)).mono fun e W' ⟨he, hb⟩ => ?_
  subst he
  exact ⟨_, rfl, post_of_below (pv := []) hW' (fun _ _ _ => (trodAll_cons_mk (shut_bool Tryz.underlying4 _) trodAll_mk0)) (fun sp hs => args_stay (by kernel_rfl) (by kernel_rfl) (by kernel_rfl) (by kernel_rfl) hAS (fun p hp => hlt p (List.mem_append_left _ hp)) hb sp (fun p hp => hs p (List.mem_append_left _ hp))) (fun _ _ => rfl) rfl
    hb (ok_one (by kernel_rfl) rfl (okWide_bool_mk Tryz.underlying4 _))⟩
noncomputable def laidWorld (os : Os) : World := World.laidAll Tryz.prog os Rows.serverNilRow.laid
theorem laid_met (os : Os) : laidMet Tryz.prog Rows.serverNilRow.laid ((laidWorld os).forCall (fun _ _ => 0) ⟨#[], #[.string .empty], []⟩).memory :=
  laidMet_laidAll _ (by kernel_rfl) (by kernel_rfl)
theorem reads (os : Os) {H : Type} (enc : TypeId × Value → H) : ∃ places, DataW.whole enc Tryz.prog ((laidWorld os).forCall (fun _ _ => 0) ⟨#[], #[.string .empty], []⟩).memory Tryz.f3.params.toList Rows.serverNilSpec.vars false #[Value.string .empty].toList 8 = some ([.lit (.string [])], [], places) :=
  ⟨[], by kernel_rfl⟩
theorem lifted (os : Os) (started : os.Started) (H : Type) (enc : TypeId × Value → H) (F : Stop.Interp) :
    ReturnsInHanded {} Tryz.checked os 3 .any ((OpenSpec.ofChange Rows.serverNilSpec).preRow enc Tryz.prog Tryz.f3 Rows.serverNilRow.domain false Rows.serverNilRow.laid) (((OpenSpec.ofChange Rows.serverNilSpec).at F).post enc Tryz.prog Tryz.f3 false true false false) := by
  obtain ⟨places, hx⟩ := reads os enc
  refine returnsInHanded_of_row (C := Tryz.checked) (s := OpenSpec.ofChange Rows.serverNilSpec) own started (by kernel_rfl) Tryz.func3
    (witness_row_atRef (enc := enc) (C := Tryz.checked) false (laidWorld os) #[.string .empty] (World.laidAll_os _ _ _) (by kernel_rfl) (by kernel_rfl) (by kernel_rfl)
      (OpenSpec.preRow_of_cond 8 hx (by kernel_rfl) (fun k hk => by cases hk) (by kernel_rfl) (laid_met os))) ?_
  intro W base args ds gs before hval hW _ _ _ hL hS _
  exact contract H enc W base args ds gs before hval hW hL hS
end Go.Proofs.YtifiipmmgnmciaaGreatDoor.serverNil
