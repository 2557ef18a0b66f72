/- Contracts of strings.Builder's writing methods at a builder of the call's own (turned from the shelf's own proofs to this dump). -/
import Derived.Test.YthflhnllgfnapaaProg
import Derived.Test.YthflhnllgfnapaaKb
import Derived.Laws.Externs
import Derived.Laws.IdiomCopy
namespace Go.Proofs.Ythflhnllgfnapaa
open Go.RowKit
set_option linter.unusedVariables false

theorem sizeBuilder : (Try.prog.info? 40).map (·.size) = some 2 := by kernel_rfl
theorem liesBuilder : liesAt Try.prog Try.prog.depth 40 (2 / Try.prog.cellsOf 40) 0 40 1 = true := by kernel_rfl

set_option maxHeartbeats 1000000 in
theorem copyCheck_used (b : Nat) (w : World) (h0 : w.cell? ⟨b, 0, none⟩ = some (.pointer (some ⟨b, 0, none⟩))) :
    Calls Try.prog 28 #[.pointer (some ⟨b, 0, none⟩)] w fun e w' => e = .returned (.tuple #[]) ∧ w' = w := by
  obtain ⟨j, hj, _⟩ := Option.map_eq_some_iff.1 sizeBuilder
  go_enter Try.func28, Try.ntmps28
  go_wp2
  rw [Lib.run_neq_ptr_same w _ Try.underlying38 hj]
  go_wp2
  go_end0
  exact ⟨rfl, rfl⟩

set_option maxHeartbeats 1000000 in
theorem copyCheck_fresh (b : Nat) (w : World) (h0 : w.cell? ⟨b, 0, none⟩ = some (.pointer none)) (hsh : w.shape? b = some (40, 2)) (hfz : w.frozen? ⟨b, 0, none⟩ = false) :
    Calls Try.prog 28 #[.pointer (some ⟨b, 0, none⟩)] w fun e w' => e = .returned (.tuple #[]) ∧ w' = w.setCell ⟨b, 0, none⟩ (.pointer (some ⟨b, 0, none⟩)) := by
  obtain ⟨j, hj, hjs⟩ := Option.map_eq_some_iff.1 sizeBuilder
  go_enter Try.func28, Try.ntmps28
  go_wp2
  rw [Lib.run_to_unsafe w ⟨b, 0, none⟩ Try.underlying38 Try.underlying69 hj (by rw [hjs]; decide) hsh (Nat.zero_lt_succ 1)]
  simp only [Result.andThen]
  rw [Oper.upon_value]
  go_wp2
  rw [run_callFunc_extern Try.func35 (by kernel_rfl) (by kernel_rfl) (by kernel_rfl) (e := Extern.AbiNoEscape.same) (by kernel_rfl)]
  rw [Lib.run_noEscape]
  simp only [Result.andThen]
  rw [Oper.upon_value]
  go_wp2
  rw [Lib.run_from_unsafe w ⟨b, 0, none⟩ Try.underlying69 Try.underlying38 hj hsh liesBuilder]
  simp only [Result.andThen]
  rw [Oper.upon_value]
  go_wp2
  go_end0
  exact ⟨rfl, rfl⟩

/-- A builder of the call's own, from block B on. -/
abbrev SbAt (B b : Nat) (l : List UInt8) (w : World) : Prop := Lib.IsBuilder 40 5 B b (Lib.byteCells l) w

theorem copyCheck_any (B b : Nat) (bs : List Value) (w : World) (h : Lib.IsBuilder 40 5 B b bs w) :
    Calls Try.prog 28 #[.pointer (some ⟨b, 0, none⟩)] w fun e w' => e = .returned (.tuple #[]) ∧ (Lib.BuilderAt 40 5 B b (.pointer (some ⟨b, 0, none⟩)) bs w' ∧ Below B w w') := by
  rcases h with h | h
  · refine (copyCheck_fresh b w h.cell0 h.shape h.frozen0).mono ?_
    rintro e w' ⟨rfl, rfl⟩
    exact ⟨rfl, h.used _, (Below.refl B w).setCell (p := ⟨b, 0, none⟩) h.1 _⟩
  · refine (copyCheck_used b w h.cell0).mono ?_
    rintro e w' ⟨rfl, rfl⟩
    exact ⟨rfl, h, Below.refl B _⟩

set_option maxHeartbeats 2000000 in
theorem WriteByte_any (B b : Nat) (l : List UInt8) (c : UInt8) (w : World) (h : SbAt B b l w) (hlen : l.length + 1 ≤ 140737488355328) (hBw : B ≤ w.heap.size) :
    Calls Try.prog 17 #[.pointer (some ⟨b, 0, none⟩), .int .u8 c.toNat] w fun e w' => e = .returned .nilIface ∧ SbAt B b (l ++ [c]) w' ∧ Below B w w' := by
  go_enter Try.func17, Try.ntmps17
  go_upto_region 2 with (go_at_call 28; ((with_reducible refine (copyCheck_any B b _ _ h).mono ?_); rintro e w1 ⟨rfl, h1, hb1⟩))
  obtain ⟨hB, v, hbk, hown, hne⟩ := h1
  rw [show (Lib.byteCells l).length = l.length by simp [Lib.byteCells]] at hown
  have c0 : w1.cell? ⟨b, 0, none⟩ = some (.pointer (some ⟨b, 0, none⟩)) := by rw [Lib.cell_of_heap hbk]; rfl
  have c1 : w1.cell? ⟨b, 1, none⟩ = some v := by rw [Lib.cell_of_heap hbk]; rfl
  have hs1 : B ≤ w1.heap.size := Nat.le_trans hBw hb1.size
  have hlt : b < w1.heap.size := lt_heap hbk
  go_wp2_with (at_builtin; refine append_bytes rfl (.tmp 11) (.tmp 13) 26 rfl B 5 Try.underlying26 (by kernel_rfl) _ l.length l rfl hown _ [c] rfl 1 rfl rfl hlen hs1 hb1 ?_; intro v' w2 hown2 hb2 hoth; have hbk2 := (hoth b hlt (fun e => hne e.symm)).trans hbk; have d1 : w2.cell? ⟨b, 1, none⟩ = some v := (cell_heap hbk2 1).trans rfl; have f1 : w2.frozen? ⟨b, 1, none⟩ = false := frozen_heap hbk2 1; obtain ⟨g, cap, rfl⟩ := own_slice hown2)
  go_ret
  refine ⟨rfl, Or.inr ?_, ?_⟩
  · refine Lib.BuilderAt.put hB hbk2 ?_ (by decide)
    rw [show (Lib.byteCells (l ++ [c])).length = l.length + 1 by simp [Lib.byteCells]]
    exact hown2
  · exact hb2.setCell (p := ⟨b, 1, none⟩) hB _
end Go.Proofs.Ythflhnllgfnapaa
