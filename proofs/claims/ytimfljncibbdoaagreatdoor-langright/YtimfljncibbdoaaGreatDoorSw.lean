/- The contract of strings.Builder's WriteString at a builder of the call's own (turned from the shelf's own proofs to this dump). -/
import Derived.Test.YtimfljncibbdoaaGreatDoorSc
import Derived.Lib.AppendStr
namespace Go.Proofs.YtimfljncibbdoaaGreatDoor
open Go.RowKit
set_option linter.unusedVariables false
set_option maxRecDepth 100000
/-- a text's bytes behind a row of bytes -/
theorem append_text {P : Program} {ops : Array Oper} {rest : List Oper} {o : Oper} {a : Act} {Q : Exit → Act → World → Prop} {wr w0 : World} (hgd : o.guard = none) (s x : Operand) (t u : TypeId)
    (ho : o.op = .call { callee := .builtin .append, args := #[s, x], argTypes := #[t, u] }) (B : Nat) (e : TypeId) (ht : P.underlying t = some (.slice e)) (hu : P.underlying u = some .string)
    (hi : (P.info? e).map (fun i => (i.zero, i.size, i.bytes)) = some (some (.int .u8 0), 1, 1))
    (v : Value) (n : Nat) (old : List UInt8) (hs : a.eval s = v) (hown : wr.ownsRow B e 1 v n (Lib.byteCells old))
    (S : ByteArray) (hx : a.eval x = .string S) (hn : n + S.size ≤ 140737488355328)
    (hB : B ≤ wr.heap.size) (hb : Below B w0 wr)
    (h : ∀ v' w', w'.ownsRow B e 1 v' (n + S.size) (Lib.byteCells (old ++ S.data.toList)) → Below B w0 w' → (∀ k, k < wr.heap.size → some k ≠ v.ownBlock → w'.heap[k]? = wr.heap[k]?) → wpList P ops Q rest (a.put o.dst v') w') :
    wpList P ops Q (o :: rest) a wr := by
  obtain ⟨i0, hi0, hz0, hz1, hz2⟩ := info_parts hi
  refine Lib.wpList_append_own_string _ hgd s x t u ho B e i0 ht hu hi0 hz0 hz1 hz2 v n (Lib.byteCells old) hs hown S hx (by unfold maxLen; omega) hn hB ?_
  intro v' w' h1 h2 _
  refine h v' w' (by rw [Lib.byteCells, List.map_append]; exact h1) (hb.grown h2 hB (fun k hk => (hown.lt k hk).1)) (fun k hk hne => h2.block k hk hne)

theorem own_form {w : World} {B : Nat} {e : TypeId} {v : Value} {n size : Nat} {xs : List Value} (h : w.ownsRow B e size v n xs) : ∃ p m c, v = .slice p m c := by
  rcases h.2 with ⟨h0, _⟩ | ⟨g, cap, cur, hv, _⟩
  · exact ⟨_, _, _, h0⟩
  · exact ⟨_, _, _, hv⟩
set_option maxHeartbeats 2000000 in
theorem WriteString_any (B b : Nat) (l : List UInt8) (S : ByteArray) (w : World) (h : SbAt B b l w) (hlen : l.length + S.size ≤ 140737488355328) (hBw : B ≤ w.heap.size) :
    Calls Tryz.prog 21 #[.pointer (some ⟨b, 0, none⟩), .string S] w fun e w' => e = .returned (.tuple #[.int .i64 S.size, .nilIface]) ∧ SbAt B b (l ++ S.data.toList) w' ∧ Below B w w' := by
  have hS : (S.size : Int) ≤ 140737488355328 := by omega
  go_enter Tryz.func21, Tryz.ntmps21
  go_upto_region 2 with (go_at_call 41; ((with_reducible refine (copyCheck_any B b _ _ h).mono ?_); rintro e w1 ⟨rfl, h1, hb1⟩))
  obtain ⟨hB, v, hbk, hown, hne⟩ := h1
  rw [show (Lib.byteCells l).length = l.length by simp [Lib.byteCells]] at hown
  have c0 : w1.cell? ⟨b, 0, none⟩ = some (.pointer (some ⟨b, 0, none⟩)) := by rw [Lib.cell_of_heap hbk]; rfl
  have c1 : w1.cell? ⟨b, 1, none⟩ = some v := by rw [Lib.cell_of_heap hbk]; rfl
  have hs1 : B ≤ w1.heap.size := Nat.le_trans hBw hb1.size
  have hlt : b < w1.heap.size := lt_heap hbk
  go_wp2_with (at_builtin; refine append_text rfl (.tmp 12) (.tmp 13) 47 9 rfl B 5 Tryz.underlying47 Tryz.underlying9 (by kernel_rfl) v l.length l rfl hown S rfl hlen hs1 hb1 ?_; intro v' w2 hown2 hb2 hoth; have hbk2 := (hoth b hlt (fun e => hne e.symm)).trans hbk; have d1 : w2.cell? ⟨b, 1, none⟩ = some v := (cell_heap hbk2 1).trans rfl; have f1 : w2.frozen? ⟨b, 1, none⟩ = false := frozen_heap hbk2 1; obtain ⟨p, m, c, rfl⟩ := own_form hown2)
  go_ret2
  refine ⟨rfl, Or.inr ?_, ?_⟩
  · refine Lib.BuilderAt.put hB hbk2 ?_ (by decide)
    rw [show (Lib.byteCells (l ++ S.data.toList)).length = l.length + S.size by simp [Lib.byteCells]]
    exact hown2
  · exact hb2.setCell (p := ⟨b, 1, none⟩) hB _
end Go.Proofs.YtimfljncibbdoaaGreatDoor
