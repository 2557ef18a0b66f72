/- Joined by mkmerged.py: Kt. -/
import Derived.WalkKit
import Derived.Deep.QuietTactic
import Derived.BigQuiet
import Derived.Outline
import Derived.Lib.Hide
import Derived.Deep.DeepFit
import Derived.Deep.WholeRow
import Derived.Deep.MidRow
import Derived.LoopTactic
import Derived.BigFrame
import Derived.BigRegion
import Derived.StillTailTactics
import Derived.Deep.Cut
import Derived.Laws.AppendOwn
import Derived.Deep.CutRange
import Derived.Below
import Derived.Laws.BytesString
import Derived.Lib.Builder
import Derived.Lib.UnsafeStr
import Derived.Lib.AppendStr
import Derived.Lib.Strings
import Derived.Lib.IndexBytes
import Derived.Test.YtifiipmmgnmciaaGreatDoorProg
import Derived.Laws.Externs
import Derived.Laws.IdiomCopy
/- Kt, what a claim needs of it (prune.py). -/
namespace Go.Proofs.YtifiipmmgnmciaaGreatDoor
open Go.RowKit
set_option linter.unusedVariables false
theorem wpList_val {P : Program} {ops : Array Oper} {rest : List Oper} {o : Oper} {a : Act} {w w' : World} {Q : Exit → Act → World → Prop} (d : Nat) (hd : o.dst = some d) (hg : o.guard = none) (v : Value)
    (h : (execOp a.eval o).run P w = .ok (.value v) w') (k : wpList P ops Q rest (a.put (some d) v) w') : wpList P ops Q (o :: rest) a w :=
  wpList_plain hg fun K hK => by unfold Oper.wp; rw [h, Oper.upon_value, hd]; exact hK _ _ k
theorem wpList_pure {P : Program} {ops : Array Oper} {rest : List Oper} {o : Oper} {a : Act} {w : World} {Q : Exit → Act → World → Prop} (d : Nat) (hd : o.dst = some d) (hg : o.guard = none) (v : Value)
    (h : (execOp a.eval o).run P w = .ok (.value v) w) (k : wpList P ops Q rest (a.put (some d) v) w) : wpList P ops Q (o :: rest) a w := wpList_val d hd hg v h k
theorem wpList_index {P : Program} {ops : Array Oper} {rest : List Oper} {o : Oper} {a : Act} {w : World} {Q : Exit → Act → World → Prop} (d : Nat) (xt : TypeId) (x i : Operand) (ho : o.op = .index xt x i) (hd : o.dst = some d) (hg : o.guard = none) (v : Value)
    (h : (Instr.index xt (a.eval x) (a.eval i)).run P w = .ok v w) (k : wpList P ops Q rest (a.put (some d) v) w) : wpList P ops Q (o :: rest) a w :=
  wpList_val d hd hg v (by unfold execOp; simp only [ho, Sem.run_bind, h, Result.andThen_ok, Sem.run_pure]) k
theorem wpList_store_new {P : Program} {ops : Array Oper} {rest : List Oper} {op : Oper} {a : Act} {w : World} {Q : Exit → Act → World → Prop} (hgd : op.guard = none) (ty : TypeId) (x y : Operand) (ho : op.op = .store ty x y)
    (c c' : Array Value) (hx : a.eval x = .pointer (some ⟨w.heap.size, 0, none⟩)) (hy : a.eval y = .agg c')
    (hi : (P.info? ty).map (·.size) = some c'.size) (hc : c.size = c'.size) (h1 : c'.all (·.oneCell') = true)
    (h : wpList P ops Q rest (a.put op.dst undef) (w.alloc (.cells c' ty))) : wpList P ops Q (op :: rest) a (w.alloc (.cells c ty)) :=
  wpList_plain hgd fun K hK => by
    unfold Oper.wp execOp
    simp only [ho, hx, hy, run_storeAt_new w ty c c' hi hc h1, Sem.run_bind, Sem.run_pure, Result.andThen_ok]
    exact hK _ _ h
theorem results_cell {fn : Func} {p : Tmp} {ty : TypeId} (h : fn.results = #[.cell p ty]) (tmps : Array Value) (P : Program) (w : World) (a : Addr) (v : Value) (w' : World)
    (hp : tmps.getD p undef = .pointer (some a)) (hl : (loadVar ty a).run P w = .ok v w') : (results fn tmps).run P w = .ok v w' := by
  simp only [results, h]
  have hp' : tmps[p]?.getD undef = .pointer (some a) := by simpa using hp
  simp [hp', asAddr, hl]
theorem heap_set {w : World} {B : Nat} {off : Nat} {c : Array Value} {t : TypeId} {fr : Nat × Nat} {v : Value} (h : w.heap[B]? = some (.cells c t fr)) :
    (w.setCell ⟨B, off, none⟩ v).heap[B]? = some (.cells (c.setIfInBounds off v) t fr) := by simp [World.setCell, Array.getElem?_modify, h]
theorem heap_set_ne {w : World} {B B' : Nat} {off : Nat} {v : Value} (h : B ≠ B') : (w.setCell ⟨B, off, none⟩ v).heap[B']? = w.heap[B']? := Below.heap_setCell _ _ _ _ (fun e => h e.symm)
theorem cell_heap {w : World} {b : Nat} {cs : Array Value} {T : TypeId} {fr : Nat × Nat} (hb : w.heap[b]? = some (.cells cs T fr)) (j : Nat) : w.cell? ⟨b, j, none⟩ = cs[j]? := by
  simp [World.cell?, hb]
theorem frozen_heap {w : World} {b : Nat} {cs : Array Value} {T : TypeId} (hb : w.heap[b]? = some (.cells cs T (0, 0))) (j : Nat) : w.frozen? ⟨b, j, none⟩ = false := by
  simp [World.frozen?, hb]
theorem lt_heap {w : World} {b : Nat} {o : Obj} (hb : w.heap[b]? = some o) : b < w.heap.size := (Array.getElem?_eq_some_iff.1 hb).1
theorem heap_below {B : Nat} {w w' : World} {b : Nat} {o : Obj} (h : Below B w w') (hb : b < B) (k : w.heap[b]? = some o) : w'.heap[b]? = some o := (h.block b hb).trans k
theorem heap_alloc_lt {w : World} {b : Nat} {o o' : Obj} (k : w.heap[b]? = some o) : (w.alloc o').heap[b]? = some o := (Below.heap_alloc w o' b (lt_heap k)).trans k
theorem grown_trans {w w' w'' : World} {r : Option Nat} (h : w.grownBy w' r) (k : w'.grownBy w'' r) : w.grownBy w'' r :=
  ⟨k.os.trans h.os, k.tape.trans h.tape, k.output.trans h.output, Nat.le_trans h.size k.size, fun b hb hr => (k.block b (Nat.lt_of_lt_of_le hb h.size) hr).trans (h.block b hb hr)⟩
theorem grown_of_below {w w' : World} (h : Below w.heap.size w w') (r : Option Nat) : w.grownBy w' r := ⟨h.os, h.tape, h.output, h.size, fun b hb _ => h.block b hb⟩
theorem grown_set {w w' : World} {r : Option Nat} (h : w.grownBy w' r) {b : Nat} (hb : w.heap.size ≤ b ∨ r = some b) (o : Nat) (v : Value) : w.grownBy (w'.setCell ⟨b, o, none⟩ v) r :=
  ⟨h.os, h.tape, h.output, by simpa [World.setCell] using h.size, fun k hk hr => (heap_set_ne (by rcases hb with hb | hb; omega; (intro e; subst e; exact hr hb.symm))).trans (h.block k hk hr)⟩
theorem grown_drewN {w w' : World} {r : Option Nat} (h : w.grownBy w' r) (n : Nat) : w.grownBy (w'.drewN n) r := ⟨h.os, h.tape, h.output, h.size, h.block⟩
theorem grown_alloc {w w' : World} {r : Option Nat} (h : w.grownBy w' r) (o : Obj) : w.grownBy (w'.alloc o) r :=
  ⟨h.os, h.tape, h.output, Nat.le_trans h.size (by simp), fun k hk hr => (Below.heap_alloc _ _ _ (Nat.lt_of_lt_of_le hk h.size)).trans (h.block k hk hr)⟩
theorem belowDN {B : Nat} {w w' : World} (h : Below B w w') (n : Nat) : Below B w (w'.drewN n) := ⟨h.os, h.tape, h.output, h.size, h.block⟩
end Go.Proofs.YtifiipmmgnmciaaGreatDoor
namespace Go.Proofs.YtifiipmmgnmciaaGreatDoor
open Go.RowKit
set_option linter.unusedVariables false
theorem conv_own {P : Program} {w : World} {src dst e : TypeId} {B n : Nat} {v : Value} {l : List UInt8} (hs : P.underlying src = some (.slice e)) (he : P.underlying e = some (.int .u8)) (hd : P.underlying dst = some .string)
    (h : w.ownsRow B e 1 v n (Lib.byteCells l)) : (convert src dst v).run P w = .ok (.string ⟨l.toArray⟩) w := by
  obtain ⟨hl, h⟩ := h
  rcases h with ⟨rfl, rfl⟩ | ⟨g, cap, cur, rfl, _, hg, hn, _, hc, hx⟩
  · rw [run_convert_bytes_string w src dst e _ _ _ hs he hd]
    have : l = [] := by simpa [Lib.byteCells] using hl
    subst this
    rfl
  · rw [run_convert_bytes_string w src dst e _ _ _ hs he hd]
    have hb : Lib.byteCells l = (l.map fun b => (b.toNat : Int)).map (Value.int .u8) := by simp [Lib.byteCells]
    have hld : (loadCells ⟨g, 0, none⟩ n).run P w = .ok ((l.map fun b => (b.toNat : Int)).map (Value.int .u8)).toArray w := by
      have := run_loadCells_list (P := P) w ⟨g, 0, none⟩ (Lib.byteCells l) (fun j v hv => by
        rw [Addr.add_mid, Nat.zero_add, cell_heap hg]
        rw [← hx, List.getElem?_take] at hv
        split at hv
        · simpa using hv
        · cases hv)
      rw [hl, Nat.mul_one, hb] at this
      exact this
    rw [run_bytesToString w _ n cap _ hld]
    congr 2
    have : ∀ (l : List UInt8) (s : ByteArray), ((l.map fun b => (b.toNat : Int)).foldl (fun r n => r.push (UInt8.ofNat n.toNat)) s) = ⟨(s.data.toList ++ l).toArray⟩ := by
      intro l
      induction l with
      | nil => intro s; simp
      | cons x l ih => intro s; simp only [List.map_cons, List.foldl_cons]; rw [ih]; simp [ByteArray.push]
    rw [this]
    simp
theorem append_bytes {P : Program} {ops : Array Oper} {rest : List Oper} {o : Oper} {a : Act} {Q : Exit → Act → World → Prop} {wr w0 : World} (hgd : o.guard = none) (s x : Operand) (t : TypeId)
    (ho : o.op = .call { callee := .builtin .append, args := #[s, x], argTypes := #[t, t] }) (B : Nat) (e : TypeId) (ht : P.underlying t = some (.slice e))
    (hi : (P.info? e).map (fun i => (i.zero, i.size, i.bytes)) = some (some (.int .u8 0), 1, 1))
    (v : Value) (n : Nat) (old : List UInt8) (hs : a.eval s = v) (hown : wr.ownsRow B e 1 v n (Lib.byteCells old))
    (cs : Array Value) (new : List UInt8) (hcs : cs = (Lib.byteCells new).toArray) (m : Nat) (hx : a.eval x = .slice (some ⟨wr.heap.size, 0, none⟩) m m) (hm : new.length = m) (hn : n + m ≤ 140737488355328)
    (hB : B ≤ wr.heap.size) (hb : Below B w0 wr)
    (h : ∀ v' w', w'.ownsRow B e 1 v' (n + m) (Lib.byteCells (old ++ new)) → Below B w0 w' → (∀ k, k < wr.heap.size → some k ≠ v.ownBlock → w'.heap[k]? = wr.heap[k]?) → wpList P ops Q rest (a.put o.dst v') w') :
    wpList P ops Q (o :: rest) a (wr.alloc (.cells cs e)) := by
  obtain ⟨i0, hi0, hz0, hz1, hz2⟩ := info_parts hi
  subst hcs
  refine wpList_append_own _ hgd s x t ho B e i0 (.int .u8 0) 1 1 ht hi0 hz0 hz1 hz2 rfl (by decide) v n (Lib.byteCells old) hs (hown.alloc _) ⟨wr.heap.size, 0, none⟩ m m (Lib.byteCells new) hx (by simp [Lib.byteCells, hm]) ?_ ?_ ?_ ?_ ?_ ?_
  · intro j u hu
    rw [Addr.add_mid, Nat.zero_add, cell_heap (heap_alloc_new wr _)]
    simpa using hu
  · intro u hu; simp [Lib.byteCells] at hu; obtain ⟨b, _, rfl⟩ := hu; rfl
  · unfold maxLen; omega
  · omega
  · simp; omega
  · intro v' w' h1 h2 _
    refine h v' w' (by rw [Lib.byteCells, List.map_append]; exact h1) ?_ ?_
    · exact (hb.alloc hB _).grown h2 (by simp; omega) (fun k hk => (hown.lt k hk).1)
    · intro k hk hne
      rw [h2.block k (by simp; omega) hne, Below.heap_alloc _ _ _ hk]
theorem run_index_arr {P : Program} {w : World} {xt e : TypeId} {n j : Nat} {cs : Array Value} {v : Value} {k : IntKind} (hu : P.underlying xt = some (.array n e)) (ha : (isAgg e).run P w = .ok false w) (hs : (sizeOf e).run P w = .ok 1 w)
    (hj : j < n) (hv : cs[j]? = some v) : (Instr.index xt (.agg cs) (.int k j)).run P w = .ok v w := by
  have h1 : (0 : Int) ≤ j ∧ (j : Int) < n := by omega
  unfold Instr.index part
  simp only [asIntOf, Sem.run_bind, Sem.run_pure, Result.andThen_ok, run_underlying hu, if_pos h1, hs, ha]
  simp [hv]
end Go.Proofs.YtifiipmmgnmciaaGreatDoor
namespace Go.Proofs.YtifiipmmgnmciaaGreatDoor
open Go.RowKit
set_option linter.unusedVariables false
set_option maxRecDepth 100000
theorem sizeBuilder : (Tryz.prog.info? 217).map (·.size) = some 2 := by kernel_rfl
theorem liesBuilder : liesAt Tryz.prog Tryz.prog.depth 217 (2 / Tryz.prog.cellsOf 217) 0 217 1 = true := by kernel_rfl
set_option maxHeartbeats 1000000 in
theorem copyCheck_used (b : Nat) (w : World) (h0 : w.cell? ⟨b, 0, none⟩ = some (.pointer (some ⟨b, 0, none⟩))) :
    Calls Tryz.prog 189 #[.pointer (some ⟨b, 0, none⟩)] w fun e w' => e = .returned (.tuple #[]) ∧ w' = w := by
  obtain ⟨j, hj, _⟩ := Option.map_eq_some_iff.1 sizeBuilder
  go_enter Tryz.func189, Tryz.ntmps189
  go_wp2
  rw [Lib.run_neq_ptr_same w _ Tryz.underlying214 hj]
  go_wp2
  go_end0
  exact ⟨rfl, rfl⟩
set_option maxHeartbeats 1000000 in
theorem copyCheck_fresh (b : Nat) (w : World) (h0 : w.cell? ⟨b, 0, none⟩ = some (.pointer none)) (hsh : w.shape? b = some (217, 2)) (hfz : w.frozen? ⟨b, 0, none⟩ = false) :
    Calls Tryz.prog 189 #[.pointer (some ⟨b, 0, none⟩)] w fun e w' => e = .returned (.tuple #[]) ∧ w' = w.setCell ⟨b, 0, none⟩ (.pointer (some ⟨b, 0, none⟩)) := by
  obtain ⟨j, hj, hjs⟩ := Option.map_eq_some_iff.1 sizeBuilder
  go_enter Tryz.func189, Tryz.ntmps189
  go_wp2
  rw [Lib.run_to_unsafe w ⟨b, 0, none⟩ Tryz.underlying214 Tryz.underlying343 hj (by rw [hjs]; decide) hsh (Nat.zero_lt_succ 1)]
  simp only [Result.andThen]
  rw [Oper.upon_value]
  go_wp2
  rw [run_callFunc_extern Tryz.func244 (by kernel_rfl) (by kernel_rfl) (by kernel_rfl) (e := Extern.AbiNoEscape.same) (by kernel_rfl)]
  rw [Lib.run_noEscape]
  simp only [Result.andThen]
  rw [Oper.upon_value]
  go_wp2
  rw [Lib.run_from_unsafe w ⟨b, 0, none⟩ Tryz.underlying343 Tryz.underlying214 hj hsh liesBuilder]
  simp only [Result.andThen]
  rw [Oper.upon_value]
  go_wp2
  go_end0
  exact ⟨rfl, rfl⟩
abbrev SbAt (B b : Nat) (l : List UInt8) (w : World) : Prop := Lib.IsBuilder 217 5 B b (Lib.byteCells l) w
theorem copyCheck_any (B b : Nat) (bs : List Value) (w : World) (h : Lib.IsBuilder 217 5 B b bs w) :
    Calls Tryz.prog 189 #[.pointer (some ⟨b, 0, none⟩)] w fun e w' => e = .returned (.tuple #[]) ∧ (Lib.BuilderAt 217 5 B b (.pointer (some ⟨b, 0, none⟩)) bs w' ∧ Below B w w') := by
  rcases h with h | h
  · refine (copyCheck_fresh b w h.cell0 h.shape h.frozen0).mono ?_
    rintro e w' ⟨rfl, rfl⟩
    exact ⟨rfl, h.used _, (Below.refl B w).setCell (p := ⟨b, 0, none⟩) h.1 _⟩
  · refine (copyCheck_used b w h.cell0).mono ?_
    rintro e w' ⟨rfl, rfl⟩
    exact ⟨rfl, h, Below.refl B _⟩
end Go.Proofs.YtifiipmmgnmciaaGreatDoor
namespace Go.Proofs.YtifiipmmgnmciaaGreatDoor
open Go.RowKit
set_option linter.unusedVariables false
set_option maxRecDepth 100000
theorem append_text {P : Program} {ops : Array Oper} {rest : List Oper} {o : Oper} {a : Act} {Q : Exit → Act → World → Prop} {wr w0 : World} (hgd : o.guard = none) (s x : Operand) (t u : TypeId)
    (ho : o.op = .call { callee := .builtin .append, args := #[s, x], argTypes := #[t, u] }) (B : Nat) (e : TypeId) (ht : P.underlying t = some (.slice e)) (hu : P.underlying u = some .string)
    (hi : (P.info? e).map (fun i => (i.zero, i.size, i.bytes)) = some (some (.int .u8 0), 1, 1))
    (v : Value) (n : Nat) (old : List UInt8) (hs : a.eval s = v) (hown : wr.ownsRow B e 1 v n (Lib.byteCells old))
    (S : ByteArray) (hx : a.eval x = .string S) (hn : n + S.size ≤ 140737488355328)
    (hB : B ≤ wr.heap.size) (hb : Below B w0 wr)
    (h : ∀ v' w', w'.ownsRow B e 1 v' (n + S.size) (Lib.byteCells (old ++ S.data.toList)) → Below B w0 w' → (∀ k, k < wr.heap.size → some k ≠ v.ownBlock → w'.heap[k]? = wr.heap[k]?) → wpList P ops Q rest (a.put o.dst v') w') :
    wpList P ops Q (o :: rest) a wr := by
  obtain ⟨i0, hi0, hz0, hz1, hz2⟩ := info_parts hi
  refine Lib.wpList_append_own_string _ hgd s x t u ho B e i0 ht hu hi0 hz0 hz1 hz2 v n (Lib.byteCells old) hs hown S hx (by unfold maxLen; omega) hn hB ?_
  intro v' w' h1 h2 _
  refine h v' w' (by rw [Lib.byteCells, List.map_append]; exact h1) (hb.grown h2 hB (fun k hk => (hown.lt k hk).1)) (fun k hk hne => h2.block k hk hne)
theorem own_form {w : World} {B : Nat} {e : TypeId} {v : Value} {n size : Nat} {xs : List Value} (h : w.ownsRow B e size v n xs) : ∃ p m c, v = .slice p m c := by
  rcases h.2 with ⟨h0, _⟩ | ⟨g, cap, cur, hv, _⟩
  · exact ⟨_, _, _, h0⟩
  · exact ⟨_, _, _, hv⟩
set_option maxHeartbeats 2000000 in
theorem WriteString_any (B b : Nat) (l : List UInt8) (S : ByteArray) (w : World) (h : SbAt B b l w) (hlen : l.length + S.size ≤ 140737488355328) (hBw : B ≤ w.heap.size) :
    Calls Tryz.prog 120 #[.pointer (some ⟨b, 0, none⟩), .string S] w fun e w' => e = .returned (.tuple #[.int .i64 S.size, .nilIface]) ∧ SbAt B b (l ++ S.data.toList) w' ∧ Below B w w' := by
  have hS : (S.size : Int) ≤ 140737488355328 := by omega
  go_enter Tryz.func120, Tryz.ntmps120
  go_upto_region 2 with (go_at_call 189; ((with_reducible refine (copyCheck_any B b _ _ h).mono ?_); rintro e w1 ⟨rfl, h1, hb1⟩))
  obtain ⟨hB, v, hbk, hown, hne⟩ := h1
  rw [show (Lib.byteCells l).length = l.length by simp [Lib.byteCells]] at hown
  have c0 : w1.cell? ⟨b, 0, none⟩ = some (.pointer (some ⟨b, 0, none⟩)) := by rw [Lib.cell_of_heap hbk]; rfl
  have c1 : w1.cell? ⟨b, 1, none⟩ = some v := by rw [Lib.cell_of_heap hbk]; rfl
  have hs1 : B ≤ w1.heap.size := Nat.le_trans hBw hb1.size
  have hlt : b < w1.heap.size := lt_heap hbk
  go_wp2_with (at_builtin; refine append_text rfl (.tmp 12) (.tmp 13) 215 9 rfl B 5 Tryz.underlying215 Tryz.underlying9 (by kernel_rfl) v l.length l rfl hown S rfl hlen hs1 hb1 ?_; intro v' w2 hown2 hb2 hoth; have hbk2 := (hoth b hlt (fun e => hne e.symm)).trans hbk; have d1 : w2.cell? ⟨b, 1, none⟩ = some v := (cell_heap hbk2 1).trans rfl; have f1 : w2.frozen? ⟨b, 1, none⟩ = false := frozen_heap hbk2 1; obtain ⟨p, m, c, rfl⟩ := own_form hown2)
  go_ret2
  refine ⟨rfl, Or.inr ?_, ?_⟩
  · refine Lib.BuilderAt.put hB hbk2 ?_ (by decide)
    rw [show (Lib.byteCells (l ++ S.data.toList)).length = l.length + S.size by simp [Lib.byteCells]]
    exact hown2
  · exact hb2.setCell (p := ⟨b, 1, none⟩) hB _
end Go.Proofs.YtifiipmmgnmciaaGreatDoor
