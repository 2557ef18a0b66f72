/- Joined by mkmerged.py: Kt, PkSpec, PkText, PkList. -/
import Derived.WalkKit
import Derived.Deep.QuietTactic
import Derived.BigQuiet
import Derived.Outline
import Derived.Lib.Hide
import Derived.Deep.DeepFit
import Derived.Deep.WholeRow
import Derived.Deep.MidRow
import Derived.LoopTactic
import Derived.BigFrame
import Derived.BigRegion
import Derived.StillTailTactics
import Derived.Deep.Cut
import Derived.Laws.AppendOwn
import Derived.Deep.CutRange
import Derived.Below
import Derived.Laws.BytesString
import Derived.Lib.Builder
import Derived.Lib.UnsafeStr
import Derived.Lib.AppendStr
import Derived.Lib.Strings
import Derived.Lib.IndexBytes
import Derived.Test.YtcpkhaebcmgehaaGreatDoorProg
import Derived.Laws.Externs
import Derived.Laws.IdiomCopy
import Derived.Lib.ItoaNum
import Derived.Test.YtcpkhaebcmgehaaGreatDoorShelf
import Derived.Lib.AppendIntMem
import Derived.Deep.RegionWith
import Derived.Test.YtcpkhaebcmgehaaGreatDoorMa01
import Derived.Laws.OwnMore
import Derived.Deep.AppendLies
import Derived.Deep.Draws
/- Small laws of ours on the walk, of no program. -/
namespace Go.Proofs.YtcpkhaebcmgehaaGreatDoor
open Go.RowKit
set_option linter.unusedVariables false

/-- one operation, by its value: met at its slot alone -/
theorem wpList_val {P : Program} {ops : Array Oper} {rest : List Oper} {o : Oper} {a : Act} {w w' : World} {Q : Exit → Act → World → Prop} (d : Nat) (hd : o.dst = some d) (hg : o.guard = none) (v : Value)
    (h : (execOp a.eval o).run P w = .ok (.value v) w') (k : wpList P ops Q rest (a.put (some d) v) w') : wpList P ops Q (o :: rest) a w :=
  wpList_plain hg fun K hK => by unfold Oper.wp; rw [h, Oper.upon_value, hd]; exact hK _ _ k
/-- one operation that leaves the world, by its value: met at its slot alone -/
theorem wpList_pure {P : Program} {ops : Array Oper} {rest : List Oper} {o : Oper} {a : Act} {w : World} {Q : Exit → Act → World → Prop} (d : Nat) (hd : o.dst = some d) (hg : o.guard = none) (v : Value)
    (h : (execOp a.eval o).run P w = .ok (.value v) w) (k : wpList P ops Q rest (a.put (some d) v) w) : wpList P ops Q (o :: rest) a w := wpList_val d hd hg v h k
/-- one operation without a slot, by the world behind it -/
theorem wpList_act {P : Program} {ops : Array Oper} {rest : List Oper} {o : Oper} {a : Act} {w w' : World} {Q : Exit → Act → World → Prop} (hd : o.dst = none) (hg : o.guard = none) (v : Value)
    (h : (execOp a.eval o).run P w = .ok (.value v) w') (k : wpList P ops Q rest a w') : wpList P ops Q (o :: rest) a w :=
  wpList_plain hg fun K hK => by unfold Oper.wp; rw [h, Oper.upon_value, hd]; exact hK _ _ k

/-- an index of an array's value, or of a string -/
theorem wpList_index {P : Program} {ops : Array Oper} {rest : List Oper} {o : Oper} {a : Act} {w : World} {Q : Exit → Act → World → Prop} (d : Nat) (xt : TypeId) (x i : Operand) (ho : o.op = .index xt x i) (hd : o.dst = some d) (hg : o.guard = none) (v : Value)
    (h : (Instr.index xt (a.eval x) (a.eval i)).run P w = .ok v w) (k : wpList P ops Q rest (a.put (some d) v) w) : wpList P ops Q (o :: rest) a w :=
  wpList_val d hd hg v (by unfold execOp; simp only [ho, Sem.run_bind, h, Result.andThen_ok, Sem.run_pure]) k
/-- a whole array into the block that was made last -/
theorem wpList_store_new {P : Program} {ops : Array Oper} {rest : List Oper} {op : Oper} {a : Act} {w : World} {Q : Exit → Act → World → Prop} (hgd : op.guard = none) (ty : TypeId) (x y : Operand) (ho : op.op = .store ty x y)
    (c c' : Array Value) (hx : a.eval x = .pointer (some ⟨w.heap.size, 0, none⟩)) (hy : a.eval y = .agg c')
    (hi : (P.info? ty).map (·.size) = some c'.size) (hc : c.size = c'.size) (h1 : c'.all (·.oneCell') = true)
    (h : wpList P ops Q rest (a.put op.dst undef) (w.alloc (.cells c' ty))) : wpList P ops Q (op :: rest) a (w.alloc (.cells c ty)) :=
  wpList_plain hgd fun K hK => by
    unfold Oper.wp execOp
    simp only [ho, hx, hy, run_storeAt_new w ty c c' hi hc h1, Sem.run_bind, Sem.run_pure, Result.andThen_ok]
    exact hK _ _ h

/-- one result that lies in a variable -/
theorem results_cell {fn : Func} {p : Tmp} {ty : TypeId} (h : fn.results = #[.cell p ty]) (tmps : Array Value) (P : Program) (w : World) (a : Addr) (v : Value) (w' : World)
    (hp : tmps.getD p undef = .pointer (some a)) (hl : (loadVar ty a).run P w = .ok v w') : (results fn tmps).run P w = .ok v w' := by
  simp only [results, h]
  have hp' : tmps[p]?.getD undef = .pointer (some a) := by simpa using hp
  simp [hp', asAddr, hl]
theorem heap_set {w : World} {B : Nat} {off : Nat} {c : Array Value} {t : TypeId} {fr : Nat × Nat} {v : Value} (h : w.heap[B]? = some (.cells c t fr)) :
    (w.setCell ⟨B, off, none⟩ v).heap[B]? = some (.cells (c.setIfInBounds off v) t fr) := by simp [World.setCell, Array.getElem?_modify, h]
theorem heap_set_ne {w : World} {B B' : Nat} {off : Nat} {v : Value} (h : B ≠ B') : (w.setCell ⟨B, off, none⟩ v).heap[B']? = w.heap[B']? := Below.heap_setCell _ _ _ _ (fun e => h e.symm)
theorem cell_heap {w : World} {b : Nat} {cs : Array Value} {T : TypeId} {fr : Nat × Nat} (hb : w.heap[b]? = some (.cells cs T fr)) (j : Nat) : w.cell? ⟨b, j, none⟩ = cs[j]? := by
  simp [World.cell?, hb]
theorem frozen_heap {w : World} {b : Nat} {cs : Array Value} {T : TypeId} (hb : w.heap[b]? = some (.cells cs T (0, 0))) (j : Nat) : w.frozen? ⟨b, j, none⟩ = false := by
  simp [World.frozen?, hb]
theorem lt_heap {w : World} {b : Nat} {o : Obj} (hb : w.heap[b]? = some o) : b < w.heap.size := (Array.getElem?_eq_some_iff.1 hb).1
/-- a block of the call's beginning, read behind the call -/
theorem heap_below {B : Nat} {w w' : World} {b : Nat} {o : Obj} (h : Below B w w') (hb : b < B) (k : w.heap[b]? = some o) : w'.heap[b]? = some o := (h.block b hb).trans k
theorem heap_alloc_lt {w : World} {b : Nat} {o o' : Obj} (k : w.heap[b]? = some o) : (w.alloc o').heap[b]? = some o := (Below.heap_alloc w o' b (lt_heap k)).trans k
theorem grown_refl (w : World) (r : Option Nat) : w.grownBy w r := ⟨rfl, rfl, rfl, Nat.le_refl _, fun _ _ _ => rfl⟩
theorem grown_trans {w w' w'' : World} {r : Option Nat} (h : w.grownBy w' r) (k : w'.grownBy w'' r) : w.grownBy w'' r :=
  ⟨k.os.trans h.os, k.tape.trans h.tape, k.output.trans h.output, Nat.le_trans h.size k.size, fun b hb hr => (k.block b (Nat.lt_of_lt_of_le hb h.size) hr).trans (h.block b hb hr)⟩
theorem grown_of_below {w w' : World} (h : Below w.heap.size w w') (r : Option Nat) : w.grownBy w' r := ⟨h.os, h.tape, h.output, h.size, fun b hb _ => h.block b hb⟩
theorem grown_set {w w' : World} {r : Option Nat} (h : w.grownBy w' r) {b : Nat} (hb : w.heap.size ≤ b ∨ r = some b) (o : Nat) (v : Value) : w.grownBy (w'.setCell ⟨b, o, none⟩ v) r :=
  ⟨h.os, h.tape, h.output, by simpa [World.setCell] using h.size, fun k hk hr => (heap_set_ne (by rcases hb with hb | hb; omega; (intro e; subst e; exact hr hb.symm))).trans (h.block k hk hr)⟩
theorem grown_drewN {w w' : World} {r : Option Nat} (h : w.grownBy w' r) (n : Nat) : w.grownBy (w'.drewN n) r := ⟨h.os, h.tape, h.output, h.size, h.block⟩
theorem grown_alloc {w w' : World} {r : Option Nat} (h : w.grownBy w' r) (o : Obj) : w.grownBy (w'.alloc o) r :=
  ⟨h.os, h.tape, h.output, Nat.le_trans h.size (by simp), fun k hk hr => (Below.heap_alloc _ _ _ (Nat.lt_of_lt_of_le hk h.size)).trans (h.block k hk hr)⟩
theorem belowDN {B : Nat} {w w' : World} (h : Below B w w') (n : Nat) : Below B w (w'.drewN n) := ⟨h.os, h.tape, h.output, h.size, h.block⟩
end Go.Proofs.YtcpkhaebcmgehaaGreatDoor
/- Rows of bytes of the call's own, and texts. -/
namespace Go.Proofs.YtcpkhaebcmgehaaGreatDoor
open Go.RowKit
set_option linter.unusedVariables false

/-- a row of bytes as a text -/
theorem conv_own {P : Program} {w : World} {src dst e : TypeId} {B n : Nat} {v : Value} {l : List UInt8} (hs : P.underlying src = some (.slice e)) (he : P.underlying e = some (.int .u8)) (hd : P.underlying dst = some .string)
    (h : w.ownsRow B e 1 v n (Lib.byteCells l)) : (convert src dst v).run P w = .ok (.string ⟨l.toArray⟩) w := by
  obtain ⟨hl, h⟩ := h
  rcases h with ⟨rfl, rfl⟩ | ⟨g, cap, cur, rfl, _, hg, hn, _, hc, hx⟩
  · rw [run_convert_bytes_string w src dst e _ _ _ hs he hd]
    have : l = [] := by simpa [Lib.byteCells] using hl
    subst this
    rfl
  · rw [run_convert_bytes_string w src dst e _ _ _ hs he hd]
    have hb : Lib.byteCells l = (l.map fun b => (b.toNat : Int)).map (Value.int .u8) := by simp [Lib.byteCells]
    have hld : (loadCells ⟨g, 0, none⟩ n).run P w = .ok ((l.map fun b => (b.toNat : Int)).map (Value.int .u8)).toArray w := by
      have := run_loadCells_list (P := P) w ⟨g, 0, none⟩ (Lib.byteCells l) (fun j v hv => by
        rw [Addr.add_mid, Nat.zero_add, cell_heap hg]
        rw [← hx, List.getElem?_take] at hv
        split at hv
        · simpa using hv
        · cases hv)
      rw [hl, Nat.mul_one, hb] at this
      exact this
    rw [run_bytesToString w _ n cap _ hld]
    congr 2
    have : ∀ (l : List UInt8) (s : ByteArray), ((l.map fun b => (b.toNat : Int)).foldl (fun r n => r.push (UInt8.ofNat n.toNat)) s) = ⟨(s.data.toList ++ l).toArray⟩ := by
      intro l
      induction l with
      | nil => intro s; simp
      | cons x l ih => intro s; simp only [List.map_cons, List.foldl_cons]; rw [ih]; simp [ByteArray.push]
    rw [this]
    simp
/-- bytes behind a row of bytes -/
theorem append_bytes {P : Program} {ops : Array Oper} {rest : List Oper} {o : Oper} {a : Act} {Q : Exit → Act → World → Prop} {wr w0 : World} (hgd : o.guard = none) (s x : Operand) (t : TypeId)
    (ho : o.op = .call { callee := .builtin .append, args := #[s, x], argTypes := #[t, t] }) (B : Nat) (e : TypeId) (ht : P.underlying t = some (.slice e))
    (hi : (P.info? e).map (fun i => (i.zero, i.size, i.bytes)) = some (some (.int .u8 0), 1, 1))
    (v : Value) (n : Nat) (old : List UInt8) (hs : a.eval s = v) (hown : wr.ownsRow B e 1 v n (Lib.byteCells old))
    (cs : Array Value) (new : List UInt8) (hcs : cs = (Lib.byteCells new).toArray) (m : Nat) (hx : a.eval x = .slice (some ⟨wr.heap.size, 0, none⟩) m m) (hm : new.length = m) (hn : n + m ≤ 140737488355328)
    (hB : B ≤ wr.heap.size) (hb : Below B w0 wr)
    (h : ∀ v' w', w'.ownsRow B e 1 v' (n + m) (Lib.byteCells (old ++ new)) → Below B w0 w' → (∀ k, k < wr.heap.size → some k ≠ v.ownBlock → w'.heap[k]? = wr.heap[k]?) → wpList P ops Q rest (a.put o.dst v') w') :
    wpList P ops Q (o :: rest) a (wr.alloc (.cells cs e)) := by
  obtain ⟨i0, hi0, hz0, hz1, hz2⟩ := info_parts hi
  subst hcs
  refine wpList_append_own _ hgd s x t ho B e i0 (.int .u8 0) 1 1 ht hi0 hz0 hz1 hz2 rfl (by decide) v n (Lib.byteCells old) hs (hown.alloc _) ⟨wr.heap.size, 0, none⟩ m m (Lib.byteCells new) hx (by simp [Lib.byteCells, hm]) ?_ ?_ ?_ ?_ ?_ ?_
  · intro j u hu
    rw [Addr.add_mid, Nat.zero_add, cell_heap (heap_alloc_new wr _)]
    simpa using hu
  · intro u hu; simp [Lib.byteCells] at hu; obtain ⟨b, _, rfl⟩ := hu; rfl
  · unfold maxLen; omega
  · omega
  · simp; omega
  · intro v' w' h1 h2 _
    refine h v' w' (by rw [Lib.byteCells, List.map_append]; exact h1) ?_ ?_
    · exact (hb.alloc hB _).grown h2 (by simp; omega) (fun k hk => (hown.lt k hk).1)
    · intro k hk hne
      rw [h2.block k (by simp; omega) hne, Below.heap_alloc _ _ _ hk]
/-- what is owned and has an element is a slice at a block's head -/
theorem own_slice {w : World} {B : Nat} {e : TypeId} {v : Value} {n size : Nat} {xs : List Value} (h : w.ownsRow B e size v (n + 1) xs) : ∃ g cap, v = .slice (some ⟨g, 0, none⟩) (n + 1) cap := by
  rcases h.2 with ⟨_, h0⟩ | ⟨g, cap, cur, hv, _⟩
  · omega
  · exact ⟨g, cap, hv⟩
/-- a cell of an array's value, its elements of one cell -/
theorem run_index_arr {P : Program} {w : World} {xt e : TypeId} {n j : Nat} {cs : Array Value} {v : Value} {k : IntKind} (hu : P.underlying xt = some (.array n e)) (ha : (isAgg e).run P w = .ok false w) (hs : (sizeOf e).run P w = .ok 1 w)
    (hj : j < n) (hv : cs[j]? = some v) : (Instr.index xt (.agg cs) (.int k j)).run P w = .ok v w := by
  have h1 : (0 : Int) ≤ j ∧ (j : Int) < n := by omega
  unfold Instr.index part
  simp only [asIntOf, Sem.run_bind, Sem.run_pure, Result.andThen_ok, run_underlying hu, if_pos h1, hs, ha]
  simp [hv]
/-- cells of a block behind a row of the call's own, elements of one cell -/
theorem append_from {P : Program} {ops : Array Oper} {rest : List Oper} {o : Oper} {a : Act} {Q : Exit → Act → World → Prop} {w w0 : World} (hgd : o.guard = none) (s x : Operand) (t : TypeId)
    (ho : o.op = .call { callee := .builtin .append, args := #[s, x], argTypes := #[t, t] }) (B : Nat) (e : TypeId) (z : Value) (by_ : Nat) (ht : P.underlying t = some (.slice e))
    (hi : (P.info? e).map (fun i => (i.zero, i.size, i.bytes)) = some (some z, 1, by_)) (hz : z.cells.size = 1)
    (v : Value) (n : Nat) (xs : List Value) (hs : a.eval s = v) (hown : w.ownsRow B e 1 v n xs)
    (gs m c : Nat) (hx : a.eval x = .slice (some ⟨gs, 0, none⟩) m c) (cs : Array Value) (te : TypeId) (fr : Nat × Nat) (hgs : w.heap[gs]? = some (.cells cs te fr)) (news : List Value) (hnews : ∀ (j : Nat) (u : Value), news[j]? = some u → cs[j]? = some u) (hm : news.length = m)
    (h1 : ∀ u ∈ news, u.oneCell' = true) (hn : n + m ≤ 1000000) (hby : by_ ≤ 1000) (hB : B ≤ w.heap.size) (hb : Below B w0 w)
    (h : ∀ v' w', w'.ownsRow B e 1 v' (n + m) (xs ++ news) → Below B w0 w' → (∀ k, k < w.heap.size → some k ≠ v.ownBlock → w'.heap[k]? = w.heap[k]?) → wpList P ops Q rest (a.put o.dst v') w') :
    wpList P ops Q (o :: rest) a w := by
  obtain ⟨i0, hi0, hz0, hz1, hz2⟩ := info_parts hi
  have hmul : (n + m) * by_ ≤ 1000000 * 1000 := Nat.mul_le_mul hn hby
  refine wpList_append_own _ hgd s x t ho B e i0 z 1 by_ ht hi0 hz0 hz1 hz2 hz (by decide) v n xs hs hown ⟨gs, 0, none⟩ m c news hx (by omega) ?_ h1 ?_ (by omega) hB ?_
  · intro j u hu
    rw [Addr.add_mid, Nat.zero_add, cell_heap hgs]
    exact hnews j u hu
  · unfold maxLen; omega
  · intro v' w' k1 k2 _
    exact h v' w' k1 (hb.grown k2 hB (fun k hk => (hown.lt k hk).1)) (fun k hk hne => k2.block k hk hne)
/-- an owned row, its block written out -/
theorem own_block {w : World} {B : Nat} {e : TypeId} {v : Value} {n : Nat} {xs : List Value} (hn : 0 < n) (h : w.ownsRow B e 1 v n xs) :
    ∃ g cap T, v = .slice (some ⟨g, 0, none⟩) n cap ∧ B ≤ g ∧ w.heap[g]? = some (.cells (xs ++ T).toArray e (0, 0)) := by
  rcases h.2 with ⟨_, h0⟩ | ⟨g, cap, cur, hv, hg, hc, _, _, _, hx⟩
  · omega
  · refine ⟨g, cap, cur.toList.drop (n * 1), hv, hg, ?_⟩
    rw [hc, ← hx, List.take_append_drop]
theorem ownsDN {w : World} {B : Nat} {e : TypeId} {size : Nat} {v : Value} {n : Nat} {xs : List Value} (h : w.ownsRow B e size v n xs) (m : Nat) : (w.drewN m).ownsRow B e size v n xs := h
end Go.Proofs.YtcpkhaebcmgehaaGreatDoor
/- Contracts of strings.Builder's writing methods at a builder of the call's own (turned from the shelf's own proofs to this dump). -/
namespace Go.Proofs.YtcpkhaebcmgehaaGreatDoor
open Go.RowKit
set_option linter.unusedVariables false
set_option maxRecDepth 100000

theorem sizeBuilder : (Tryz.prog.info? 113).map (·.size) = some 2 := by kernel_rfl
theorem liesBuilder : liesAt Tryz.prog Tryz.prog.depth 113 (2 / Tryz.prog.cellsOf 113) 0 113 1 = true := by kernel_rfl

set_option maxHeartbeats 1000000 in
theorem copyCheck_used (b : Nat) (w : World) (h0 : w.cell? ⟨b, 0, none⟩ = some (.pointer (some ⟨b, 0, none⟩))) :
    Calls Tryz.prog 126 #[.pointer (some ⟨b, 0, none⟩)] w fun e w' => e = .returned (.tuple #[]) ∧ w' = w := by
  obtain ⟨j, hj, _⟩ := Option.map_eq_some_iff.1 sizeBuilder
  go_enter Tryz.func126, Tryz.ntmps126
  go_wp2
  rw [Lib.run_neq_ptr_same w _ Tryz.underlying111 hj]
  go_wp2
  go_end0
  exact ⟨rfl, rfl⟩

set_option maxHeartbeats 1000000 in
theorem copyCheck_fresh (b : Nat) (w : World) (h0 : w.cell? ⟨b, 0, none⟩ = some (.pointer none)) (hsh : w.shape? b = some (113, 2)) (hfz : w.frozen? ⟨b, 0, none⟩ = false) :
    Calls Tryz.prog 126 #[.pointer (some ⟨b, 0, none⟩)] w fun e w' => e = .returned (.tuple #[]) ∧ w' = w.setCell ⟨b, 0, none⟩ (.pointer (some ⟨b, 0, none⟩)) := by
  obtain ⟨j, hj, hjs⟩ := Option.map_eq_some_iff.1 sizeBuilder
  go_enter Tryz.func126, Tryz.ntmps126
  go_wp2
  rw [Lib.run_to_unsafe w ⟨b, 0, none⟩ Tryz.underlying111 Tryz.underlying197 hj (by rw [hjs]; decide) hsh (Nat.zero_lt_succ 1)]
  simp only [Result.andThen]
  rw [Oper.upon_value]
  go_wp2
  rw [run_callFunc_extern Tryz.func158 (by kernel_rfl) (by kernel_rfl) (by kernel_rfl) (e := Extern.AbiNoEscape.same) (by kernel_rfl)]
  rw [Lib.run_noEscape]
  simp only [Result.andThen]
  rw [Oper.upon_value]
  go_wp2
  rw [Lib.run_from_unsafe w ⟨b, 0, none⟩ Tryz.underlying197 Tryz.underlying111 hj hsh liesBuilder]
  simp only [Result.andThen]
  rw [Oper.upon_value]
  go_wp2
  go_end0
  exact ⟨rfl, rfl⟩

/-- A builder of the call's own, from block B on. -/
abbrev SbAt (B b : Nat) (l : List UInt8) (w : World) : Prop := Lib.IsBuilder 113 5 B b (Lib.byteCells l) w

theorem copyCheck_any (B b : Nat) (bs : List Value) (w : World) (h : Lib.IsBuilder 113 5 B b bs w) :
    Calls Tryz.prog 126 #[.pointer (some ⟨b, 0, none⟩)] w fun e w' => e = .returned (.tuple #[]) ∧ (Lib.BuilderAt 113 5 B b (.pointer (some ⟨b, 0, none⟩)) bs w' ∧ Below B w w') := by
  rcases h with h | h
  · refine (copyCheck_fresh b w h.cell0 h.shape h.frozen0).mono ?_
    rintro e w' ⟨rfl, rfl⟩
    exact ⟨rfl, h.used _, (Below.refl B w).setCell (p := ⟨b, 0, none⟩) h.1 _⟩
  · refine (copyCheck_used b w h.cell0).mono ?_
    rintro e w' ⟨rfl, rfl⟩
    exact ⟨rfl, h, Below.refl B _⟩

end Go.Proofs.YtcpkhaebcmgehaaGreatDoor
/- The contract of strings.Builder's WriteString at a builder of the call's own (turned from the shelf's own proofs to this dump). -/
namespace Go.Proofs.YtcpkhaebcmgehaaGreatDoor
open Go.RowKit
set_option linter.unusedVariables false
set_option maxRecDepth 100000
/-- a text's bytes behind a row of bytes -/
theorem append_text {P : Program} {ops : Array Oper} {rest : List Oper} {o : Oper} {a : Act} {Q : Exit → Act → World → Prop} {wr w0 : World} (hgd : o.guard = none) (s x : Operand) (t u : TypeId)
    (ho : o.op = .call { callee := .builtin .append, args := #[s, x], argTypes := #[t, u] }) (B : Nat) (e : TypeId) (ht : P.underlying t = some (.slice e)) (hu : P.underlying u = some .string)
    (hi : (P.info? e).map (fun i => (i.zero, i.size, i.bytes)) = some (some (.int .u8 0), 1, 1))
    (v : Value) (n : Nat) (old : List UInt8) (hs : a.eval s = v) (hown : wr.ownsRow B e 1 v n (Lib.byteCells old))
    (S : ByteArray) (hx : a.eval x = .string S) (hn : n + S.size ≤ 140737488355328)
    (hB : B ≤ wr.heap.size) (hb : Below B w0 wr)
    (h : ∀ v' w', w'.ownsRow B e 1 v' (n + S.size) (Lib.byteCells (old ++ S.data.toList)) → Below B w0 w' → (∀ k, k < wr.heap.size → some k ≠ v.ownBlock → w'.heap[k]? = wr.heap[k]?) → wpList P ops Q rest (a.put o.dst v') w') :
    wpList P ops Q (o :: rest) a wr := by
  obtain ⟨i0, hi0, hz0, hz1, hz2⟩ := info_parts hi
  refine Lib.wpList_append_own_string _ hgd s x t u ho B e i0 ht hu hi0 hz0 hz1 hz2 v n (Lib.byteCells old) hs hown S hx (by unfold maxLen; omega) hn hB ?_
  intro v' w' h1 h2 _
  refine h v' w' (by rw [Lib.byteCells, List.map_append]; exact h1) (hb.grown h2 hB (fun k hk => (hown.lt k hk).1)) (fun k hk hne => h2.block k hk hne)

theorem own_form {w : World} {B : Nat} {e : TypeId} {v : Value} {n size : Nat} {xs : List Value} (h : w.ownsRow B e size v n xs) : ∃ p m c, v = .slice p m c := by
  rcases h.2 with ⟨h0, _⟩ | ⟨g, cap, cur, hv, _⟩
  · exact ⟨_, _, _, h0⟩
  · exact ⟨_, _, _, hv⟩
set_option maxHeartbeats 2000000 in
theorem WriteString_any (B b : Nat) (l : List UInt8) (S : ByteArray) (w : World) (h : SbAt B b l w) (hlen : l.length + S.size ≤ 140737488355328) (hBw : B ≤ w.heap.size) :
    Calls Tryz.prog 76 #[.pointer (some ⟨b, 0, none⟩), .string S] w fun e w' => e = .returned (.tuple #[.int .i64 S.size, .nilIface]) ∧ SbAt B b (l ++ S.data.toList) w' ∧ Below B w w' := by
  have hS : (S.size : Int) ≤ 140737488355328 := by omega
  go_enter Tryz.func76, Tryz.ntmps76
  go_upto_region 2 with (go_at_call 126; ((with_reducible refine (copyCheck_any B b _ _ h).mono ?_); rintro e w1 ⟨rfl, h1, hb1⟩))
  obtain ⟨hB, v, hbk, hown, hne⟩ := h1
  rw [show (Lib.byteCells l).length = l.length by simp [Lib.byteCells]] at hown
  have c0 : w1.cell? ⟨b, 0, none⟩ = some (.pointer (some ⟨b, 0, none⟩)) := by rw [Lib.cell_of_heap hbk]; rfl
  have c1 : w1.cell? ⟨b, 1, none⟩ = some v := by rw [Lib.cell_of_heap hbk]; rfl
  have hs1 : B ≤ w1.heap.size := Nat.le_trans hBw hb1.size
  have hlt : b < w1.heap.size := lt_heap hbk
  go_wp2_with (at_builtin; refine append_text rfl (.tmp 12) (.tmp 13) 80 9 rfl B 5 Tryz.underlying80 Tryz.underlying9 (by kernel_rfl) v l.length l rfl hown S rfl hlen hs1 hb1 ?_; intro v' w2 hown2 hb2 hoth; have hbk2 := (hoth b hlt (fun e => hne e.symm)).trans hbk; have d1 : w2.cell? ⟨b, 1, none⟩ = some v := (cell_heap hbk2 1).trans rfl; have f1 : w2.frozen? ⟨b, 1, none⟩ = false := frozen_heap hbk2 1; obtain ⟨p, m, c, rfl⟩ := own_form hown2)
  go_ret2
  refine ⟨rfl, Or.inr ?_, ?_⟩
  · refine Lib.BuilderAt.put hB hbk2 ?_ (by decide)
    rw [show (Lib.byteCells (l ++ S.data.toList)).length = l.length + S.size by simp [Lib.byteCells]]
    exact hown2
  · exact hb2.setCell (p := ⟨b, 1, none⟩) hB _
end Go.Proofs.YtcpkhaebcmgehaaGreatDoor
/- Packed texts, in plain Lean: no program in sight. -/
namespace Go.Proofs.YtcpkhaebcmgehaaGreatDoor.Pk
open Go
/-- a text, packed -/
def text (s : List UInt8) : List UInt8 := Lib.decDigits s.length ++ 58 :: (s ++ [44])
/-- texts, packed together -/
def list (l : List (List UInt8)) : List UInt8 := text (l.flatMap text)
def isDig (c : UInt8) : Bool := decide (48 ≤ c.toNat) && decide (c.toNat ≤ 57)
/-- how many digits stand ahead, up to seven -/
def kd (s : List UInt8) : Nat := ((s.take 7).takeWhile isDig).length
def dval (l : List UInt8) : Nat := l.foldl (fun n c => 10 * n + (c.toNat - 48)) 0
inductive Nx where
  | bad (e : Nat)
  | ok (t r : List UInt8)
/-- how long the next text is, and what is behind that -/
def len (s : List UInt8) : Nat ⊕ (Nat × List UInt8) :=
  let k := kd s
  if k = s.length then .inl 10
  else if s.getD k 0 ≠ 58 ∨ k = 0 ∨ (1 < k ∧ s.getD 0 0 = 48) then .inl 11
  else .inr (dval (s.take k), s.drop (k + 1))
/-- the text that bytes begin with -/
def nxt (s : List UInt8) : Nx :=
  match len s with
  | .inl e => .bad e
  | .inr (n, r) => if r.length ≤ n then .bad 10 else if r.getD n 0 ≠ 44 then .bad 11 else .ok (r.take n) (r.drop (n + 1))
theorem nxt_lt {s t r : List UInt8} (h : nxt s = .ok t r) : r.length < s.length := by
  unfold nxt len at h
  simp only at h
  split at h
  · cases h
  · rename_i n r' h'
    split at h'
    · cases h'
    · split at h'
      · cases h'
      · injection h' with h'
        injection h' with h1 h2
        split at h
        · cases h
        · split at h
          · cases h
          · injection h with h3 h4
            subst h4 h2
            rename_i hk _ _ _
            have : kd s ≤ s.length := by
              have := (List.takeWhile_prefix (p := isDig) (l := s.take 7)).length_le
              unfold kd
              simp at this ⊢
              omega
            simp
            omega
/-- the texts of a list -/
def lst (s : List UInt8) : Option (List (List UInt8)) :=
  if s = [] then some [] else
  match _h : nxt s with
  | .bad _ => none
  | .ok t r => (lst r).map (t :: ·)
termination_by s.length
decreasing_by exact nxt_lt _h
/-- a reader: what is left, and what was wrong -/
structure Rd where
  rest : List UInt8
  bad : Nat
def Rd.text (r : Rd) : List UInt8 × Rd :=
  if r.bad ≠ 0 then ([], r) else
  match nxt r.rest with
  | .bad e => ([], ⟨r.rest, e⟩)
  | .ok t q => (t, ⟨q, 0⟩)
def Rd.list (r : Rd) : List (List UInt8) × Rd :=
  match lst r.text.1 with
  | none => ([], ⟨r.text.2.rest, 11⟩)
  | some l => (l, r.text.2)
def Rd.fin (r : Rd) : Nat := if r.bad = 0 ∧ r.rest ≠ [] then 12 else r.bad
/-- things that a list of texts is -/
def each {α : Type} (takes : Rd → α × Rd) : List (List UInt8) → Option (List α)
  | [] => some []
  | s :: l => if (takes ⟨s, 0⟩).2.fin ≠ 0 then none else (each takes l).map ((takes ⟨s, 0⟩).1 :: ·)
def all {α : Type} (takes : Rd → α × Rd) (data : List UInt8) : List α × Nat :=
  let (l, r) := Rd.list ⟨data, 0⟩
  if r.fin ≠ 0 then ([], r.fin) else
  match each takes l with
  | none => ([], 11)
  | some a => (a, 0)

theorem text_nil : text [] = [48, 58, 44] := by unfold text; rw [Lib.decDigits]; rfl
theorem list_nil : list [] = [48, 58, 44] := by unfold list; exact text_nil
end Go.Proofs.YtcpkhaebcmgehaaGreatDoor.Pk
/- The contracts of pack.Text, and of the reference's digits and Text. -/
namespace Go.Proofs.YtcpkhaebcmgehaaGreatDoor
open Go.RowKit
set_option linter.unusedVariables false
set_option maxRecDepth 100000

theorem ret_str {a b : ByteArray} (h : a = b) : Ending.returned (.string a) = .returned (.string b) := by rw [h]
theorem undrawn {B : Nat} {w w' : World} (h : Below B w.drew w') : Below B w w' := ⟨h.os, h.tape, h.output, h.size, h.block⟩
theorem below_behind {w w' : World} {o : Obj} (h : Below (w.alloc o).drew.heap.size (w.alloc o).drew w') : Below w.heap.size w w' :=
  (((Below.refl w.heap.size w).alloc (Nat.le_refl _) o).drew).trans (h.mono (by simp))
/-- bytes as a text -/
def bs (l : List UInt8) : ByteArray := ⟨l.toArray⟩
theorem bs_list (l : List UInt8) : (bs l).data.toList = l := rfl
theorem bs_of (s : ByteArray) : bs s.data.toList = s := rfl
theorem bs_size (l : List UInt8) : (bs l).size = l.length := by rw [Lib.size_eq]; rfl
theorem bs_append (a b : List UInt8) : bs a ++ bs b = bs (a ++ b) := by
  have : (bs a ++ bs b).data = (bs (a ++ b)).data := by rw [ByteArray.data_append]; simp [bs]
  exact congrArg ByteArray.mk this
/-- the library's table of powers lies as its text lays it -/
def Tab (w : World) : Prop := Lib.TabIs Tryz.prog w "internal/strconv.uint64pow10" .u64 Lib.pow10Tab
theorem Tab.on {w w' : World} (h : Tab w) (hb : Below w.heap.size w w') : Tab w' := Lib.tabBelow_of_tabIs h w' hb
theorem Tab.draw {w : World} (h : Tab w) : Tab w.drew := h
theorem itoa_nat (n : Nat) : Lib.itoa (n : Int) = Lib.decDigits n := by
  unfold Lib.itoa
  rw [if_neg (by omega)]
  rfl
theorem nDigits_le {n : Nat} (h : n < 10 ^ 19) : Lib.nDigits n ≤ 19 := by
  rcases Nat.lt_or_ge 19 (Lib.nDigits n) with h2 | h2
  · exfalso
    have key : ∀ k n, n < 10 ^ (k + 1) → Lib.nDigits n ≤ k + 1 := by
      intro k
      induction k with
      | zero => intro n hn; rw [Lib.nDigits_small (by simpa using hn)]; exact Nat.le_refl _
      | succ k ih =>
        intro n hn
        by_cases h10 : n < 10
        · rw [Lib.nDigits_small h10]; omega
        · rw [Lib.nDigits_big h10]
          have := ih (n / 10) (by rw [Nat.pow_succ] at hn; omega)
          omega
    have := key 18 n h
    omega
  · exact h2
theorem dec_len {n : Nat} (h : n < 10 ^ 19) : (Lib.decDigits n).length ≤ 19 := by rw [Lib.decDigits_length]; exact nDigits_le h
theorem itoa_any (n : Nat) (hn : n ≤ 9223372036854775807) (w : World) (ht : Tab w) :
    Calls Tryz.prog 74 #[.int .i64 n] w fun e w' => e = .returned (.string (bs (Lib.decDigits n))) ∧ Below w.heap.size w w' :=
  (Tryz.strconv_Itoa n (by omega) (by omega) w ht).mono fun e w' ⟨he, k, os, hw⟩ => ⟨by rw [he, itoa_nat]; rfl, by rw [hw]; exact Lib.below_grow _ _ (Nat.le_refl _) _ _⟩

theorem text_eq (s : ByteArray) : bs (Lib.decDigits s.size) ++ ⟨#[58]⟩ ++ s ++ ⟨#[44]⟩ = bs (Pk.text s.data.toList) := by
  have h1 : (⟨#[58]⟩ : ByteArray) = bs [58] := rfl
  have h2 : (⟨#[44]⟩ : ByteArray) = bs [44] := rfl
  rw [h1, h2]
  conv => lhs; rw [← bs_of s]
  rw [bs_append, bs_append, bs_append, Pk.text, bs_of, Lib.size_eq]
  simp
/-- pack.Text -/
theorem text_any (s : ByteArray) (hs : s.size ≤ 1000000000) (w : World) (ht : Tab w) :
    Calls Tryz.prog 34 #[.string s] w fun e w' => e = .returned (.string (bs (Pk.text s.data.toList))) ∧ Below w.heap.size w w' := by
  have TE := Lib.hid (text_eq s)
  have hd := dec_len (n := s.size) (by omega)
  obtain ⟨D, eD⟩ : ∃ D, D = bs (Lib.decDigits s.size) := ⟨_, rfl⟩
  have hD : D.size ≤ 19 := by rw [eD, bs_size]; exact hd
  have IT : Hid (Calls Tryz.prog 74 #[.int .i64 s.size] w fun e w' => e = .returned (.string D) ∧ Below w.heap.size w w') := Lib.hid (by rw [eD]; exact itoa_any s.size (by omega) w ht)
  rw [← eD] at TE
  clear eD hd
  have c1 : D.size + 1 ≤ 9223372036854775807 := by omega
  have c2 : D.size + 1 + s.size ≤ 9223372036854775807 := by omega
  have c3 : D.size + 1 + s.size + 1 ≤ 9223372036854775807 := by omega
  go_enter Tryz.func34, Tryz.ntmps34
  go_wp2_with (go_at_call 74; ((with_reducible refine (IT.out).mono ?_); rintro e w1 ⟨rfl, hb1⟩))
  go_ret
  exact ⟨ret_str TE.out, hb1⟩

/-- the reference's digits of a number that is not below 0 -/
theorem conv_byte (C : UInt8) (w : World) : (convert 80 9 (.slice (some ⟨w.heap.size, 0, none⟩) 1 1)).run Tryz.prog (w.alloc (.cells #[.int .u8 C.toNat] 5)) = .ok (.string (bs [C])) (w.alloc (.cells #[.int .u8 C.toNat] 5)) :=
  conv_own (B := 0) (n := 1) (l := [C]) Tryz.underlying80 Tryz.underlying5 Tryz.underlying9
    ⟨rfl, .inr ⟨w.heap.size, 1, #[.int .u8 C.toNat], rfl, Nat.zero_le _, heap_alloc_new w _, Nat.le_refl _, by unfold maxLen; decide, rfl, rfl⟩⟩
theorem conv_byte_at (C : UInt8) (w : World) (b : Nat) (h : w.heap[b]? = some (.cells #[.int .u8 C.toNat] 5 (0, 0))) : (convert 80 9 (.slice (some ⟨b, 0, none⟩) 1 1)).run Tryz.prog w = .ok (.string (bs [C])) w :=
  conv_own (B := 0) (n := 1) (l := [C]) Tryz.underlying80 Tryz.underlying5 Tryz.underlying9
    ⟨rfl, .inr ⟨b, 1, #[.int .u8 C.toNat], rfl, Nat.zero_le _, h, Nat.le_refl _, by unfold maxLen; decide, rfl, rfl⟩⟩
theorem digits_any : ∀ (n : Nat), n ≤ 9223372036854775807 → ∀ (w : World),
    Calls Tryz.prog 80 #[.int .i64 n] w fun e w' => e = .returned (.string (bs (Lib.decDigits n))) ∧ Below w.heap.size w w' := by
  intro n
  induction n using Nat.strongRecOn with
  | _ n ih =>
    intro hn w
    by_cases h : n < 10
    · have i0 : (n : Int) < 10 := by omega
      have i1 : (0 : Int) ≤ (n : Int) := by omega
      have d1 : decide ((n : Int) < 10) = true := decide_eq_true i0
      obtain ⟨C, eC⟩ : ∃ C : UInt8, C = UInt8.ofNat (48 + n) := ⟨_, rfl⟩
      have hC : (C.toNat : Int) = 48 + n := by rw [eC, UInt8.toNat_ofNat_of_lt' (by show 48 + n < 256; omega)]; omega
      have hcv := conv_byte C w
      rw [hC] at hcv
      have HD : Hid (bs [C] = bs (Lib.decDigits n)) := Lib.hid (by rw [Lib.decDigits, dif_pos h, eC])
      clear eC hC
      have d2 : decide ((0 : Int) ≤ (n : Int)) = true := decide_eq_true i1
      go_enter Tryz.func80, Tryz.ntmps80
      go_wp2_with (fail)
      go_ret
      exact ⟨ret_str HD.out, (Below.refl _ _).alloc (Nat.le_refl _) _⟩
    · have i0 : ¬ (n : Int) < 10 := by omega
      have i1 : (0 : Int) ≤ (n : Int) := by omega
      have d1 : decide ((n : Int) < 10) = false := decide_eq_false i0
      have d2 : decide ((0 : Int) ≤ (n : Int)) = true := decide_eq_true i1
      have i2 : ¬ (n : Int) < 0 := by omega
      have IH := ih (n / 10) (by omega) (by omega)
      have hd := dec_len (n := n / 10) (by omega)
      obtain ⟨D, eD⟩ : ∃ D, D = bs (Lib.decDigits (n / 10)) := ⟨_, rfl⟩
      have hD : D.size ≤ 19 := by rw [eD, bs_size]; exact hd
      rw [← eD] at IH
      have IHH := Lib.hid IH
      obtain ⟨q, eq⟩ : ∃ q, q = n / 10 := ⟨_, rfl⟩
      obtain ⟨r, er⟩ : ∃ r, r = n % 10 := ⟨_, rfl⟩
      obtain ⟨C, eC⟩ : ∃ C : UInt8, C = UInt8.ofNat (48 + r) := ⟨_, rfl⟩
      have hC : (C.toNat : Int) = 48 + r := by rw [eC, UInt8.toNat_ofNat_of_lt' (by show 48 + r < 256; omega)]; omega
      have hcv := conv_byte C
      have HD : Hid (D ++ bs [C] = bs (Lib.decDigits n)) := Lib.hid (by rw [eD, bs_append]; conv => rhs; rw [Lib.decDigits, dif_neg h, ← er, ← eC])
      have r1 : (n : Int).tdiv 10 = (q : Int) := by rw [Int.tdiv_eq_ediv_of_nonneg (by omega)]; omega
      have r1' : (n : Int) / 10 = (q : Int) := by omega
      have r2 : (n : Int).tmod 10 = (r : Int) := by rw [Int.tmod_eq_emod_of_nonneg (by omega)]; omega
      have r2' : (n : Int) % 10 = (r : Int) := by omega
      have hr : (r : Int) < 10 := by omega
      have r3 : IntKind.i64.wrap (48 + (r : Int)) = (C.toNat : Int) := by rw [IntWalk.i64_in _ (by omega)]; omega
      have r4 : IntKind.u8.wrap (C.toNat : Int) = (C.toNat : Int) := by rw [IntKind.wrap_u8']; omega
      have r5 : (48 + (r : Int)) = (C.toNat : Int) := by omega
      have hl : D.size + (bs [C]).size ≤ 9223372036854775807 := by rw [bs_size]; simp; omega
      rw [← eq] at IHH
      have w1 : IntKind.i64.wrap (q : Int) = (q : Int) := IntWalk.i64_in _ (by omega)
      have w2 : IntKind.i64.wrap (C.toNat : Int) = (C.toNat : Int) := IntWalk.i64_in _ (by omega)
      have hcw := conv_byte_at C
      have hcd : ∀ w : World, (convert 80 9 (.slice (some ⟨w.heap.size, 0, none⟩) 1 1)).run Tryz.prog (w.alloc (.cells #[.int .u8 C.toNat] 5)).drew = .ok (.string (bs [C])) (w.alloc (.cells #[.int .u8 C.toNat] 5)).drew := fun w => conv_byte_at C _ _ (heap_alloc_new w _)
      clear eC hC eD hd eq er IH ih
      go_enter Tryz.func80, Tryz.ntmps80
      go_wp2_with (fail)
      go_region_with (go_at_call 80; ((with_reducible refine (IHH.out _).mono ?_); rintro e w1 ⟨rfl, hb1⟩); try (have hbk1 := heap_below hb1 (by simp) (heap_alloc_new _ _)))
      all_goals
        go_wp2
        go_ret
        refine ⟨ret_str HD.out, ?_⟩
        first
          | exact undrawn hb1
          | exact (undrawn hb1).alloc hb1.size _
          | exact below_behind hb1

/-- the reference's Text -/
theorem reftext_any (s : ByteArray) (hs : s.size ≤ 1000000000) (w : World) :
    Calls Tryz.prog 39 #[.string s] w fun e w' => e = .returned (.string (bs (Pk.text s.data.toList))) ∧ Below w.heap.size w w' := by
  have TE := Lib.hid (text_eq s)
  have hd := dec_len (n := s.size) (by omega)
  obtain ⟨D, eD⟩ : ∃ D, D = bs (Lib.decDigits s.size) := ⟨_, rfl⟩
  have hD : D.size ≤ 19 := by rw [eD, bs_size]; exact hd
  have IT : Hid (Calls Tryz.prog 80 #[.int .i64 s.size] w fun e w' => e = .returned (.string D) ∧ Below w.heap.size w w') := Lib.hid (by rw [eD]; exact digits_any s.size (by omega) w)
  rw [← eD] at TE
  clear eD hd
  have c1 : D.size + 1 ≤ 9223372036854775807 := by omega
  have c2 : D.size + 1 + s.size ≤ 9223372036854775807 := by omega
  have c3 : D.size + 1 + s.size + 1 ≤ 9223372036854775807 := by omega
  go_enter Tryz.func39, Tryz.ntmps39
  go_wp2_with (go_at_call 80; ((with_reducible refine (IT.out).mono ?_); rintro e w1 ⟨rfl, hb1⟩))
  go_ret
  exact ⟨ret_str TE.out, hb1⟩
end Go.Proofs.YtcpkhaebcmgehaaGreatDoor
/- The contracts of pack.List and of the reference's List. -/
namespace Go.Proofs.YtcpkhaebcmgehaaGreatDoor
open Go.RowKit
set_option linter.unusedVariables false
set_option maxRecDepth 100000

theorem own_later {w w' : World} {B : Nat} {e : TypeId} {size : Nat} {v : Value} {n : Nat} {xs : List Value} (h : w.ownsRow B e size v n xs) (k : Below w.heap.size w w') : w'.ownsRow B e size v n xs := by
  refine ⟨h.1, ?_⟩
  rcases h.2 with h0 | ⟨g, cap, cur, hv, hg, hc, h1, h2, h3, h4⟩
  · exact .inl h0
  · exact .inr ⟨g, cap, cur, hv, hg, heap_below k (lt_heap hc) hc, h1, h2, h3, h4⟩
theorem SbAt.later {w w' : World} {B b : Nat} {l : List UInt8} (h : SbAt B b l w) (k : Below w.heap.size w w') : SbAt B b l w' := by
  rcases h with ⟨hB, v, hb, ho, hn⟩ | ⟨hB, v, hb, ho, hn⟩
  · exact .inl ⟨hB, v, heap_below k (lt_heap hb) hb, own_later ho k, hn⟩
  · exact .inr ⟨hB, v, heap_below k (lt_heap hb) hb, own_later ho k, hn⟩
section
variable {w w' : World} {B B' size n : Nat} {A : Option Addr} {xs : List Value}
theorem Reads.cell (h : Reads w B size A n xs) {j : Nat} (hj : j < n * size) : ∃ ad u, A = some ad ∧ ad.block < B ∧ xs[j]? = some u ∧ w.cell? (ad.add j) = some u := by
  have hn : 0 < n := by
    rcases Nat.eq_zero_or_pos n with h0 | h0
    · subst h0; simp at hj
    · exact h0
  obtain ⟨ad, e, hb, hc⟩ := h.2 hn
  have hl : j < xs.length := by rw [h.1]; exact hj
  exact ⟨ad, xs[j], e, hb, List.getElem?_eq_getElem hl, hc j _ (List.getElem?_eq_getElem hl)⟩
end
/-- texts as a slice reads them -/
def Strs (w : World) (B : Nat) (A : Option Addr) (l : List ByteArray) : Prop := Reads w B 1 A l.length (l.map Value.string)
section
variable {w w' : World} {B B' : Nat} {A : Option Addr} {l : List ByteArray}
theorem Strs.below (h : Strs w B A l) (hb : Below B w w') : Strs w' B A l := Reads.below h hb
theorem Strs.at_ (h : Strs w B A l) {k : Nat} (hk : k < l.length) : ∃ ad, A = some ad ∧ ad.block < B ∧ w.cell? (ad.add k) = some (.string l[k]) := by
  obtain ⟨ad, u, h1, h2, h3, h4⟩ := Reads.cell h (j := k) (by omega)
  refine ⟨ad, h1, h2, ?_⟩
  rw [h4]
  simp [hk] at h3
  rw [← h3]
end
abbrev tl (s : ByteArray) : List UInt8 := s.data.toList
theorem text_len (s : List UInt8) : s.length ≤ (Pk.text s).length := by simp [Pk.text]; omega
theorem flat_take_succ (l : List ByteArray) (k : Nat) (h : k < l.length) : ((l.take (k + 1)).map tl).flatMap Pk.text = ((l.take k).map tl).flatMap Pk.text ++ Pk.text (tl l[k]) := by
  rw [List.take_succ_eq_append_getElem h, List.map_append, List.flatMap_append]; simp
theorem flat_take_le (l : List ByteArray) (k : Nat) (h : k < l.length) : (((l.take k).map tl).flatMap Pk.text).length + (Pk.text (tl l[k])).length ≤ ((l.map tl).flatMap Pk.text).length := by
  have : l = l.take (k + 1) ++ l.drop (k + 1) := (List.take_append_drop _ _).symm
  conv => rhs; rw [this, List.map_append, List.flatMap_append, List.length_append, flat_take_succ l k h, List.length_append]
  omega
theorem bstring_any (B b : Nat) (l : List UInt8) (w : World) (h : SbAt B b l w) (hBw : B ≤ w.heap.size) :
    Calls Tryz.prog 77 #[.pointer (some ⟨b, 0, none⟩)] w fun e w' => e = .returned (.string (bs l)) ∧ Below B w w' := Tryz.Builder_String_any B b l w h hBw
set_option maxHeartbeats 1000000 in
/-- pack.List -/
theorem plist_any (A : Option Addr) (l : List ByteArray) (c : Nat) (w : World) (ht : Tab w) (hr : Strs w w.heap.size A l) (hl : ((l.map tl).flatMap Pk.text).length ≤ 500000000) :
    Calls Tryz.prog 36 #[.slice A l.length c] w fun e w' => e = .returned (.string (bs (Pk.list (l.map tl)))) ∧ Below w.heap.size w w' := by
  have hn : l.length ≤ 500000000 := by
    have : ∀ l : List ByteArray, l.length ≤ ((l.map tl).flatMap Pk.text).length := by
      intro l
      induction l with
      | nil => simp
      | cons x l ih => simp [Pk.text] at ih ⊢; omega
    exact Nat.le_trans (this l) hl
  go_enter Tryz.func36, Tryz.ntmps36
  go_wp2_with (fail)
  go_loopw [8] (fun i wx => ∃ k : Nat, i = .int .i64 k ∧ k ≤ l.length ∧ SbAt w.heap.size w.heap.size (((l.take k).map tl).flatMap Pk.text) wx ∧ Below w.heap.size w wx) (fun i _ => l.length - (intOf i).toNat)
  case atStart => exact ⟨0, rfl, by omega, Lib.fresh_isBuilder _ _ w, (Below.refl _ _).alloc (Nat.le_refl _) _⟩
  case round =>
    obtain ⟨k, rfl, hk, hsb, hbx⟩ := hrel
    rename World => wx
    by_cases hlt : k < l.length
    · have hrx := hr.below hbx
      obtain ⟨ad, rfl, had, hc⟩ := hrx.at_ hlt
      have FT := Lib.hid (flat_take_succ l k hlt)
      have FL := flat_take_le l k hlt
      have TX := text_len (tl l[k])
      have hsz : l[k].size = (tl l[k]).length := Lib.size_eq _
      have TXT := Lib.hid (text_any l[k] (by omega) wx (ht.on hbx))
      generalize l[k] = s at *
      generalize ((l.take k).map tl).flatMap Pk.text = acc at *
      have hz : (bs (Pk.text (tl s))).size = (Pk.text (tl s)).length := bs_size _
      have hbl : acc.length + (bs (Pk.text (tl s))).size ≤ 140737488355328 := by omega
      have HZ := Lib.hid hz
      have HSZ := Lib.hid hsz
      clear hz hsz
      have hkI : (k : Int) < (l.length : Int) := by omega
      go_wp2_with (go_at_call 34; ((with_reducible refine (TXT.out).mono ?_); rintro e w1 ⟨rfl, hb1⟩))
      have hsb1 := hsb.later hb1
      have hbx1 := hbx.trans (hb1.mono hbx.size)
      clear hsb
      go_wp2_with (go_at_call 76; ((with_reducible refine (WriteString_any w.heap.size w.heap.size acc _ _ hsb1 hbl hbx1.size).mono ?_); rintro e w2 ⟨rfl, hsb2, hb2⟩))
      go_roundw
      case rel => exact ⟨k + 1, by go_num, by omega, by rw [FT.out]; exact hsb2, hbx1.trans hb2⟩
      case measure => simp [intOf]; omega
    · obtain rfl : k = l.length := by omega
      rw [List.take_length] at hsb
      have LD : Hid (Pk.text ((l.map tl).flatMap Pk.text) = Pk.list (l.map tl)) := Lib.hid rfl
      generalize (l.map tl).flatMap Pk.text = acc at *
      have hz : (bs acc).size = acc.length := bs_size _
      have TXT : Hid (∀ W, Tab W → Calls Tryz.prog 34 #[.string (bs acc)] W fun e w' => e = .returned (.string (bs (Pk.text acc))) ∧ Below W.heap.size W w') := Lib.hid (fun W hW => text_any (bs acc) (by omega) W hW)
      clear hz
      have hB := hbx.size
      go_wp2_with (go_at_call 77; ((with_reducible refine (bstring_any w.heap.size w.heap.size acc _ hsb hB).mono ?_); rintro e w1 ⟨rfl, hb1⟩))
      have hbx1 := hbx.trans hb1
      have ht1 := ht.on hbx1
      go_wp2_with (go_at_call 34; ((with_reducible refine (TXT.out _ ht1).mono ?_); rintro e w2 ⟨rfl, hb2⟩))
      go_ret
      exact ⟨ret_str (by rw [LD.out]), hbx1.trans (hb2.mono hbx1.size)⟩

set_option maxHeartbeats 1000000 in
/-- the reference's List -/
theorem reflist_any (A : Option Addr) (l : List ByteArray) (c : Nat) (w : World) (hr : Strs w w.heap.size A l) (hl : ((l.map tl).flatMap Pk.text).length ≤ 500000000) :
    Calls Tryz.prog 41 #[.slice A l.length c] w fun e w' => e = .returned (.string (bs (Pk.list (l.map tl)))) ∧ Below w.heap.size w w' := by
  have hn : l.length ≤ 500000000 := by
    have : ∀ l : List ByteArray, l.length ≤ ((l.map tl).flatMap Pk.text).length := by
      intro l
      induction l with
      | nil => simp
      | cons x l ih => simp [Pk.text] at ih ⊢; omega
    exact Nat.le_trans (this l) hl
  go_enter Tryz.func41, Tryz.ntmps41
  go_wp2_with (fail)
  go_loopw [3, 4] (fun v i wx => ∃ k : Nat, i = .int .i64 k ∧ k ≤ l.length ∧ wx.ownsRow w.heap.size 5 1 v (((l.take k).map tl).flatMap Pk.text).length (Lib.byteCells (((l.take k).map tl).flatMap Pk.text)) ∧ Below w.heap.size w wx) (fun _ i _ => l.length - (intOf i).toNat)
  case atStart => exact ⟨0, rfl, by omega, by simpa [Lib.byteCells] using World.ownsRow_nil _ _ _ _, Below.refl _ _⟩
  case round =>
    obtain ⟨k, rfl, hk, hown, hbx⟩ := hrel
    rename World => wx
    by_cases hlt : k < l.length
    · have hrx := hr.below hbx
      obtain ⟨ad, rfl, had, hc⟩ := hrx.at_ hlt
      have FT := Lib.hid (flat_take_succ l k hlt)
      have FL := flat_take_le l k hlt
      have TX := text_len (tl l[k])
      have hsz : l[k].size = (tl l[k]).length := Lib.size_eq _
      have TXT := Lib.hid (reftext_any l[k] (by omega) wx)
      generalize l[k] = s at *
      generalize ((l.take k).map tl).flatMap Pk.text = acc at *
      obtain ⟨S, eS⟩ : ∃ S, S = bs (Pk.text (tl s)) := ⟨_, rfl⟩
      have hz : S.size = (Pk.text (tl s)).length := by rw [eS]; exact bs_size _
      have hS : Hid (tl S = Pk.text (tl s)) := Lib.hid (by rw [eS]; rfl)
      rw [← eS] at TXT
      have hbl : acc.length + S.size ≤ 140737488355328 := by omega
      have HZ := Lib.hid hz
      clear hz hsz eS
      have hkI : (k : Int) < (l.length : Int) := by omega
      go_wp2_with (first | (go_at_call 39; ((with_reducible refine (TXT.out).mono ?_); rintro e w1 ⟨rfl, hb1⟩; have hown1 := own_later hown hb1; have hbx1 := hbx.trans (hb1.mono hbx.size); have hB := hbx1.size; clear hown)) | (at_builtin; refine append_text rfl (.tmp 11) (.tmp 16) 80 9 rfl w.heap.size 5 Tryz.underlying80 Tryz.underlying9 (by kernel_rfl) _ acc.length acc rfl hown1 S rfl hbl hB hbx1 ?_; intro v' w2 hown2 hb2 _))
      go_roundw
      case rel =>
        refine ⟨k + 1, by go_num, by omega, ?_, hb2⟩
        rw [FT.out, List.length_append, ← hS.out]
        rw [show (tl S).length = S.size from (Lib.size_eq _).symm]
        exact hown2
      case measure => simp [intOf]; omega
    · obtain rfl : k = l.length := by omega
      rw [List.take_length] at hown
      have LD : Hid (Pk.text ((l.map tl).flatMap Pk.text) = Pk.list (l.map tl)) := Lib.hid rfl
      generalize (l.map tl).flatMap Pk.text = acc at *
      have hz : (bs acc).size = acc.length := bs_size _
      have hcv : (convert 80 9 _).run Tryz.prog _ = .ok (.string (bs acc)) _ := conv_own (P := Tryz.prog) Tryz.underlying80 Tryz.underlying5 Tryz.underlying9 hown
      have TXT : Hid (∀ W, Calls Tryz.prog 39 #[.string (bs acc)] W fun e w' => e = .returned (.string (bs (Pk.text acc))) ∧ Below W.heap.size W w') := Lib.hid (fun W => reftext_any (bs acc) (by omega) W)
      clear hz hown
      go_wp2_with (go_at_call 39; ((with_reducible refine (TXT.out _).mono ?_); rintro e w2 ⟨rfl, hb2⟩))
      go_ret
      exact ⟨ret_str (by rw [LD.out]), hbx.trans (hb2.mono hbx.size)⟩
end Go.Proofs.YtcpkhaebcmgehaaGreatDoor
