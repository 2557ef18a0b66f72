/- Rows of bytes of the call's own, and texts. -/
import Derived.Test.YtimfljncibbdoaaGreatDoorKt
import Derived.Laws.BytesString
import Derived.Lib.Builder
import Derived.Lib.UnsafeStr
import Derived.Lib.AppendStr
import Derived.Lib.Strings
import Derived.Lib.IndexBytes
namespace Go.Proofs.YtimfljncibbdoaaGreatDoor
open Go.RowKit
set_option linter.unusedVariables false

/-- a row of bytes as a text -/
theorem conv_own {P : Program} {w : World} {src dst e : TypeId} {B n : Nat} {v : Value} {l : List UInt8} (hs : P.underlying src = some (.slice e)) (he : P.underlying e = some (.int .u8)) (hd : P.underlying dst = some .string)
    (h : w.ownsRow B e 1 v n (Lib.byteCells l)) : (convert src dst v).run P w = .ok (.string ⟨l.toArray⟩) w := by
  obtain ⟨hl, h⟩ := h
  rcases h with ⟨rfl, rfl⟩ | ⟨g, cap, cur, rfl, _, hg, hn, _, hc, hx⟩
  · rw [run_convert_bytes_string w src dst e _ _ _ hs he hd]
    have : l = [] := by simpa [Lib.byteCells] using hl
    subst this
    rfl
  · rw [run_convert_bytes_string w src dst e _ _ _ hs he hd]
    have hb : Lib.byteCells l = (l.map fun b => (b.toNat : Int)).map (Value.int .u8) := by simp [Lib.byteCells]
    have hld : (loadCells ⟨g, 0, none⟩ n).run P w = .ok ((l.map fun b => (b.toNat : Int)).map (Value.int .u8)).toArray w := by
      have := run_loadCells_list (P := P) w ⟨g, 0, none⟩ (Lib.byteCells l) (fun j v hv => by
        rw [Addr.add_mid, Nat.zero_add, cell_heap hg]
        rw [← hx, List.getElem?_take] at hv
        split at hv
        · simpa using hv
        · cases hv)
      rw [hl, Nat.mul_one, hb] at this
      exact this
    rw [run_bytesToString w _ n cap _ hld]
    congr 2
    have : ∀ (l : List UInt8) (s : ByteArray), ((l.map fun b => (b.toNat : Int)).foldl (fun r n => r.push (UInt8.ofNat n.toNat)) s) = ⟨(s.data.toList ++ l).toArray⟩ := by
      intro l
      induction l with
      | nil => intro s; simp
      | cons x l ih => intro s; simp only [List.map_cons, List.foldl_cons]; rw [ih]; simp [ByteArray.push]
    rw [this]
    simp
/-- bytes behind a row of bytes -/
theorem append_bytes {P : Program} {ops : Array Oper} {rest : List Oper} {o : Oper} {a : Act} {Q : Exit → Act → World → Prop} {wr w0 : World} (hgd : o.guard = none) (s x : Operand) (t : TypeId)
    (ho : o.op = .call { callee := .builtin .append, args := #[s, x], argTypes := #[t, t] }) (B : Nat) (e : TypeId) (ht : P.underlying t = some (.slice e))
    (hi : (P.info? e).map (fun i => (i.zero, i.size, i.bytes)) = some (some (.int .u8 0), 1, 1))
    (v : Value) (n : Nat) (old : List UInt8) (hs : a.eval s = v) (hown : wr.ownsRow B e 1 v n (Lib.byteCells old))
    (cs : Array Value) (new : List UInt8) (hcs : cs = (Lib.byteCells new).toArray) (m : Nat) (hx : a.eval x = .slice (some ⟨wr.heap.size, 0, none⟩) m m) (hm : new.length = m) (hn : n + m ≤ 140737488355328)
    (hB : B ≤ wr.heap.size) (hb : Below B w0 wr)
    (h : ∀ v' w', w'.ownsRow B e 1 v' (n + m) (Lib.byteCells (old ++ new)) → Below B w0 w' → (∀ k, k < wr.heap.size → some k ≠ v.ownBlock → w'.heap[k]? = wr.heap[k]?) → wpList P ops Q rest (a.put o.dst v') w') :
    wpList P ops Q (o :: rest) a (wr.alloc (.cells cs e)) := by
  obtain ⟨i0, hi0, hz0, hz1, hz2⟩ := info_parts hi
  subst hcs
  refine wpList_append_own _ hgd s x t ho B e i0 (.int .u8 0) 1 1 ht hi0 hz0 hz1 hz2 rfl (by decide) v n (Lib.byteCells old) hs (hown.alloc _) ⟨wr.heap.size, 0, none⟩ m m (Lib.byteCells new) hx (by simp [Lib.byteCells, hm]) ?_ ?_ ?_ ?_ ?_ ?_
  · intro j u hu
    rw [Addr.add_mid, Nat.zero_add, cell_heap (heap_alloc_new wr _)]
    simpa using hu
  · intro u hu; simp [Lib.byteCells] at hu; obtain ⟨b, _, rfl⟩ := hu; rfl
  · unfold maxLen; omega
  · omega
  · simp; omega
  · intro v' w' h1 h2 _
    refine h v' w' (by rw [Lib.byteCells, List.map_append]; exact h1) ?_ ?_
    · exact (hb.alloc hB _).grown h2 (by simp; omega) (fun k hk => (hown.lt k hk).1)
    · intro k hk hne
      rw [h2.block k (by simp; omega) hne, Below.heap_alloc _ _ _ hk]
/-- what is owned and has an element is a slice at a block's head -/
theorem own_slice {w : World} {B : Nat} {e : TypeId} {v : Value} {n size : Nat} {xs : List Value} (h : w.ownsRow B e size v (n + 1) xs) : ∃ g cap, v = .slice (some ⟨g, 0, none⟩) (n + 1) cap := by
  rcases h.2 with ⟨_, h0⟩ | ⟨g, cap, cur, hv, _⟩
  · omega
  · exact ⟨g, cap, hv⟩
/-- a cell of an array's value, its elements of one cell -/
theorem run_index_arr {P : Program} {w : World} {xt e : TypeId} {n j : Nat} {cs : Array Value} {v : Value} {k : IntKind} (hu : P.underlying xt = some (.array n e)) (ha : (isAgg e).run P w = .ok false w) (hs : (sizeOf e).run P w = .ok 1 w)
    (hj : j < n) (hv : cs[j]? = some v) : (Instr.index xt (.agg cs) (.int k j)).run P w = .ok v w := by
  have h1 : (0 : Int) ≤ j ∧ (j : Int) < n := by omega
  unfold Instr.index part
  simp only [asIntOf, Sem.run_bind, Sem.run_pure, Result.andThen_ok, run_underlying hu, if_pos h1, hs, ha]
  simp [hv]
/-- cells of a block behind a row of the call's own, elements of one cell -/
theorem append_from {P : Program} {ops : Array Oper} {rest : List Oper} {o : Oper} {a : Act} {Q : Exit → Act → World → Prop} {w w0 : World} (hgd : o.guard = none) (s x : Operand) (t : TypeId)
    (ho : o.op = .call { callee := .builtin .append, args := #[s, x], argTypes := #[t, t] }) (B : Nat) (e : TypeId) (z : Value) (by_ : Nat) (ht : P.underlying t = some (.slice e))
    (hi : (P.info? e).map (fun i => (i.zero, i.size, i.bytes)) = some (some z, 1, by_)) (hz : z.cells.size = 1)
    (v : Value) (n : Nat) (xs : List Value) (hs : a.eval s = v) (hown : w.ownsRow B e 1 v n xs)
    (gs m c : Nat) (hx : a.eval x = .slice (some ⟨gs, 0, none⟩) m c) (cs : Array Value) (te : TypeId) (fr : Nat × Nat) (hgs : w.heap[gs]? = some (.cells cs te fr)) (news : List Value) (hnews : ∀ (j : Nat) (u : Value), news[j]? = some u → cs[j]? = some u) (hm : news.length = m)
    (h1 : ∀ u ∈ news, u.oneCell' = true) (hn : n + m ≤ 1000000) (hby : by_ ≤ 1000) (hB : B ≤ w.heap.size) (hb : Below B w0 w)
    (h : ∀ v' w', w'.ownsRow B e 1 v' (n + m) (xs ++ news) → Below B w0 w' → (∀ k, k < w.heap.size → some k ≠ v.ownBlock → w'.heap[k]? = w.heap[k]?) → wpList P ops Q rest (a.put o.dst v') w') :
    wpList P ops Q (o :: rest) a w := by
  obtain ⟨i0, hi0, hz0, hz1, hz2⟩ := info_parts hi
  have hmul : (n + m) * by_ ≤ 1000000 * 1000 := Nat.mul_le_mul hn hby
  refine wpList_append_own _ hgd s x t ho B e i0 z 1 by_ ht hi0 hz0 hz1 hz2 hz (by decide) v n xs hs hown ⟨gs, 0, none⟩ m c news hx (by omega) ?_ h1 ?_ (by omega) hB ?_
  · intro j u hu
    rw [Addr.add_mid, Nat.zero_add, cell_heap hgs]
    exact hnews j u hu
  · unfold maxLen; omega
  · intro v' w' k1 k2 _
    exact h v' w' k1 (hb.grown k2 hB (fun k hk => (hown.lt k hk).1)) (fun k hk hne => k2.block k hk hne)
/-- an owned row, its block written out -/
theorem own_block {w : World} {B : Nat} {e : TypeId} {v : Value} {n : Nat} {xs : List Value} (hn : 0 < n) (h : w.ownsRow B e 1 v n xs) :
    ∃ g cap T, v = .slice (some ⟨g, 0, none⟩) n cap ∧ B ≤ g ∧ w.heap[g]? = some (.cells (xs ++ T).toArray e (0, 0)) := by
  rcases h.2 with ⟨_, h0⟩ | ⟨g, cap, cur, hv, hg, hc, _, _, _, hx⟩
  · omega
  · refine ⟨g, cap, cur.toList.drop (n * 1), hv, hg, ?_⟩
    rw [hc, ← hx, List.take_append_drop]
theorem ownsDN {w : World} {B : Nat} {e : TypeId} {size : Nat} {v : Value} {n : Nat} {xs : List Value} (h : w.ownsRow B e size v n xs) (m : Nat) : (w.drewN m).ownsRow B e size v n xs := h
end Go.Proofs.YtimfljncibbdoaaGreatDoor
