/- Joined by mkmerged.py: MapV, KpW, SvBase, LeLays, SvQueue, CsLays, SortCall. -/
import Derived.Test.YtifiipmmgnmciaaGreatDoorProg
import Derived.WalkKit
import Derived.Maps.OwnSet
import Derived.Maps.OwnOps
import Derived.Maps.Views
import Derived.Deep.Draws
import Derived.Test.YtifiipmmgnmciaaGreatDoorMiKt
import Derived.Test.YtifiipmmgnmciaaGreatDoorMi03
import Derived.Test.YtifiipmmgnmciaaGreatDoorMi02
import Derived.Shelf.SlIter.Nil
import Derived.Ground.GgzProg
import Derived.Deep.RegionLaw
import Derived.BigRegion
import Derived.Shelf.SlIter.Collect
import Derived.Shelf.SlSortCmp.NoneTotal
import Derived.Sort.OwnSorted
import Derived.Ground.SlsfProg
/- MapV, what a claim needs of it (prune.py). -/
namespace Go.Proofs.YtifiipmmgnmciaaGreatDoor.Mv
open Go.RowKit Go.Maps
set_option linter.unusedVariables false
set_option maxRecDepth 100000
theorem kstr : Keyed Tryz.prog 9 := string_keyed Tryz.underlying9
theorem kof {s : ByteArray} (hs : s.size ≤ maxLen) : keyOf Tryz.prog 9 (.string s) = some (.string s.data.toList) := WideMaps.keyOf_string_mk Tryz.underlying9 hs
theorem klit_ne {a b : ByteArray} (h : a ≠ b) : (Lit.string a.data.toList) ≠ .string b.data.toList := by
  intro e
  injection e with e
  apply h
  cases a; cases b
  exact congrArg ByteArray.mk (Array.toList_inj.1 e)
def rv : Value → Option (DataW Value × List MemPlace) := fun v => some (.held v, [])
def VMap (w : World) (m n : Nat) (f : ByteArray → Option Value) : Prop :=
  ∃ D : DataW Value, w.ownsMap Tryz.prog 9 rv m n D ∧ ∀ s : ByteArray, Maps.has D (.string s.data.toList) = (f s).isSome ∧ ∀ z, D.atKey (.string s.data.toList) (.held z) = .held ((f s).getD z)
theorem VMap.keep {w w' : World} {m n : Nat} {f : ByteArray → Option Value} (h : VMap w m n f) (hb : w'.heap[m]? = w.heap[m]?) : VMap w' m n f := by
  obtain ⟨D, ⟨es, cl, h1, h2, h3, h4⟩, hs⟩ := h
  exact ⟨D, ⟨es, cl, hb.trans h1, h2, h3, h4⟩, hs⟩
theorem VMap.lt {w : World} {m n : Nat} {f : ByteArray → Option Value} (h : VMap w m n f) : m < w.heap.size := by
  obtain ⟨D, h1, _⟩ := h
  exact h1.lt
theorem VMap.later {w w' : World} {m n : Nat} {f : ByteArray → Option Value} (h : VMap w m n f) (hb : Below w.heap.size w w') : VMap w' m n f := h.keep (hb.block m h.lt)
theorem VMap.more {w : World} {m n n' : Nat} {f : ByteArray → Option Value} (h : VMap w m n f) (hn : n ≤ n') : VMap w m n' f := by
  obtain ⟨D, h1, h2⟩ := h
  exact ⟨D, h1.mono hn, h2⟩
theorem VMap.made (w : World) : VMap (w.alloc (.map #[] 0)) w.heap.size 0 (fun _ => none) := ⟨.map [], World.ownsMap_made _ _ _ _, fun s => ⟨rfl, fun _ => rfl⟩⟩
theorem VMap.nocell {w : World} {m n : Nat} {f : ByteArray → Option Value} (h : VMap w m n f) {ad : Addr} {v : Value} (hc : w.cell? ad = some v) : ad.block ≠ m := by
  rintro rfl
  obtain ⟨D, ⟨es, cl, h1, _⟩, _⟩ := h
  unfold World.cell? at hc
  rw [h1] at hc
  simp at hc
theorem rv_inv {v : Value} {x : Value} {ps : List MemPlace} (h : rv v = some (.held x, ps)) : v = x := by
  unfold rv at h
  simp only [Option.some.injEq, Prod.mk.injEq, DataW.held.injEq] at h
  exact h.1
theorem VMap.look {w : World} {m n : Nat} {f : ByteArray → Option Value} (h : VMap w m n f) {t e : TypeId} (ht : Tryz.prog.underlying t = some (.map 9 e)) {z : Value} (hz : (zeroValue e).run Tryz.prog w = .ok z w) {s : ByteArray} (hs : s.size ≤ maxLen) :
    (Instr.lookup t (.map (some m)) (.string s) true).run Tryz.prog w = .ok (.tuple #[(f s).getD z, .bool (f s).isSome]) w := by
  obtain ⟨D, h1, h2⟩ := h
  obtain ⟨v, ps, hrun, hv⟩ := h1.look_ok kstr ht hz (zd := .held z) (zp := []) rfl (kof hs)
  rw [(h2 s).2] at hv
  rw [hrun, rv_inv hv, (h2 s).1]
theorem VMap.look1 {w : World} {m n : Nat} {f : ByteArray → Option Value} (h : VMap w m n f) {t e : TypeId} (ht : Tryz.prog.underlying t = some (.map 9 e)) {z : Value} (hz : (zeroValue e).run Tryz.prog w = .ok z w) {s : ByteArray} (hs : s.size ≤ maxLen) :
    (Instr.lookup t (.map (some m)) (.string s) false).run Tryz.prog w = .ok ((f s).getD z) w := by
  obtain ⟨D, h1, h2⟩ := h
  obtain ⟨v, ps, hrun, hv⟩ := h1.lookup kstr ht hz (zd := .held z) (zp := []) rfl (kof hs)
  rw [(h2 s).2] at hv
  rw [hrun, rv_inv hv]
def putM (f : ByteArray → Option Value) (k : ByteArray) (v : Value) : ByteArray → Option Value := fun s => if s = k then some v else f s
theorem VMap.put {w : World} {m n : Nat} {f : ByteArray → Option Value} (h : VMap w m n f) {t e : TypeId} (ht : Tryz.prog.underlying t = some (.map 9 e)) (hn : n < maxLen) {s : ByteArray} (hs : s.size ≤ maxLen) (v : Value) :
    ∃ w', (Instr.mapUpdate t (.map (some m)) (.string s) v).run Tryz.prog w = .ok () w' ∧ VMap w' m (n + 1) (putM f s v) ∧ w.grownBy w' (some m) := by
  obtain ⟨D, h1, h2⟩ := h
  obtain ⟨w', hrun, ho, hg⟩ := h1.update (val := v) (d := .held v) (ps := []) kstr ht hn (kof hs) rfl
  refine ⟨w', hrun, ⟨_, ho, fun x => ?_⟩, hg⟩
  unfold putM
  by_cases e : x = s
  · subst e
    rw [if_pos rfl]
    exact ⟨has_put_same h1.isMap (show WideAt.IsKeyLit (.string x.data.toList) from trivial) _, fun z => atKey_put_same h1.isMap (show WideAt.IsKeyLit (.string x.data.toList) from trivial) _ _⟩
  · rw [if_neg e]
    exact ⟨(has_put_other (klit_ne e) _).trans (h2 x).1, fun z => (atKey_put_other (klit_ne e) _ _).trans ((h2 x).2 z)⟩
def delM (f : ByteArray → Option Value) (k : ByteArray) : ByteArray → Option Value := fun s => if s = k then none else f s
theorem VMap.del {w : World} {m n : Nat} {f : ByteArray → Option Value} (h : VMap w m n f) {t e : TypeId} (ht : Tryz.prog.underlying t = some (.map 9 e)) {s : ByteArray} (hs : s.size ≤ maxLen) (ty : TypeId) :
    ∃ w', (Builtin.delete_ #[t, 9] ty #[.map (some m), .string s]).run Tryz.prog w = .ok (.tuple #[]) w' ∧ VMap w' m n (delM f s) ∧ w.grownBy w' (some m) := by
  obtain ⟨D, h1, h2⟩ := h
  obtain ⟨w', hrun, ho, hg⟩ := h1.drop kstr ht (kof hs) ty
  refine ⟨w', hrun, ⟨_, ho, fun x => ?_⟩, hg.grown⟩
  unfold delM
  by_cases e : x = s
  · subst e
    rw [if_pos rfl]
    exact ⟨has_del_same, fun z => atKey_del_same _⟩
  · rw [if_neg e]
    exact ⟨(has_del_other (klit_ne e)).trans (h2 x).1, fun z => (atKey_del_other (klit_ne e) _).trans ((h2 x).2 z)⟩
end Go.Proofs.YtifiipmmgnmciaaGreatDoor.Mv
/- KpW, what a claim needs of it (prune.py). -/
namespace Go.Proofs.YtifiipmmgnmciaaGreatDoor.Dk
open Go.RowKit
set_option linter.unusedVariables false
structure Kp (S : Nat → Prop) (W W' : World) : Prop where
  os : W'.os = W.os
  tape : W'.tape = W.tape
  output : W'.output = W.output
  size : W.heap.size ≤ W'.heap.size
  block : ∀ k, k < W.heap.size → ¬ S k → W'.heap[k]? = W.heap[k]?
theorem Kp.refl (S : Nat → Prop) (W : World) : Kp S W W := ⟨rfl, rfl, rfl, Nat.le_refl _, fun _ _ _ => rfl⟩
theorem Kp.trans {S : Nat → Prop} {A B C : World} (h : Kp S A B) (k : Kp S B C) : Kp S A C :=
  ⟨k.os.trans h.os, k.tape.trans h.tape, k.output.trans h.output, Nat.le_trans h.size k.size, fun i h1 h2 => (k.block i (Nat.lt_of_lt_of_le h1 h.size) h2).trans (h.block i h1 h2)⟩
theorem Kp.mono {S T : Nat → Prop} {W W' : World} (h : Kp S W W') (hs : ∀ k, S k → T k) : Kp T W W' := ⟨h.os, h.tape, h.output, h.size, fun i h1 h2 => h.block i h1 (fun e => h2 (hs i e))⟩
theorem Kp.of_below {S : Nat → Prop} {W W' : World} (h : Below W.heap.size W W') : Kp S W W' := ⟨h.os, h.tape, h.output, h.size, fun i h1 _ => h.block i h1⟩
theorem Kp.setCell {S : Nat → Prop} {W W' : World} (h : Kp S W W') {p : Addr} (hp : S p.block) (v : Value) : Kp S W (W'.setCell p v) :=
  ⟨(show _ = W'.os by simp [World.setCell]).trans h.os, (show _ = W'.tape by simp [World.setCell]).trans h.tape, (show _ = W'.output by simp [World.setCell]).trans h.output, by simpa using h.size, fun i h1 h2 => (Below.heap_setCell _ _ _ _ (fun e => h2 (by rw [e]; exact hp))).trans (h.block i h1 h2)⟩
theorem Kp.grown {S : Nat → Prop} {W W1 W2 : World} {r : Option Nat} (h : Kp S W W1) (hg : W1.grownBy W2 r) (hr : ∀ k, r = some k → S k ∨ W.heap.size ≤ k) : Kp S W W2 :=
  ⟨hg.os.trans h.os, hg.tape.trans h.tape, hg.output.trans h.output, Nat.le_trans h.size hg.size, fun i h1 h2 => (hg.block i (Nat.lt_of_lt_of_le h1 h.size) (fun e => by
    rcases hr i e.symm with h3 | h3
    · exact h2 h3
    · omega)).trans (h.block i h1 h2)⟩
theorem Kp.below {S : Nat → Prop} {B : Nat} {W W' : World} (h : Kp S W W') (hs : ∀ k, S k → B ≤ k) (hB : B ≤ W.heap.size) : Below B W W' :=
  ⟨h.os, h.tape, h.output, h.size, fun i h1 => h.block i (by omega) (fun e => by have := hs i e; omega)⟩
theorem Kp.then {S : Nat → Prop} {W W1 W2 : World} (h : Kp S W W1) (k : Below W1.heap.size W1 W2) : Kp S W W2 := h.trans (Kp.of_below k)
theorem Kp.drew {S : Nat → Prop} {W W' : World} (h : Kp S W W') : Kp S W W'.drew := ⟨h.os, h.tape, h.output, h.size, h.block⟩
theorem Kp.setNew {S : Nat → Prop} {W W' : World} (h : Kp S W W') {p : Addr} (hp : W.heap.size ≤ p.block) (v : Value) : Kp S W (W'.setCell p v) :=
  h.grown (r := some p.block) (⟨by simp [World.setCell], by simp [World.setCell], by simp [World.setCell], by simp, fun k hk hne => Below.heap_setCell _ _ _ _ (fun e => hne (by rw [e]))⟩) (fun k e => by injection e with e; subst e; exact .inr hp)
end Go.Proofs.YtifiipmmgnmciaaGreatDoor.Dk
/- SvBase, what a claim needs of it (prune.py). -/
namespace Go.Proofs.YtifiipmmgnmciaaGreatDoor.Sv
open Go.RowKit
open Dk (Kp)
set_option linter.unusedVariables false
set_option maxRecDepth 100000
theorem results_row3 {P : Program} {fn : Func} {p u v : Tmp} {ty : TypeId} (h : fn.results = #[.cell p ty, .tmp u, .tmp v]) (tmps : Array Value) (w : World) (g : Nat) (t : TypeId) (cs : Array Value) (fr : Nat × Nat) (d : TypeDesc)
    (hp : tmps.getD p undef = .pointer (some ⟨g, 0, none⟩)) (hg : w.heap[g]? = some (.cells cs t fr))
    (hu : P.underlying ty = some d) (hd : (match d with | .struct _ | .array _ _ => true | _ => false) = true) (hi : (P.info? ty).map (·.size) = some cs.size) :
    (results fn tmps).run P w = .ok (.tuple #[.agg cs, tmps.getD u undef, tmps.getD v undef]) w := by
  have e : (results fn tmps).run P w = ((asAddr (tmps.getD p undef)).run P w).andThen fun a w₁ => ((loadVar ty a).run P w₁).andThen fun r w₂ => .ok (.tuple #[r, tmps.getD u undef, tmps.getD v undef]) w₂ := by
    simp only [results, h]
    simp [Sem.run_bind, Result.andThen]
  rw [e, hp]
  simp [asAddr, run_loadVar_row w g t ty cs fr d hg hu hd hi, Result.andThen]
theorem results_row4 {P : Program} {fn : Func} {p u v x : Tmp} {ty : TypeId} (h : fn.results = #[.cell p ty, .tmp u, .tmp v, .tmp x]) (tmps : Array Value) (w : World) (g : Nat) (t : TypeId) (cs : Array Value) (fr : Nat × Nat) (d : TypeDesc)
    (hp : tmps.getD p undef = .pointer (some ⟨g, 0, none⟩)) (hg : w.heap[g]? = some (.cells cs t fr))
    (hu : P.underlying ty = some d) (hd : (match d with | .struct _ | .array _ _ => true | _ => false) = true) (hi : (P.info? ty).map (·.size) = some cs.size) :
    (results fn tmps).run P w = .ok (.tuple #[.agg cs, tmps.getD u undef, tmps.getD v undef, tmps.getD x undef]) w := by
  have e : (results fn tmps).run P w = ((asAddr (tmps.getD p undef)).run P w).andThen fun a w₁ => ((loadVar ty a).run P w₁).andThen fun r w₂ => .ok (.tuple #[r, tmps.getD u undef, tmps.getD v undef, tmps.getD x undef]) w₂ := by
    simp only [results, h]
    simp [Sem.run_bind, Result.andThen]
  rw [e, hp]
  simp [asAddr, run_loadVar_row w g t ty cs fr d hg hu hd hi, Result.andThen]
theorem results_tmp_row {P : Program} {fn : Func} {p u : Tmp} {ty : TypeId} (h : fn.results = #[.tmp u, .cell p ty]) (tmps : Array Value) (w : World) (g : Nat) (t : TypeId) (cs : Array Value) (fr : Nat × Nat) (d : TypeDesc)
    (hp : tmps.getD p undef = .pointer (some ⟨g, 0, none⟩)) (hg : w.heap[g]? = some (.cells cs t fr))
    (hu : P.underlying ty = some d) (hd : (match d with | .struct _ | .array _ _ => true | _ => false) = true) (hi : (P.info? ty).map (·.size) = some cs.size) :
    (results fn tmps).run P w = .ok (.tuple #[tmps.getD u undef, .agg cs]) w := by
  have e : (results fn tmps).run P w = ((asAddr (tmps.getD p undef)).run P w).andThen fun a w₁ => ((loadVar ty a).run P w₁).andThen fun r w₂ => .ok (.tuple #[tmps.getD u undef, r]) w₂ := by
    simp only [results, h]
    simp [Sem.run_bind, Result.andThen]
  rw [e, hp]
  simp [asAddr, run_loadVar_row w g t ty cs fr d hg hu hd hi, Result.andThen]
theorem set_same {w : World} {b j : Nat} {cs : Array Value} {T : TypeId} {fr : Nat × Nat} {v : Value} (h : w.heap[b]? = some (.cells cs T fr)) (hv : cs[j]? = some v) : w.setCell ⟨b, j, none⟩ v = w := by
  have hc : cs.setIfInBounds j v = cs := by
    apply Array.ext_getElem?
    intro i
    by_cases e : j = i
    · subst e
      have hl : j < cs.size := by
        rcases Nat.lt_or_ge j cs.size with h1 | h1
        · exact h1
        · rw [Array.getElem?_eq_none h1] at hv; cases hv
      rw [Array.getElem?_setIfInBounds_self_of_lt hl, hv]
    · rw [Array.getElem?_setIfInBounds_ne e]
  have hh : (w.setCell ⟨b, j, none⟩ v).heap = w.heap := by
    apply Array.ext_getElem?
    intro i
    by_cases e : b = i
    · subst e
      rw [heap_set h, hc, h]
    · exact heap_set_ne e
  cases w with
  | mk heap => 
    simp only [World.setCell] at hh ⊢
    simp_all
theorem kp_set {S : Nat → Prop} {W : World} (b j : Nat) (v : Value) (h : S b) : Kp S W (W.setCell ⟨b, j, none⟩ v) := (Kp.refl S W).setCell (p := ⟨b, j, none⟩) h v
theorem kp_alloc {S : Nat → Prop} (W : World) (o : Obj) : Kp S W (W.alloc o) := Kp.of_below ((Below.refl _ _).alloc (Nat.le_refl _) o)
theorem own_one {w : World} {base s : Nat} {e : TypeId} {v : Value} {xs : List Value} (h : w.ownsRow base e s v 1 xs) : ∃ (g c : Nat) (cs : Array Value), v = .slice (some ⟨g, 0, none⟩) 1 c ∧ w.heap[g]? = some (.cells cs e (0, 0)) ∧ (∀ (j : Nat) u, xs[j]? = some u → cs[j]? = some u) ∧ 1 ≤ c ∧ base ≤ g ∧ c ≤ maxLen := by
  rcases h.2 with ⟨_, h0⟩ | ⟨g, cap, cur, hv, hB, hg, h1, h2, h3, h4⟩
  · cases h0
  · refine ⟨g, cap, cur, hv, hg, fun j u hj => ?_, h1, hB, h2⟩
    rw [← h4] at hj
    rw [← Array.getElem?_toList]
    rw [List.getElem?_take] at hj
    split at hj
    · exact hj
    · cases hj
theorem reads_one {w : World} {g s : Nat} {cs : Array Value} {T : TypeId} (h : w.heap[g]? = some (.cells cs T (0, 0))) (hs : cs.size = s) : Reads w (g + 1) s (some ⟨g, 0, none⟩) 1 cs.toList := by
  refine ⟨by simp [hs], fun _ => ⟨_, rfl, Nat.lt_succ_self _, fun j y hj => ?_⟩⟩
  rw [Lg.add_eq, cell_heap h]
  simpa using hj
end Go.Proofs.YtifiipmmgnmciaaGreatDoor.Sv
/- LeLays, what a claim needs of it (prune.py). -/
namespace Go.Proofs
open Go.Shelf
def Tryz.l191_ren : Go.Shelf.Ren := ⟨fun | 7 => 191 | 10 => 246 | n => n, fun | 23 => 133 | 26 => 9 | 3 => 60 | 28 => 168 | 0 => 0 | 27 => 167 | 33 => 48 | 4 => 4 | n => n, fun | n => n⟩
theorem Tryz.l191 : Go.Proofs.SlLaysZ.n7 Tryz.prog Tryz.l191_ren := {
  mixed := by kernel_rfl
  f7 := ⟨Tryz.f191.name, by decide, Tryz.func191.trans (congrArg some (by kernel_rfl))⟩
  f10 := ⟨Tryz.f246.name, by decide, Tryz.func246.trans (congrArg some (by kernel_rfl))⟩
  t0 := Tryz.underlying0
  a0 := Tryz.isAgg0
  z0 := Tryz.sizeOf0
  v0 := Tryz.zeroValue0
  t4 := Tryz.underlying4
  a4 := Tryz.isAgg4
  z4 := Tryz.sizeOf4
  v4 := Tryz.zeroValue4
  t23 := Tryz.underlying133
  a23 := Tryz.isAgg133
  z23 := Tryz.sizeOf133
  v23 := Tryz.zeroValue133
  t26 := Tryz.underlying9
  a26 := Tryz.isAgg9
  z26 := Tryz.sizeOf9
  v26 := Tryz.zeroValue9
  t27 := Tryz.underlying167
  a27 := Tryz.isAgg167
  z27 := Tryz.sizeOf167
  v27 := Tryz.zeroValue167
  t28 := Tryz.underlying168
  a28 := Tryz.isAgg168
  z28 := Tryz.sizeOf168
  v28 := Tryz.zeroValue168
  t33 := Tryz.underlying48
  a33 := Tryz.isAgg48
  z33 := Tryz.sizeOf48
  v33 := Tryz.zeroValue48 }
end Go.Proofs
/- SvQueue, what a claim needs of it (prune.py). -/
namespace Go.Proofs.YtifiipmmgnmciaaGreatDoor.Sv
open Go.RowKit
open Dk (Kp)
set_option linter.unusedVariables false
set_option maxRecDepth 100000
def QB (W : World) (q : Nat) (nth : Int) (A : Option Addr) (n c : Nat) : Prop := W.heap[q]? = some (.cells #[.int .i64 20, .int .i64 nth, .slice A n c] 231 (0, 0))
def thing (K : ByteArray) : List Value := [.string K, .int .i64 0, .int .i64 1, .int .i64 0, .int .i64 1, .int .i64 1, .int .i64 1]
def Q0 (W : World) (q : Nat) (nth : Int) : Prop := ∃ A c, QB W q nth A 0 c
def Q1 (W : World) (q g : Nat) (K : ByteArray) : Prop := ∃ (c : Nat) (cs : Array Value), QB W q 1 (some ⟨g, 0, none⟩) 1 c ∧ W.heap[g]? = some (.cells cs 233 (0, 0)) ∧ (∀ (j : Nat) u, (thing K)[j]? = some u → cs[j]? = some u) ∧ 1 ≤ c
theorem Q0.keep {W W' : World} {q : Nat} {nth : Int} (h : Q0 W q nth) (hb : W'.heap[q]? = W.heap[q]?) : Q0 W' q nth := by
  obtain ⟨A, c, h⟩ := h
  exact ⟨A, c, hb.trans h⟩
theorem Q0.lt {W : World} {q : Nat} {nth : Int} (h : Q0 W q nth) : q < W.heap.size := by
  obtain ⟨A, c, h⟩ := h
  exact Lg.lt_heap h
theorem Q1.keep {W W' : World} {q g : Nat} {K : ByteArray} (h : Q1 W q g K) (hb : W'.heap[q]? = W.heap[q]?) (hg : W'.heap[g]? = W.heap[g]?) : Q1 W' q g K := by
  obtain ⟨c, cs, h1, h2, h3, h4⟩ := h
  exact ⟨c, cs, hb.trans h1, hg.trans h2, h3, h4⟩
theorem Q1.lt {W : World} {q g : Nat} {K : ByteArray} (h : Q1 W q g K) : q < W.heap.size ∧ g < W.heap.size := by
  obtain ⟨c, cs, h1, h2, h3, h4⟩ := h
  exact ⟨Lg.lt_heap h1, Lg.lt_heap h2⟩
theorem qnew_any (W : World) : Calls Tryz.prog 82 #[.int .i64 20] W fun e w' => e = .returned (.tuple #[.pointer (some ⟨W.heap.size, 0, none⟩), .int .i64 0]) ∧ w' = W.alloc (.cells #[.int .i64 20, .int .i64 0, .slice none 0 0] 231) := by
  go_enter Tryz.func82, Tryz.ntmps82
  go_wp2_with (fail)
  go_ret2
  exact ⟨rfl, rfl⟩
theorem qlen_any (W : World) (q : Nat) (nth : Int) (A : Option Addr) (n c : Nat) (h : QB W q nth A n c) : Calls Tryz.prog 238 #[.pointer (some ⟨q, 0, none⟩)] W fun e w' => e = .returned (.int .i64 (n : Int)) ∧ W = w' := by
  have c2 : W.cell? ⟨q, 2, none⟩ = some (.slice A n c) := (cell_heap h 2).trans rfl
  clear h
  go_enter Tryz.func238, Tryz.ntmps238
  go_wp2_with (fail)
  go_ret
  exact ⟨rfl, rfl⟩
abbrev noJob : Array Value := #[.string ⟨#[]⟩, .int .i64 0, .int .i64 0]
theorem qpeek_none (W : World) (q : Nat) (nth : Int) (A : Option Addr) (c : Nat) (h : QB W q nth A 0 c) : Calls Tryz.prog 173 #[.pointer (some ⟨q, 0, none⟩)] W fun e w' => e = .returned (.tuple #[.agg noJob, .int .i64 0, .int .i64 0, .bool false]) ∧ Below W.heap.size W w' := by
  have B0 : Below W.heap.size W (W.alloc (.cells noJob 58)) := (Below.refl _ _).alloc (Nat.le_refl _) _
  have L := Lib.hid (qlen_any (W.alloc (.cells noJob 58)) q nth A 0 c ((B0.block _ (Lg.lt_heap h)).trans h))
  clear h B0
  go_enter Tryz.func173, Tryz.ntmps173
  go_wp2_with (go_at_call 238; (with_reducible refine (L.out).mono ?_); rintro e w' ⟨rfl, rfl⟩)
  refine bodyPost_ret_by (results_row4 rfl _ _ W.heap.size 58 _ (0, 0) _ rfl (Lg.heap_two) rfl rfl (by kernel_rfl)) rfl ?_
  exact ⟨rfl, ((Below.refl _ _).alloc (Nat.le_refl _) _).alloc (by simp) _⟩
theorem qsink_none (W : World) (q : Nat) (nth : Int) (A : Option Addr) (c : Nat) (h : QB W q nth A 0 c) : Calls Tryz.prog 174 #[.pointer (some ⟨q, 0, none⟩)] W fun e w' => e = .returned (.tuple #[]) ∧ W = w' := by
  have c2 : W.cell? ⟨q, 2, none⟩ = some (.slice A 0 c) := (cell_heap h 2).trans rfl
  clear h
  go_enter Tryz.func174, Tryz.ntmps174
  go_wp2_with (fail)
  go_loopw [2, 3] (fun v0 v1 wr => v0 = .int .i64 0 ∧ wr = W) (fun _ _ _ => 0)
  case atStart => exact ⟨rfl, rfl⟩
  case round =>
    obtain ⟨rfl, rfl⟩ := hrel
    go_wp2_with (fail)
    refine bodyPost_ret (results_none rfl _ _ _) rfl ?_
    exact ⟨rfl, rfl⟩
set_option maxHeartbeats 1000000 in
theorem qpeek_one (W : World) (q g : Nat) (K : ByteArray) (h : Q1 W q g K) : Calls Tryz.prog 173 #[.pointer (some ⟨q, 0, none⟩)] W fun e w' => e = .returned (.tuple #[.agg #[.string K, .int .i64 0, .int .i64 1], .int .i64 0, .int .i64 1, .bool true]) ∧ Below W.heap.size W w' := by
  obtain ⟨W0, e0⟩ : ∃ W0, W0 = W.alloc (.cells noJob 58) := ⟨_, rfl⟩
  have B0 : Below W.heap.size W W0 := by rw [e0]; exact (Below.refl _ _).alloc (Nat.le_refl _) _
  have z0 : W0.heap[W.heap.size]? = some (.cells noJob 58 (0, 0)) := by rw [e0]; exact heap_alloc_new _ _
  obtain ⟨c, cs, h1, h2, h3, h4⟩ := h
  have k1 := (B0.block _ (Lg.lt_heap h1)).trans h1
  have k2 := (B0.block _ (Lg.lt_heap h2)).trans h2
  have L := Lib.hid (qlen_any W0 q 1 (some ⟨g, 0, none⟩) 1 c k1)
  have c2 : W0.cell? ⟨q, 2, none⟩ = some (.slice (some ⟨g, 0, none⟩) 1 c) := (cell_heap k1 2).trans rfl
  have t0 : W0.cell? ⟨g, 0, none⟩ = some (.string K) := (cell_heap k2 0).trans (h3 0 _ rfl)
  have t1 : W0.cell? ⟨g, 1, none⟩ = some (.int .i64 0) := (cell_heap k2 1).trans (h3 1 _ rfl)
  have t2 : W0.cell? ⟨g, 2, none⟩ = some (.int .i64 1) := (cell_heap k2 2).trans (h3 2 _ rfl)
  have t3 : W0.cell? ⟨g, 3, none⟩ = some (.int .i64 0) := (cell_heap k2 3).trans (h3 3 _ rfl)
  have t4 : W0.cell? ⟨g, 4, none⟩ = some (.int .i64 1) := (cell_heap k2 4).trans (h3 4 _ rfl)
  have t5 : W0.cell? ⟨g, 5, none⟩ = some (.int .i64 1) := (cell_heap k2 5).trans (h3 5 _ rfl)
  have t6 : W0.cell? ⟨g, 6, none⟩ = some (.int .i64 1) := (cell_heap k2 6).trans (h3 6 _ rfl)
  have x0 : W0.cell? ⟨W.heap.size, 0, none⟩ = some (.string ⟨#[]⟩) := (cell_heap z0 0).trans rfl
  have x1 : W0.cell? ⟨W.heap.size, 1, none⟩ = some (.int .i64 0) := (cell_heap z0 1).trans rfl
  have x2 : W0.cell? ⟨W.heap.size, 2, none⟩ = some (.int .i64 0) := (cell_heap z0 2).trans rfl
  have f0 := frozen_heap z0 0
  have f1 := frozen_heap z0 1
  have f2 := frozen_heap z0 2
  have hlt := Lg.lt_heap z0
  have hne : W.heap.size ≠ W0.heap.size := by omega
  have HB := Lib.hid B0
  have HZ := Lib.hid z0
  clear h1 h2 h3 k1 k2 z0 B0
  go_enter Tryz.func173, Tryz.ntmps173
  go_upto_region 1 with (fail)
  rw [← e0]
  clear e0
  go_upto_region 5 with (go_at_call 238; (with_reducible refine (L.out).mono ?_); rintro e w' ⟨rfl, rfl⟩)
  go_region
  simp only [Exit.then]
  go_wp2_with (fail)
  have r3 : (((W0.setCell ⟨W.heap.size, 0, none⟩ (.string K)).setCell ⟨W.heap.size, 1, none⟩ (.int .i64 0)).setCell ⟨W.heap.size, 2, none⟩ (.int .i64 1)).heap[W.heap.size]? = some (.cells #[.string K, .int .i64 0, .int .i64 1] 58 (0, 0)) := (heap_set (heap_set (heap_set HZ.out))).trans rfl
  have b3 : Below W.heap.size W (((W0.setCell ⟨W.heap.size, 0, none⟩ (.string K)).setCell ⟨W.heap.size, 1, none⟩ (.int .i64 0)).setCell ⟨W.heap.size, 2, none⟩ (.int .i64 1)) := ((HB.out.setCell (Nat.le_refl _) _).setCell (Nat.le_refl _) _).setCell (Nat.le_refl _) _
  refine bodyPost_ret_by (results_row4 rfl _ _ W.heap.size 58 _ (0, 0) _ rfl ((Below.heap_alloc _ _ _ (Lg.lt_heap r3)).trans r3) rfl rfl (by kernel_rfl)) rfl ?_
  exact ⟨rfl, (b3.alloc b3.size _).drew⟩
theorem qswap_same (W : World) (q g : Nat) (K : ByteArray) (h : Q1 W q g K) : Calls Tryz.prog 126 #[.pointer (some ⟨q, 0, none⟩), .int .i64 0, .int .i64 0] W fun e w' => e = .returned (.tuple #[]) ∧ w' = W.drew := by
  obtain ⟨c, cs, h1, h2, h3, h4⟩ := h
  have c2 : W.cell? ⟨q, 2, none⟩ = some (.slice (some ⟨g, 0, none⟩) 1 c) := (cell_heap h1 2).trans rfl
  have t0 : W.cell? ⟨g, 0, none⟩ = some (.string K) := (cell_heap h2 0).trans (h3 0 _ rfl)
  have t1 : W.cell? ⟨g, 1, none⟩ = some (.int .i64 0) := (cell_heap h2 1).trans (h3 1 _ rfl)
  have t2 : W.cell? ⟨g, 2, none⟩ = some (.int .i64 1) := (cell_heap h2 2).trans (h3 2 _ rfl)
  have t3 : W.cell? ⟨g, 3, none⟩ = some (.int .i64 0) := (cell_heap h2 3).trans (h3 3 _ rfl)
  have t4 : W.cell? ⟨g, 4, none⟩ = some (.int .i64 1) := (cell_heap h2 4).trans (h3 4 _ rfl)
  have t5 : W.cell? ⟨g, 5, none⟩ = some (.int .i64 1) := (cell_heap h2 5).trans (h3 5 _ rfl)
  have t6 : W.cell? ⟨g, 6, none⟩ = some (.int .i64 1) := (cell_heap h2 6).trans (h3 6 _ rfl)
  have f0 := frozen_heap h2 0
  have f1 := frozen_heap h2 1
  have f2 := frozen_heap h2 2
  have f3 := frozen_heap h2 3
  have f4 := frozen_heap h2 4
  have f5 := frozen_heap h2 5
  have f6 := frozen_heap h2 6
  have s0 := set_same h2 (h3 0 _ rfl)
  have s1 := set_same h2 (h3 1 _ rfl)
  have s2 := set_same h2 (h3 2 _ rfl)
  have s3 := set_same h2 (h3 3 _ rfl)
  have s4 := set_same h2 (h3 4 _ rfl)
  have s5 := set_same h2 (h3 5 _ rfl)
  have s6 := set_same h2 (h3 6 _ rfl)
  clear h1 h2 h3
  go_enter Tryz.func126, Tryz.ntmps126
  go_wp2
  go_region
  go_end0
  exact ⟨rfl, rfl⟩
theorem qpop_none (W : World) (q : Nat) (nth : Int) (h : Q0 W q nth) : Calls Tryz.prog 93 #[.pointer (some ⟨q, 0, none⟩)] W fun e w' => e = .returned (.tuple #[.agg noJob, .bool false]) ∧ Below W.heap.size W w' := by
  obtain ⟨A, c, h⟩ := h
  obtain ⟨W0, e0⟩ : ∃ W0, W0 = W.alloc (.cells noJob 58) := ⟨_, rfl⟩
  have B0 : Below W.heap.size W W0 := by rw [e0]; exact (Below.refl _ _).alloc (Nat.le_refl _) _
  have z0 : W0.heap[W.heap.size]? = some (.cells noJob 58 (0, 0)) := by rw [e0]; exact heap_alloc_new _ _
  have PK := Lib.hid (qpeek_none W0 q nth A c ((B0.block _ (Lg.lt_heap h)).trans h))
  have HB := Lib.hid B0
  have HZ := Lib.hid z0
  clear h B0 z0
  go_enter Tryz.func93, Tryz.ntmps93
  go_upto_region 1 with (fail)
  rw [← e0]
  clear e0
  go_wp2_with (go_at_call 173; (with_reducible refine (PK.out).mono ?_); rintro e w1 ⟨rfl, hb1⟩; have r1 := Lib.hid ((hb1.block _ (Lg.lt_heap HZ.out)).trans HZ.out); have y0 := (cell_heap r1.out 0); have y1 := (cell_heap r1.out 1); have y2 := (cell_heap r1.out 2); have u0 := frozen_heap r1.out 0; have u1 := frozen_heap r1.out 1; have u2 := frozen_heap r1.out 2; have HB1 := Lib.hid (HB.out.trans (hb1.mono HB.out.size)); have l1 := Lg.lt_heap r1.out; clear hb1)
  have l1' : W.heap.size < (((w1.setCell ⟨W.heap.size, 0, none⟩ (.string ⟨#[]⟩)).setCell ⟨W.heap.size, 1, none⟩ (.int .i64 0)).setCell ⟨W.heap.size, 2, none⟩ (.int .i64 0)).heap.size := by simpa [World.setCell] using l1
  refine bodyPost_ret_by (Lg.results_cell_row2 rfl _ _ W.heap.size 58 _ (0, 0) _ rfl ((Below.heap_alloc _ _ _ l1').trans ((heap_set (heap_set (heap_set r1.out))).trans rfl)) rfl rfl (by kernel_rfl)) rfl ?_
  have b3 := ((HB1.out.setCell (p := ⟨W.heap.size, 0, none⟩) (Nat.le_refl _) (.string ⟨#[]⟩)).setCell (p := ⟨W.heap.size, 1, none⟩) (Nat.le_refl _) (.int .i64 0)).setCell (p := ⟨W.heap.size, 2, none⟩) (Nat.le_refl _) (.int .i64 0)
  exact ⟨rfl, b3.alloc b3.size _⟩
theorem qpop_one (W : World) (q g : Nat) (K : ByteArray) (h : Q1 W q g K) : Calls Tryz.prog 93 #[.pointer (some ⟨q, 0, none⟩)] W fun e w' => e = .returned (.tuple #[.agg #[.string K, .int .i64 0, .int .i64 1], .bool true]) ∧ Q0 w' q 1 ∧ Kp (fun k => k = q) W w' := by
  obtain ⟨W0, e0⟩ : ∃ W0, W0 = W.alloc (.cells noJob 58) := ⟨_, rfl⟩
  have B0 : Below W.heap.size W W0 := by rw [e0]; exact (Below.refl _ _).alloc (Nat.le_refl _) _
  have z0 : W0.heap[W.heap.size]? = some (.cells noJob 58 (0, 0)) := by rw [e0]; exact heap_alloc_new _ _
  obtain ⟨lq, lg⟩ := h.lt
  have H0 : Q1 W0 q g K := h.keep (B0.block _ lq) (B0.block _ lg)
  have PK := Lib.hid (qpeek_one W0 q g K H0)
  have HB := Lib.hid B0
  have HZ := Lib.hid z0
  have NX : Hid (∀ w1, Below W0.heap.size W0 w1 → Q1 (w1.alloc (.cells #[.string K, .int .i64 0, .int .i64 1] 58)) q g K) := Lib.hid fun w1 hb => by
    have hb2 : Below W0.heap.size W0 (w1.alloc (.cells #[.string K, .int .i64 0, .int .i64 1] 58)) := hb.alloc hb.size _
    exact H0.keep (hb2.block _ H0.lt.1) (hb2.block _ H0.lt.2)
  have SW := Lib.hid (fun w2 => qswap_same w2 q g K)
  have SK := Lib.hid (fun w2 A c => qsink_none w2 q 1 A c)
  clear h B0 z0 H0
  go_enter Tryz.func93, Tryz.ntmps93
  go_upto_region 1 with (fail)
  rw [← e0]
  clear e0
  go_upto_region 3 with (go_at_call 173; (with_reducible refine (PK.out).mono ?_); rintro e w1 ⟨rfl, hb1⟩)
  obtain ⟨W2, e2⟩ : ∃ W2, W2 = w1.alloc (.cells #[.string K, .int .i64 0, .int .i64 1] 58) := ⟨_, rfl⟩
  have n2 : Q1 W2 q g K := by rw [e2]; exact NX.out w1 hb1
  have S2 := Lib.hid (SW.out W2 n2)
  have j2 : W2.heap[w1.heap.size]? = some (.cells #[.string K, .int .i64 0, .int .i64 1] 58 (0, 0)) := by rw [e2]; exact heap_alloc_new w1 _
  have b2 : Below W0.heap.size W0 W2 := by rw [e2]; exact hb1.alloc hb1.size _
  have hlt0 := Lg.lt_heap HZ.out
  have r2 : W2.heap[W.heap.size]? = some (.cells noJob 58 (0, 0)) := (b2.block _ hlt0).trans HZ.out
  have hw1 := hb1.size
  have lq2 := n2.lt.1
  obtain ⟨c, cs, q2, _, _, hc⟩ := n2
  have c2 : W2.cell? ⟨q, 2, none⟩ = some (.slice (some ⟨g, 0, none⟩) 1 c) := (cell_heap q2 2).trans rfl
  have f2 := frozen_heap q2 2
  obtain ⟨W3, e3⟩ : ∃ W3, W3 = (W2.setCell ⟨q, 2, none⟩ (.slice (some ⟨g, 0, none⟩) 0 c)).drew := ⟨_, rfl⟩
  have q3 : QB W3 q 1 (some ⟨g, 0, none⟩) 0 c := by rw [e3]; exact (heap_set q2).trans rfl
  have r3 : W3.heap[W.heap.size]? = some (.cells noJob 58 (0, 0)) := by rw [e3]; exact (heap_set_ne (by omega)).trans r2
  have j3 : W3.heap[w1.heap.size]? = some (.cells #[.string K, .int .i64 0, .int .i64 1] 58 (0, 0)) := by rw [e3]; exact (heap_set_ne (by omega)).trans j2
  have K3 : Kp (fun k => k = q) W W3 := by rw [e3]; exact (Kp.setCell (S := fun k => k = q) (Kp.of_below (HB.out.trans (b2.mono HB.out.size))) (p := ⟨q, 2, none⟩) rfl _).drew
  have S3 := Lib.hid (SK.out W3 _ _ q3)
  have x0 : W3.cell? ⟨w1.heap.size, 0, none⟩ = some (.string K) := (cell_heap j3 0).trans rfl
  have x1 : W3.cell? ⟨w1.heap.size, 1, none⟩ = some (.int .i64 0) := (cell_heap j3 1).trans rfl
  have x2 : W3.cell? ⟨w1.heap.size, 2, none⟩ = some (.int .i64 1) := (cell_heap j3 2).trans rfl
  have y0 : W3.cell? ⟨W.heap.size, 0, none⟩ = some (.string ⟨#[]⟩) := (cell_heap r3 0).trans rfl
  have y1 : W3.cell? ⟨W.heap.size, 1, none⟩ = some (.int .i64 0) := (cell_heap r3 1).trans rfl
  have y2 : W3.cell? ⟨W.heap.size, 2, none⟩ = some (.int .i64 0) := (cell_heap r3 2).trans rfl
  have u0 := frozen_heap r3 0
  have u1 := frozen_heap r3 1
  have u2 := frozen_heap r3 2
  have HQ : Hid (Q0 (((W3.setCell ⟨W.heap.size, 0, none⟩ (.string K)).setCell ⟨W.heap.size, 1, none⟩ (.int .i64 0)).setCell ⟨W.heap.size, 2, none⟩ (.int .i64 1)) q 1) := Lib.hid ⟨_, _, (heap_set_ne (by omega)).trans ((heap_set_ne (by omega)).trans ((heap_set_ne (by omega)).trans q3))⟩
  have HK : Hid (Kp (fun k => k = q) W (((W3.setCell ⟨W.heap.size, 0, none⟩ (.string K)).setCell ⟨W.heap.size, 1, none⟩ (.int .i64 0)).setCell ⟨W.heap.size, 2, none⟩ (.int .i64 1))) := Lib.hid ((((K3.mono (T := fun k => k = q) (fun _ h => h)).setNew (Nat.le_refl _) _).setNew (Nat.le_refl _) _).setNew (Nat.le_refl _) _)
  have R3 := Lib.hid r3
  rw [← e2]
  clear e2 q2 j2 b2 r2 j3 r3 q3 K3 hb1 SW SK NX PK HB HZ
  go_wp2_with (first
    | (go_at_call 126; (with_reducible refine (S2.out).mono ?_); rintro e w' ⟨rfl, rfl⟩)
    | (go_at_call 174; rw [← e3]; clear e3; (with_reducible refine (S3.out).mono ?_); rintro e w' ⟨rfl, rfl⟩))
  refine bodyPost_ret_by (Lg.results_cell_row2 rfl _ _ W.heap.size 58 _ (0, 0) _ rfl ((heap_set (heap_set (heap_set R3.out))).trans rfl) rfl rfl (by kernel_rfl)) rfl ?_
  exact ⟨rfl, HQ.out, HK.out⟩
end Go.Proofs.YtifiipmmgnmciaaGreatDoor.Sv
/- CsLays, what a claim needs of it (prune.py). -/
namespace Go.Proofs
open Go.Shelf
def Tryz.l76_ren : Go.Shelf.Ren := ⟨fun | 7 => 76 | 10 => 147 | n => n, fun | 23 => 104 | 26 => 9 | 3 => 102 | 28 => 168 | 0 => 0 | 27 => 167 | 33 => 48 | 4 => 4 | n => n, fun | n => n⟩
theorem Tryz.l76 : Go.Proofs.SlLaysZ.n7 Tryz.prog Tryz.l76_ren := {
  mixed := by kernel_rfl
  f7 := ⟨Tryz.f76.name, by decide, Tryz.func76.trans (congrArg some (by kernel_rfl))⟩
  f10 := ⟨Tryz.f147.name, by decide, Tryz.func147.trans (congrArg some (by kernel_rfl))⟩
  t0 := Tryz.underlying0
  a0 := Tryz.isAgg0
  z0 := Tryz.sizeOf0
  v0 := Tryz.zeroValue0
  t4 := Tryz.underlying4
  a4 := Tryz.isAgg4
  z4 := Tryz.sizeOf4
  v4 := Tryz.zeroValue4
  t23 := Tryz.underlying104
  a23 := Tryz.isAgg104
  z23 := Tryz.sizeOf104
  v23 := Tryz.zeroValue104
  t26 := Tryz.underlying9
  a26 := Tryz.isAgg9
  z26 := Tryz.sizeOf9
  v26 := Tryz.zeroValue9
  t27 := Tryz.underlying167
  a27 := Tryz.isAgg167
  z27 := Tryz.sizeOf167
  v27 := Tryz.zeroValue167
  t28 := Tryz.underlying168
  a28 := Tryz.isAgg168
  z28 := Tryz.sizeOf168
  v28 := Tryz.zeroValue168
  t33 := Tryz.underlying48
  a33 := Tryz.isAgg48
  z33 := Tryz.sizeOf48
  v33 := Tryz.zeroValue48 }
def Tryz.l145_ren : Go.Shelf.Ren := ⟨fun | 8 => 145 | 11 => 206 | n => n, fun | 26 => 9 | 28 => 168 | 24 => 32 | 0 => 0 | 33 => 48 | 4 => 4 | n => n, fun | n => n⟩
theorem Tryz.l145 : Go.Proofs.SlLaysZ.n8 Tryz.prog Tryz.l145_ren := {
  mixed := by kernel_rfl
  f8 := ⟨Tryz.f145.name, by decide, Tryz.func145.trans (congrArg some (by kernel_rfl))⟩
  f11 := ⟨Tryz.f206.name, by decide, Tryz.func206.trans (congrArg some (by kernel_rfl))⟩
  t0 := Tryz.underlying0
  a0 := Tryz.isAgg0
  z0 := Tryz.sizeOf0
  v0 := Tryz.zeroValue0
  t24 := Tryz.underlying32
  a24 := Tryz.isAgg32
  z24 := Tryz.sizeOf32
  v24 := Tryz.zeroValue32
  t26 := Tryz.underlying9
  a26 := Tryz.isAgg9
  z26 := Tryz.sizeOf9
  v26 := Tryz.zeroValue9
  t28 := Tryz.underlying168
  a28 := Tryz.isAgg168
  z28 := Tryz.sizeOf168
  v28 := Tryz.zeroValue168
  i26 := by kernel_rfl }
def Tryz.l146_ren : Go.Shelf.Ren := ⟨fun | 6 => 146 | 15 => 208 | 14 => 207 | 28 => 265 | 29 => 266 | 20 => 257 | 21 => 258 | 22 => 259 | 23 => 260 | 24 => 261 | 25 => 262 | 26 => 263 | 27 => 264 | 46 => 299 | 47 => 300 | 48 => 301 | 49 => 302 | 50 => 303 | 57 => 346 | n => n, fun | 22 => 32 | 24 => 9 | 25 => 171 | 3 => 3 | 39 => 317 | 0 => 0 | 53 => 361 | 55 => 363 | 4 => 4 | 46 => 355 | 45 => 354 | 50 => 279 | 5 => 5 | 9 => 9 | 66 => 395 | 70 => 399 | 76 => 441 | 77 => 442 | n => n, fun | n => n⟩
theorem Tryz.l146 : Go.Proofs.SlLaysF.n6 Tryz.prog Tryz.l146_ren := {
  mixed := by kernel_rfl
  f6 := ⟨Tryz.f146.name, by decide, Tryz.func146.trans (congrArg some (by kernel_rfl))⟩
  f14 := ⟨Tryz.f207.name, by decide, Tryz.func207.trans (congrArg some (by kernel_rfl))⟩
  f15 := Tryz.func208.trans (congrArg some (by kernel_rfl))
  f20 := ⟨Tryz.f257.name, by decide, Tryz.func257.trans (congrArg some (by kernel_rfl))⟩
  f21 := ⟨Tryz.f258.name, by decide, Tryz.func258.trans (congrArg some (by kernel_rfl))⟩
  f22 := ⟨Tryz.f259.name, by decide, Tryz.func259.trans (congrArg some (by kernel_rfl))⟩
  f23 := ⟨Tryz.f260.name, by decide, Tryz.func260.trans (congrArg some (by kernel_rfl))⟩
  f24 := ⟨Tryz.f261.name, by decide, Tryz.func261.trans (congrArg some (by kernel_rfl))⟩
  f25 := ⟨Tryz.f262.name, by decide, Tryz.func262.trans (congrArg some (by kernel_rfl))⟩
  f26 := ⟨Tryz.f263.name, by decide, Tryz.func263.trans (congrArg some (by kernel_rfl))⟩
  f27 := ⟨Tryz.f264.name, by decide, Tryz.func264.trans (congrArg some (by kernel_rfl))⟩
  f28 := Tryz.func265.trans (congrArg some (by kernel_rfl))
  f29 := Tryz.func266.trans (congrArg some (by kernel_rfl))
  f46 := ⟨Tryz.f299.name, by decide, Tryz.func299.trans (congrArg some (by kernel_rfl))⟩
  f47 := Tryz.func300.trans (congrArg some (by kernel_rfl))
  f48 := Tryz.func301.trans (congrArg some (by kernel_rfl))
  f49 := ⟨Tryz.f302.name, by decide, Tryz.func302.trans (congrArg some (by kernel_rfl))⟩
  f50 := ⟨Tryz.f303.name, by decide, Tryz.func303.trans (congrArg some (by kernel_rfl))⟩
  f57 := ⟨Tryz.f346.name, by decide, Tryz.func346.trans (congrArg some (by kernel_rfl))⟩
  t0 := Tryz.underlying0
  a0 := Tryz.isAgg0
  z0 := Tryz.sizeOf0
  v0 := Tryz.zeroValue0
  t3 := Tryz.underlying3
  a3 := Tryz.isAgg3
  z3 := Tryz.sizeOf3
  v3 := Tryz.zeroValue3
  t4 := Tryz.underlying4
  a4 := Tryz.isAgg4
  z4 := Tryz.sizeOf4
  v4 := Tryz.zeroValue4
  t5 := Tryz.underlying5
  a5 := Tryz.isAgg5
  z5 := Tryz.sizeOf5
  v5 := Tryz.zeroValue5
  t9 := Tryz.underlying9
  a9 := Tryz.isAgg9
  z9 := Tryz.sizeOf9
  v9 := Tryz.zeroValue9
  t22 := Tryz.underlying32
  a22 := Tryz.isAgg32
  z22 := Tryz.sizeOf32
  v22 := Tryz.zeroValue32
  a24 := Tryz.isAgg9
  z24 := Tryz.sizeOf9
  t25 := Tryz.underlying171
  a25 := Tryz.isAgg171
  z25 := Tryz.sizeOf171
  v25 := Tryz.zeroValue171
  t39 := Tryz.underlying317
  a39 := Tryz.isAgg317
  z39 := Tryz.sizeOf317
  v39 := Tryz.zeroValue317
  t45 := Tryz.underlying354
  a45 := Tryz.isAgg354
  z45 := Tryz.sizeOf354
  v45 := Tryz.zeroValue354
  t46 := Tryz.underlying355
  a46 := Tryz.isAgg355
  z46 := Tryz.sizeOf355
  v46 := Tryz.zeroValue355
  t50 := Tryz.underlying279
  a50 := Tryz.isAgg279
  z50 := Tryz.sizeOf279
  v50 := Tryz.zeroValue279
  t53 := Tryz.underlying361
  a53 := Tryz.isAgg361
  z53 := Tryz.sizeOf361
  v53 := Tryz.zeroValue361
  t55 := Tryz.underlying363
  a55 := Tryz.isAgg363
  z55 := Tryz.sizeOf363
  v55 := Tryz.zeroValue363
  t66 := Tryz.underlying395
  a66 := Tryz.isAgg395
  z66 := Tryz.sizeOf395
  v66 := Tryz.zeroValue395
  t70 := Tryz.underlying399
  a70 := Tryz.isAgg399
  z70 := Tryz.sizeOf399
  v70 := Tryz.zeroValue399
  t76 := Tryz.underlying441
  a76 := Tryz.isAgg441
  z76 := Tryz.sizeOf441
  v76 := Tryz.zeroValue441
  t77 := Tryz.underlying442
  a77 := Tryz.isAgg442
  z77 := Tryz.sizeOf442
  v77 := Tryz.zeroValue442 }
end Go.Proofs
/- SortCall, what a claim needs of it (prune.py). -/
namespace Go.Proofs.YtifiipmmgnmciaaGreatDoor
open Go.RowKit Go.Sort Go.Shelf
set_option linter.unusedVariables false
section
variable {α : Type} [Inhabited α]
theorem holds_gen (enc : α → Value) {w : World} {g : Nat} {cur : Array Value} {e : TypeId} {is : List α} (hb : w.heap[g]? = some (.cells cur e (0, 0))) (ht : cur.toList.take is.length = is.map enc) : Holds enc w g 0 is.toArray := by
  intro j hj
  have hj' : j < is.length := by simpa using hj
  refine ⟨?_, by simp [World.frozen?, hb]⟩
  have h1 : (cur.toList.take is.length)[j]? = (is.map enc)[j]? := by rw [ht]
  rw [List.getElem?_take_of_lt hj'] at h1
  simp only [World.cell?, hb, Nat.zero_add]
  simp only [Option.isSome_none, Bool.false_eq_true, if_false]
  rw [← Array.getElem?_toList, h1]
  simp [hj']
theorem heap_gen (enc : α → Value) {w : World} {g n : Nat} {os : Array Obj} {cur : Array Value} {e : TypeId} {fr : Nat × Nat} (d : Array α) (hb : w.heap[g]? = some (.cells cur e fr)) :
    (grow (putRow enc (Sort.ahead w n) g 0 d) os).heap[g]? = some (.cells (putCells enc 0 d cur) e fr) := by
  have hg : g < w.heap.size := (Array.getElem?_eq_some_iff.1 hb).1
  rw [Go.Sort.heap_grow_old _ _ (by simpa using hg)]
  simp [putRow, mapBlock, Sort.ahead, Array.getElem?_modify, hb, onCells]
theorem grown_gen (enc : α → Value) {w : World} {g n : Nat} {os : Array Obj} (d : Array α) : w.grownBy (grow (putRow enc (Sort.ahead w n) g 0 d) os) (some g) := by
  refine ⟨rfl, rfl, rfl, by simp, fun k hk hne => ?_⟩
  rw [Go.Sort.heap_grow_old _ _ (by simpa using hk)]
  have : g ≠ k := fun e => hne (by rw [e])
  simp [putRow, mapBlock, Sort.ahead, Array.getElem?_modify, this]
theorem take_gen (enc : α → Value) (cur : Array Value) (ts : List α) (h : ts.length ≤ cur.size) : (putCells enc 0 ts.toArray cur).toList.take ts.length = ts.map enc := by
  apply List.ext_getElem?
  intro j
  by_cases hj : j < ts.length
  · rw [List.getElem?_take_of_lt hj, Array.getElem?_toList]
    simp [putCells, hj, show j < cur.size by omega]
  · rw [List.getElem?_take_eq_none (by omega), List.getElem?_eq_none (by simp; omega)]
theorem owns_gen (enc : α → Value) {w : World} {base g cap n : Nat} {e : TypeId} {os : Array Obj} {cur : Array Value} {ts : List α} (hbase : base ≤ g) (hb : w.heap[g]? = some (.cells cur e (0, 0)))
    (h1 : ts.length ≤ cap) (h2 : cap ≤ maxLen) (h3 : cur.size = cap * 1) :
    (grow (putRow enc (Sort.ahead w n) g 0 ts.toArray) os).ownsRow base e 1 (.slice (some ⟨g, 0, none⟩) ts.length cap) ts.length (ts.map enc) :=
  ⟨by simp, .inr ⟨g, cap, _, rfl, hbase, heap_gen enc _ hb, h1, h2, by simp [putCells, h3], by rw [Nat.mul_one]; exact take_gen enc cur ts (by omega)⟩⟩
end
end Go.Proofs.YtifiipmmgnmciaaGreatDoor
