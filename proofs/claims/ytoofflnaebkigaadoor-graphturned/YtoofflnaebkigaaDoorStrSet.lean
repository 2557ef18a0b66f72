/- A map from texts to bool as a set of texts: how it lies, a look-up, a store of true, a delete. -/
import Derived.Test.YtoofflnaebkigaaDoorProg
import Derived.Test.YtoofflnaebkigaaDoorGrSpec
import Derived.WalkKit
import Derived.Maps.OwnSet
import Derived.Maps.OwnOps
import Derived.Maps.Views
import Derived.Deep.Draws
namespace Go.Proofs.YtoofflnaebkigaaDoor
open Go.RowKit Go.Maps
set_option linter.unusedVariables false
set_option maxRecDepth 100000
namespace Ss
theorem kstr : Keyed Tryd.prog 9 := string_keyed Tryd.underlying9
theorem kof {s : ByteArray} (hs : s.size ≤ maxLen) : keyOf Tryd.prog 9 (.string s) = some (.string s.data.toList) := WideMaps.keyOf_string_mk Tryd.underlying9 hs
theorem lit_ne {a b : ByteArray} (h : a ≠ b) : (Lit.string a.data.toList) ≠ .string b.data.toList := by
  intro e
  injection e with e
  apply h
  cases a; cases b
  exact congrArg ByteArray.mk (Array.toList_inj.1 e)
/-- block m is the set of the texts S -/
def SetAt (w : World) (m n : Nat) (S : List ByteArray) : Prop :=
  ∃ D : DataW Unit, w.ownsMap Tryd.prog 9 (plainElem Tryd.prog 4) m n D ∧ ∀ s : ByteArray, D.atKey (.string s.data.toList) (.lit (.bool false)) = .lit (.bool (Gr.has S s))
theorem plain_bool_inv {v : Value} {b : Bool} {ps : List MemPlace} (h : plainElem (H := Unit) Tryd.prog 4 v = some (.lit (.bool b), ps)) : v = .bool b := by
  unfold plainElem at h
  rw [Tryd.underlying4] at h
  cases v <;> simp at h
  rw [h.1]
theorem SetAt.keep {w w' : World} {m n : Nat} {S : List ByteArray} (h : SetAt w m n S) (hb : w'.heap[m]? = w.heap[m]?) : SetAt w' m n S := by
  obtain ⟨D, ⟨es, cl, h1, h2, h3, h4⟩, hs⟩ := h
  exact ⟨D, ⟨es, cl, hb.trans h1, h2, h3, h4⟩, hs⟩
theorem SetAt.lt {w : World} {m n : Nat} {S : List ByteArray} (h : SetAt w m n S) : m < w.heap.size := by
  obtain ⟨D, h1, _⟩ := h
  exact h1.lt
theorem SetAt.below {w w' : World} {m n : Nat} {S : List ByteArray} (h : SetAt w m n S) {B : Nat} (hB : m < B) (hb : Below B w w') : SetAt w' m n S := h.keep (hb.block m hB)
theorem SetAt.later {w w' : World} {m n : Nat} {S : List ByteArray} (h : SetAt w m n S) (hb : Below w.heap.size w w') : SetAt w' m n S := h.below h.lt hb
theorem SetAt.alloc {w : World} {m n : Nat} {S : List ByteArray} (h : SetAt w m n S) (o : Obj) : SetAt (w.alloc o) m n S := h.keep (Below.heap_alloc _ _ _ h.lt)
theorem SetAt.drewN {w : World} {m n : Nat} {S : List ByteArray} (h : SetAt w m n S) (k : Nat) : SetAt (w.drewN k) m n S := h
theorem SetAt.setCell {w : World} {m n : Nat} {S : List ByteArray} (h : SetAt w m n S) {p : Addr} (hp : m ≠ p.block) (u : Value) : SetAt (w.setCell p u) m n S := h.keep (Below.heap_setCell _ _ _ _ hp)
theorem SetAt.grown {w w' : World} {m n : Nat} {S : List ByteArray} {row : Option Nat} (h : SetAt w m n S) (hg : w.grownBy w' row) (hne : some m ≠ row) : SetAt w' m n S := h.keep (hg.block m h.lt hne)
theorem SetAt.congr {w : World} {m n : Nat} {S S' : List ByteArray} (h : SetAt w m n S) (hs : ∀ s, Gr.has S s = Gr.has S' s) : SetAt w m n S' := by
  obtain ⟨D, h1, h2⟩ := h
  exact ⟨D, h1, fun s => by rw [h2 s, hs s]⟩
theorem SetAt.made (w : World) : SetAt (w.alloc (.map #[] 0)) w.heap.size 0 [] := ⟨.map [], World.ownsMap_made _ _ _ _, fun s => rfl⟩
theorem SetAt.more {w : World} {m n n' : Nat} {S : List ByteArray} (h : SetAt w m n S) (hn : n ≤ n') : SetAt w m n' S := by
  obtain ⟨D, h1, h2⟩ := h
  exact ⟨D, h1.mono hn, h2⟩
/-- a look-up tells whether the text is there -/
theorem SetAt.look {w : World} {m n : Nat} {S : List ByteArray} (h : SetAt w m n S) {s : ByteArray} (hs : s.size ≤ maxLen) :
    (Instr.lookup 51 (.map (some m)) (.string s) false).run Tryd.prog w = .ok (.bool (Gr.has S s)) w := by
  obtain ⟨D, h1, h2⟩ := h
  obtain ⟨v, ps, hrun, hv⟩ := h1.lookup kstr Tryd.underlying51 (z := .bool false) (by kernel_rfl) (plainElem_bool Tryd.underlying4 false) (kof hs)
  rw [h2 s] at hv
  rw [hrun, plain_bool_inv hv]
theorem has_cons (S : List ByteArray) (s x : ByteArray) : Gr.has (s :: S) x = (decide (s = x) || Gr.has S x) := rfl
/-- a store of true -/
theorem SetAt.put {w : World} {m n : Nat} {S : List ByteArray} (h : SetAt w m n S) (hn : n < maxLen) {s : ByteArray} (hs : s.size ≤ maxLen) :
    ∃ w', (Instr.mapUpdate 51 (.map (some m)) (.string s) (.bool true)).run Tryd.prog w = .ok () w' ∧ SetAt w' m (n + 1) (s :: S) ∧ w.grownBy w' (some m) := by
  obtain ⟨D, h1, h2⟩ := h
  obtain ⟨w', hrun, ho, hg⟩ := h1.update kstr Tryd.underlying51 hn (kof hs) (plainElem_bool Tryd.underlying4 true)
  refine ⟨w', hrun, ⟨_, ho, fun x => ?_⟩, hg⟩
  rw [has_cons]
  by_cases e : s = x
  · subst e
    rw [atKey_put_same h1.isMap (show WideAt.IsKeyLit (.string s.data.toList) from trivial), decide_eq_true rfl]; rfl
  · rw [atKey_put_other (fun h => lit_ne e h.symm), h2 x, decide_eq_false e]; rfl
/-- a delete -/
theorem SetAt.del {w : World} {m n : Nat} {S : List ByteArray} (h : SetAt w m n S) {s : ByteArray} (hs : s.size ≤ maxLen) (ty : TypeId) :
    ∃ w', (Builtin.delete_ #[51, 9] ty #[.map (some m), .string s]).run Tryd.prog w = .ok (.tuple #[]) w' ∧ SetAt w' m n (S.filter fun x => !decide (x = s)) ∧ w.grownBy w' (some m) := by
  obtain ⟨D, h1, h2⟩ := h
  obtain ⟨w', hrun, ho, ht⟩ := h1.drop kstr Tryd.underlying51 (kof hs) ty
  refine ⟨w', hrun, ⟨_, ho, fun x => ?_⟩, ht.grown⟩
  by_cases e : s = x
  · subst e
    rw [atKey_del_same]
    have : Gr.has (S.filter fun x => !decide (x = s)) s = false := by simp [Gr.has]
    rw [this]
  · rw [atKey_del_other (fun h => lit_ne e h.symm), h2 x]
    have : Gr.has (S.filter fun x => !decide (x = s)) x = Gr.has S x := by
      rw [Bool.eq_iff_iff, Gr.has_iff, Gr.has_iff, List.mem_filter]
      simp only [Bool.not_eq_true', decide_eq_false_iff_not, and_iff_left_iff_imp]
      exact fun _ h => e h.symm
    rw [this]
end Ss
end Go.Proofs.YtoofflnaebkigaaDoor
