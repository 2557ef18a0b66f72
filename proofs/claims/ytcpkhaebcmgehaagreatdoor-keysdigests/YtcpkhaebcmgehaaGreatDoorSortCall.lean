/- A slice of the call's own behind a sort by a function: what its block holds; a sort of places is the list itself. No dump's numbers. -/
import Derived.Shelf.SlSortCmp.NoneTotal
import Derived.Sort.OwnSorted
namespace Go.Proofs.YtcpkhaebcmgehaaGreatDoor
open Go.RowKit Go.Sort Go.Shelf
set_option linter.unusedVariables false
section
variable {α : Type} [Inhabited α]
theorem holds_gen (enc : α → Value) {w : World} {g : Nat} {cur : Array Value} {e : TypeId} {is : List α} (hb : w.heap[g]? = some (.cells cur e (0, 0))) (ht : cur.toList.take is.length = is.map enc) : Holds enc w g 0 is.toArray := by
  intro j hj
  have hj' : j < is.length := by simpa using hj
  refine ⟨?_, by simp [World.frozen?, hb]⟩
  have h1 : (cur.toList.take is.length)[j]? = (is.map enc)[j]? := by rw [ht]
  rw [List.getElem?_take_of_lt hj'] at h1
  simp only [World.cell?, hb, Nat.zero_add]
  simp only [Option.isSome_none, Bool.false_eq_true, if_false]
  rw [← Array.getElem?_toList, h1]
  simp [hj']
theorem heap_gen (enc : α → Value) {w : World} {g n : Nat} {os : Array Obj} {cur : Array Value} {e : TypeId} {fr : Nat × Nat} (d : Array α) (hb : w.heap[g]? = some (.cells cur e fr)) :
    (grow (putRow enc (Sort.ahead w n) g 0 d) os).heap[g]? = some (.cells (putCells enc 0 d cur) e fr) := by
  have hg : g < w.heap.size := (Array.getElem?_eq_some_iff.1 hb).1
  rw [Go.Sort.heap_grow_old _ _ (by simpa using hg)]
  simp [putRow, mapBlock, Sort.ahead, Array.getElem?_modify, hb, onCells]
theorem grown_gen (enc : α → Value) {w : World} {g n : Nat} {os : Array Obj} (d : Array α) : w.grownBy (grow (putRow enc (Sort.ahead w n) g 0 d) os) (some g) := by
  refine ⟨rfl, rfl, rfl, by simp, fun k hk hne => ?_⟩
  rw [Go.Sort.heap_grow_old _ _ (by simpa using hk)]
  have : g ≠ k := fun e => hne (by rw [e])
  simp [putRow, mapBlock, Sort.ahead, Array.getElem?_modify, this]
theorem take_gen (enc : α → Value) (cur : Array Value) (ts : List α) (h : ts.length ≤ cur.size) : (putCells enc 0 ts.toArray cur).toList.take ts.length = ts.map enc := by
  apply List.ext_getElem?
  intro j
  by_cases hj : j < ts.length
  · rw [List.getElem?_take_of_lt hj, Array.getElem?_toList]
    simp [putCells, hj, show j < cur.size by omega]
  · rw [List.getElem?_take_eq_none (by omega), List.getElem?_eq_none (by simp; omega)]
theorem owns_gen (enc : α → Value) {w : World} {base g cap n : Nat} {e : TypeId} {os : Array Obj} {cur : Array Value} {ts : List α} (hbase : base ≤ g) (hb : w.heap[g]? = some (.cells cur e (0, 0)))
    (h1 : ts.length ≤ cap) (h2 : cap ≤ maxLen) (h3 : cur.size = cap * 1) :
    (grow (putRow enc (Sort.ahead w n) g 0 ts.toArray) os).ownsRow base e 1 (.slice (some ⟨g, 0, none⟩) ts.length cap) ts.length (ts.map enc) :=
  ⟨by simp, .inr ⟨g, cap, _, rfl, hbase, heap_gen enc _ hb, h1, h2, by simp [putCells, h3], by rw [Nat.mul_one]; exact take_gen enc cur ts (by omega)⟩⟩
end
/-- what a permutation of a list's image comes from -/
theorem perm_lift {α β : Type} {f : α → β} : ∀ {l : List β} {l' : List β}, l.Perm l' → ∀ a : List α, a.map f = l' → ∃ b : List α, b.map f = l ∧ b.Perm a := by
  intro l l' h
  have key : ∀ {l l' : List β}, l.Perm l' → ∀ a : List α, a.map f = l → ∃ b : List α, b.map f = l' ∧ b.Perm a := by
    intro l l' h
    induction h with
    | nil => intro a ha; exact ⟨a, ha, List.Perm.refl _⟩
    | cons x _ ih =>
      intro a ha
      obtain ⟨y, r, rfl, rfl, h2⟩ := List.map_eq_cons_iff.1 ha
      obtain ⟨b, hb, hp⟩ := ih r h2
      exact ⟨y :: b, by rw [List.map_cons, hb], hp.cons y⟩
    | swap x y l =>
      intro a ha
      obtain ⟨u, r, rfl, rfl, h2⟩ := List.map_eq_cons_iff.1 ha
      obtain ⟨v, s, rfl, rfl, h3⟩ := List.map_eq_cons_iff.1 h2
      exact ⟨v :: u :: s, by simp [h3], List.Perm.swap u v s⟩
    | trans _ _ ih1 ih2 =>
      intro a ha
      obtain ⟨b, hb, hp⟩ := ih1 a ha
      obtain ⟨c, hc, hq⟩ := ih2 b hb
      exact ⟨c, hc, hq.trans hp⟩
  exact key h.symm
/-- places sorted by what rises over them are the places in turn -/
theorem sort_places {n : Nat} (s : Fin n → Nat) (hs : ∀ i j : Fin n, i < j → s i < s j) (is : List (Fin n)) (hp : is.Perm (List.finRange n)) :
    is.mergeSort (fun x y => !decide (s y < s x)) = List.finRange n := by
  have hle : ∀ i j : Fin n, i ≤ j → s i ≤ s j := fun i j h => by
    rcases Nat.lt_or_ge i.1 j.1 with h1 | h1
    · exact Nat.le_of_lt (hs i j h1)
    · have : i = j := Fin.ext (Nat.le_antisymm h h1)
      rw [this]; exact Nat.le_refl _
  refine List.Perm.eq_of_pairwise (le := fun a b => (!decide (s b < s a)) = true) ?_ ?_ ?_ ((List.mergeSort_perm _ _).trans hp)
  · intro a b _ _ h1 h2
    simp at h1 h2
    rcases Nat.lt_trichotomy a.1 b.1 with h | h | h
    · have := hs a b h; omega
    · exact Fin.ext h
    · have := hs b a h; omega
  · refine List.pairwise_mergeSort ?_ ?_ _
    · intro a b c h1 h2; simp at h1 h2 ⊢; omega
    · intro a b; simp; omega
  · have h1 : (List.finRange n).Pairwise (fun a b => a < b) := by
      rw [List.pairwise_iff_getElem]
      intro i j hi hj hij
      simp only [List.getElem_finRange]
      exact hij
    exact h1.imp (fun {a b} h => by have := hs a b h; simp; omega)
theorem map_places {α β : Type} (l : List α) (f : α → β) : (List.finRange l.length).map (fun i => f l[i]) = l.map f := by
  apply List.ext_getElem
  · simp
  · intro i h1 h2
    simp
end Go.Proofs.YtcpkhaebcmgehaaGreatDoor
