/- Joined by mkmerged.py: FsSpec, FsMem, FsPathsB, FsCode, FsRightB. -/
import Derived.Test.YtmlaolmaopjhbaaGreatDoorMi02
import Derived.Test.YtmlaolmaopjhbaaGreatDoorMi13
import Derived.Test.YtmlaolmaopjhbaaGreatDoorMi15
import Derived.Lib.SlicesCompact
import Derived.Lib.CutLaws
import Derived.Test.YtmlaolmaopjhbaaGreatDoorMi03
import Derived.Shelf.GgClosure.Gives
import Derived.WalkKit
import Derived.Maps.OwnSet
import Derived.Maps.OwnOps
import Derived.Maps.Views
import Derived.Deep.Draws
import Derived.Test.YtmlaolmaopjhbaaGreatDoorMi16
import Derived.Test.YtmlaolmaopjhbaaGreatDoorMiKm
import Derived.BigQuiet
import Derived.Lib.IndexAny
import Derived.Sort.Walk0
import Derived.Laws.Cover1
/- FsSpec, what a claim needs of it (prune.py). -/
namespace Go.Proofs.YtmlaolmaopjhbaaGreatDoor
namespace Fs
set_option linter.unusedVariables false
abbrev B := List UInt8
def belowB (s p : B) : Option B := if (p ++ [47]) <+: s ∧ p.length + 1 < s.length then some (s.drop (p.length + 1)) else none
def under (l : List Fl) (p : B) : List Fl := l.filterMap fun f => (belowB (tl f.p) p).map fun r => ⟨bs r, f.d⟩
def get (l : List Fl) (p : B) : Option ByteArray := (l.find? fun f => decide (tl f.p = p)).map Fl.d
def head (s : B) : B := s.takeWhile fun c => decide (c ≠ 47)
def bulk (l : List Fl) : Nat := (l.map fun f => f.p.size + 1).sum
theorem bs_len (l : B) : (bs l).size = l.length := by show l.toArray.size = _; simp
theorem tl_len (s : ByteArray) : (tl s).length = s.size := by show s.data.toList.length = s.data.size; simp
theorem below_len {s p r : B} (h : belowB s p = some r) : r.length + p.length + 1 = s.length ∧ 0 < r.length := by
  unfold belowB at h
  split at h
  · injection h with h
    subst h
    rw [List.length_drop]; omega
  · cases h
theorem under_len (l : List Fl) (p : B) : (under l p).length ≤ l.length := List.length_filterMap_le _ _
def names (l : List Fl) : List B := Lib.compact ((l.map fun f => head (tl f.p)).mergeSort fun x y => decide (x ≤ y))
def ins (s : B) : List B → List B
  | [] => [s]
  | a :: l => if a < s then a :: ins s l else if a = s then a :: l else s :: a :: l
theorem lt_or {a b : B} : a < b ∨ a = b ∨ b < a := by
  by_cases h : a < b
  · exact .inl h
  · by_cases h2 : b < a
    · exact .inr (.inr h2)
    · exact .inr (.inl (List.le_antisymm (List.not_lt.1 h2) (List.not_lt.1 h)))
theorem le_lt {a b : B} (h : a ≤ b) (hn : a ≠ b) : a < b := by
  rcases lt_or (a := a) (b := b) with h1 | h1 | h1
  · exact h1
  · exact absurd h1 hn
  · exact absurd h1 (List.not_lt.2 h)
theorem lt_tr {a b c : B} (h : a < b) (k : b < c) : a < c := List.lt_trans h k
theorem rising_head {a b : B} {l : List B} (h : (a :: l).Pairwise (· < ·)) (hb : b ∈ a :: l) : a ≤ b := by
  rcases List.mem_cons.1 hb with rfl | hb
  · exact List.le_refl _
  · exact List.le_of_lt ((List.pairwise_cons.1 h).1 b hb)
theorem rising_eq : ∀ {l m : List B}, l.Pairwise (· < ·) → m.Pairwise (· < ·) → (∀ x, x ∈ l ↔ x ∈ m) → l = m
  | [], [], _, _, _ => rfl
  | [], b :: m, _, _, h => absurd ((h b).2 (by simp)) (by simp)
  | a :: l, [], _, _, h => absurd ((h a).1 (by simp)) (by simp)
  | a :: l, b :: m, h1, h2, h => by
    have e : a = b := List.le_antisymm (rising_head h1 ((h b).2 (by simp))) (rising_head h2 ((h a).1 (by simp)))
    subst e
    have h1' := List.pairwise_cons.1 h1
    have h2' := List.pairwise_cons.1 h2
    have : l = m := rising_eq h1'.2 h2'.2 fun x => by
      constructor
      · intro hx
        rcases List.mem_cons.1 ((h x).1 (List.mem_cons_of_mem _ hx)) with rfl | hm
        · exact absurd (h1'.1 _ hx) (List.lt_irrefl _)
        · exact hm
      · intro hx
        rcases List.mem_cons.1 ((h x).2 (List.mem_cons_of_mem _ hx)) with rfl | hm
        · exact absurd (h2'.1 _ hx) (List.lt_irrefl _)
        · exact hm
    rw [this]
theorem get_bang {l : List B} {k : Nat} (hk : k < l.length) : l.toArray[k]! = l[k] := by simp [hk]
theorem compact_upto {l : List B} (h : l.Pairwise (· ≤ ·)) : ∀ m, m ≤ l.length → (Lib.compactUpTo l.toArray m).Pairwise (· < ·) ∧ (∀ x ∈ Lib.compactUpTo l.toArray m, ∃ j, ∃ (hj : j < l.length), j < m ∧ l[j] = x) ∧ ∀ j (hj : j < l.length), j < m → l[j] ∈ Lib.compactUpTo l.toArray m
  | 0, _ => ⟨by simp [Lib.compactUpTo], fun x hx => by simp [Lib.compactUpTo] at hx, fun j _ hj => by omega⟩
  | m + 1, hm => by
    obtain ⟨h1, h2, h3⟩ := compact_upto h m (by omega)
    have hml : m < l.length := by omega
    rw [Lib.compactUpTo_succ]
    cases hk : Lib.keeps l.toArray m with
    | true =>
      rw [if_pos rfl, get_bang hml]
      refine ⟨?_, ?_, ?_⟩
      · rw [List.pairwise_append]
        refine ⟨h1, by simp, fun x hx y hy => ?_⟩
        obtain rfl := List.mem_singleton.1 hy
        obtain ⟨j, hj, hjm, rfl⟩ := h2 x hx
        have hne : l[m - 1]'(by omega) ≠ l[m] := by
          simp only [Lib.keeps, decide_eq_true_eq] at hk
          rw [get_bang hml, get_bang (show m - 1 < l.length by omega)] at hk
          rcases hk with hk | hk
          · omega
          · exact fun e => hk e.symm
        have h4 : l[m - 1]'(by omega) ≤ l[m] := List.pairwise_iff_getElem.1 h _ _ (by omega) hml (by omega)
        have h5 : l[j] ≤ l[m - 1]'(by omega) := by
          rcases Nat.lt_or_ge j (m - 1) with h6 | h6
          · exact List.pairwise_iff_getElem.1 h _ _ hj (by omega) h6
          · have : j = m - 1 := by omega
            subst this
            exact List.le_refl _
        exact le_lt (List.le_trans h5 h4) (fun e => hne (List.le_antisymm h4 (by rw [← e]; exact h5)))
      · intro x hx
        rcases List.mem_append.1 hx with hx | hx
        · obtain ⟨j, hj, hjm, e⟩ := h2 x hx
          exact ⟨j, hj, by omega, e⟩
        · exact ⟨m, hml, by omega, (List.mem_singleton.1 hx).symm⟩
      · intro j hj hjm
        rcases Nat.lt_or_ge j m with h6 | h6
        · exact List.mem_append_left _ (h3 j hj h6)
        · have : j = m := by omega
          subst this
          exact List.mem_append_right _ (List.mem_singleton.2 rfl)
    | false =>
      rw [if_neg (by simp), List.append_nil]
      refine ⟨h1, fun x hx => ?_, fun j hj hjm => ?_⟩
      · obtain ⟨j, hj, hjm, e⟩ := h2 x hx
        exact ⟨j, hj, by omega, e⟩
      · rcases Nat.lt_or_ge j m with h6 | h6
        · exact h3 j hj h6
        · have : j = m := by omega
          subst this
          have h7 : ¬ (j = 0 ∨ l.toArray[j]! ≠ l.toArray[j - 1]!) := by simpa only [Lib.keeps, decide_eq_false_iff_not] using hk
          rw [get_bang hj, get_bang (show j - 1 < l.length by omega)] at h7
          have h8 : l[j] = l[j - 1]'(by omega) := Classical.not_not.1 fun e => h7 (.inr e)
          rw [h8]
          exact h3 (j - 1) (by omega) (by have : j ≠ 0 := fun e => h7 (.inl e); omega)
theorem mem_ins {s x : B} : ∀ l : List B, x ∈ ins s l ↔ x = s ∨ x ∈ l
  | [] => by simp [ins]
  | a :: l => by
    have ih := mem_ins (s := s) (x := x) l
    rw [ins]
    split
    · rw [List.mem_cons, ih, List.mem_cons]
      exact ⟨fun h => by rcases h with h | h | h <;> simp [h], fun h => by rcases h with h | h | h <;> simp [h]⟩
    · split
      · rename_i e; subst e; simp
      · simp
theorem ins_rising {s : B} : ∀ {l : List B}, l.Pairwise (· < ·) → (ins s l).Pairwise (· < ·)
  | [], _ => by simp [ins]
  | a :: l, h => by
    have h' := List.pairwise_cons.1 h
    rw [ins]
    split
    · rename_i hs
      rw [List.pairwise_cons]
      refine ⟨fun y hy => ?_, ins_rising h'.2⟩
      rcases (mem_ins _).1 hy with rfl | hy
      · exact hs
      · exact h'.1 y hy
    · rename_i hs
      split
      · exact h
      · rename_i hn
        have hsa : s < a := le_lt (List.not_lt.1 hs) (fun e => hn e.symm)
        rw [List.pairwise_cons]
        refine ⟨fun y hy => ?_, h⟩
        rcases List.mem_cons.1 hy with rfl | hy
        · exact hsa
        · exact lt_tr hsa (h'.1 y hy)
def insAll (l : List B) (acc : List B) : List B := l.foldl (fun a s => ins s a) acc
theorem insAll_rising : ∀ (l : List B) {acc : List B}, acc.Pairwise (· < ·) → (insAll l acc).Pairwise (· < ·)
  | [], _, h => h
  | a :: l, _, h => insAll_rising l (ins_rising h)
theorem mem_insAll {x : B} : ∀ (l : List B) (acc : List B), x ∈ insAll l acc ↔ x ∈ l ∨ x ∈ acc
  | [], acc => by simp [insAll]
  | a :: l, acc => by
    have ih := mem_insAll (x := x) l (ins a acc)
    rw [show insAll (a :: l) acc = insAll l (ins a acc) from rfl, ih, mem_ins, List.mem_cons]
    exact ⟨fun h => by rcases h with h | h | h <;> simp [h], fun h => by rcases h with (h | h) | h <;> simp [h]⟩
theorem sorted_pair (l : List B) : (l.mergeSort fun x y => decide (x ≤ y)).Pairwise (· ≤ ·) := by
  have := List.pairwise_mergeSort (le := fun (x y : B) => decide (x ≤ y)) (fun a b c h1 h2 => by
    simp only [decide_eq_true_eq] at h1 h2 ⊢
    exact List.le_trans h1 h2) (fun a b => by simpa using List.le_total a b) l
  exact this.imp (by simp)
theorem compact_sorted (l : List B) : Lib.compact (l.mergeSort fun x y => decide (x ≤ y)) = insAll l [] := by
  obtain ⟨h1, h2, h3⟩ := compact_upto (sorted_pair l) _ (Nat.le_refl _)
  refine rising_eq h1 (insAll_rising l List.Pairwise.nil) fun x => ?_
  rw [mem_insAll, ← (List.mergeSort_perm l fun x y => decide (x ≤ y)).mem_iff]
  refine ⟨fun hx => ?_, fun hx => ?_⟩
  · obtain ⟨j, hj, _, rfl⟩ := h2 x hx
    exact .inl (List.getElem_mem hj)
  · rcases hx with hx | hx
    · obtain ⟨j, hj, rfl⟩ := List.mem_iff_getElem.1 hx
      exact h3 j hj hj
    · cases hx
theorem names_eq (l : List Fl) : names l = insAll (l.map fun f => head (tl f.p)) [] := compact_sorted _
structure En where
  n : B
  dir : Bool
  g : B
def kind (x : En) : B := if x.dir = true then [100] else [102]
def bytesE (l : List En) : B := l.flatMap fun x => Pk.list [x.n, kind x, x.g]
def dirF : Nat → List Fl → List En
  | 0, _ => []
  | k + 1, l => (names l).map fun n => match get l n with
    | some s => ⟨n, false, Blk.sum (tl s)⟩
    | none => ⟨n, true, Blk.sum (bytesE (dirF k (under l n)))⟩
def dir (l : List Fl) : List En := dirF (bulk l + 1) l
def at_ (l : List Fl) (p : B) : List Fl := if p = [] then l else under l p
theorem mem_names {l : List Fl} {n : B} : n ∈ names l ↔ ∃ f ∈ l, head (tl f.p) = n := by
  rw [names_eq, mem_insAll]; simp
end Fs
end Go.Proofs.YtmlaolmaopjhbaaGreatDoor
namespace Go.Proofs.YtmlaolmaopjhbaaGreatDoor.Fs
set_option linter.unusedVariables false
structure Small (l : List Fl) : Prop where
  len : l.length ≤ 200
  each : ∀ f ∈ l, f.p.size ≤ 1000 ∧ f.d.size ≤ 1000000
theorem mem_under {l : List Fl} {p : B} {f : Fl} (h : f ∈ under l p) : ∃ g ∈ l, ∃ r, belowB (tl g.p) p = some r ∧ f = ⟨bs r, g.d⟩ := by
  unfold under at h
  obtain ⟨g, hg, he⟩ := List.mem_filterMap.1 h
  cases e : belowB (tl g.p) p with
  | none => rw [e] at he; cases he
  | some r => rw [e] at he; injection he with he; exact ⟨g, hg, r, e, he.symm⟩
theorem Small.under {l : List Fl} (h : Small l) (p : B) : Small (under l p) := ⟨Nat.le_trans (under_len l p) h.len, fun f hf => by
  obtain ⟨g, hg, r, e, rfl⟩ := mem_under hf
  have h1 := below_len e
  have h2 := h.each g hg
  rw [tl_len] at h1
  refine ⟨?_, h2.2⟩
  show (bs r).size ≤ 1000
  rw [bs_len]; omega⟩
theorem Small.at_ {l : List Fl} (h : Small l) (p : B) : Small (at_ l p) := by
  unfold Fs.at_
  split
  · exact h
  · exact h.under p
theorem get_mem {l : List Fl} {p : B} {d : ByteArray} (h : get l p = some d) : ∃ f ∈ l, f.d = d := by
  unfold get at h
  cases e : l.find? (fun f => decide (tl f.p = p)) with
  | none => rw [e] at h; cases h
  | some f => rw [e] at h; injection h with h; exact ⟨f, List.mem_of_find?_eq_some e, h⟩
end Go.Proofs.YtmlaolmaopjhbaaGreatDoor.Fs
/- FsMem, what a claim needs of it (prune.py). -/
namespace Go.Proofs.YtmlaolmaopjhbaaGreatDoor.Fs
open Go.RowKit
set_option linter.unusedVariables false
set_option maxRecDepth 100000
def fc (l : List Fl) : List Value := l.flatMap fun f => [.string f.p, .string f.d]
def ec1 (x : En) : List Value := [.string (bs x.n), .bool x.dir, .string (bs x.g)]
def ec (l : List En) : List Value := l.flatMap ec1
abbrev Fls (w : World) (A : Option Addr) (l : List Fl) : Prop := Reads w w.heap.size 2 A l.length (fc l)
abbrev Ens (w : World) (A : Option Addr) (l : List En) : Prop := Reads w w.heap.size 3 A l.length (ec l)
theorem fc_at : ∀ {l : List Fl} {k : Nat} (hk : k < l.length), (fc l)[k * 2]? = some (.string l[k].p) ∧ (fc l)[k * 2 + 1]? = some (.string l[k].d)
  | [], k, hk => absurd hk (by simp)
  | f :: l, 0, _ => ⟨rfl, rfl⟩
  | f :: l, k + 1, hk => by
    have ih := fc_at (l := l) (k := k) (by simpa using hk)
    rw [show (k + 1) * 2 = k * 2 + 2 by omega, show k * 2 + 2 + 1 = k * 2 + 1 + 2 by omega]
    exact ih
theorem ec_at : ∀ {l : List En} {k : Nat} (hk : k < l.length), (ec l)[k * 3]? = some (.string (bs l[k].n)) ∧ (ec l)[k * 3 + 1]? = some (.bool l[k].dir) ∧ (ec l)[k * 3 + 2]? = some (.string (bs l[k].g))
  | [], k, hk => absurd hk (by simp)
  | f :: l, 0, _ => ⟨rfl, rfl, rfl⟩
  | f :: l, k + 1, hk => by
    have ih := ec_at (l := l) (k := k) (by simpa using hk)
    rw [show (k + 1) * 3 = k * 3 + 3 by omega, show k * 3 + 3 + 1 = k * 3 + 1 + 3 by omega, show k * 3 + 3 + 2 = k * 3 + 2 + 3 by omega]
    exact ih
theorem Fls.at_ {w : World} {B : Nat} {A : Option Addr} {l : List Fl} (h : Reads w B 2 A l.length (fc l)) {k : Nat} (hk : k < l.length) :
    ∃ ad, A = some ad ∧ ad.block < B ∧ w.cell? (ad.add (k * 2)) = some (.string l[k].p) ∧ w.cell? ⟨(ad.add (k * 2)).block, (ad.add (k * 2)).off + 1, none⟩ = some (.string l[k].d) := by
  obtain ⟨ad, e, hb, hc⟩ := h.2 (by omega)
  obtain ⟨h0, h1⟩ := fc_at hk
  refine ⟨ad, e, hb, hc _ _ h0, ?_⟩
  have := hc _ _ h1
  rw [← add_of_add] at this
  exact this
theorem Ens.at_ {w : World} {B : Nat} {A : Option Addr} {l : List En} (h : Reads w B 3 A l.length (ec l)) {k : Nat} (hk : k < l.length) :
    ∃ ad, A = some ad ∧ ad.block < B ∧ w.cell? (ad.add (k * 3)) = some (.string (bs l[k].n)) ∧ w.cell? ⟨(ad.add (k * 3)).block, (ad.add (k * 3)).off + 1, none⟩ = some (.bool l[k].dir) ∧ w.cell? ⟨(ad.add (k * 3)).block, (ad.add (k * 3)).off + 2, none⟩ = some (.string (bs l[k].g)) := by
  obtain ⟨ad, e, hb, hc⟩ := h.2 (by omega)
  obtain ⟨h0, h1, h2⟩ := ec_at hk
  refine ⟨ad, e, hb, hc _ _ h0, ?_, ?_⟩
  · have := hc _ _ h1
    rw [← add_of_add] at this
    exact this
  · have := hc _ _ h2
    rw [← add_of_add] at this
    exact this
def Env (w : World) : Prop := (∃ m, w.cell? ⟨6, 0, none⟩ = some (.int .i64 m)) ∧ Tab w
theorem cell_lt {w : World} {a : Addr} {v : Value} (h : w.cell? a = some v) : a.block < w.heap.size := by
  unfold World.cell? at h
  rcases Nat.lt_or_ge a.block w.heap.size with h1 | h1
  · exact h1
  · rw [Array.getElem?_eq_none h1] at h; cases h
theorem Env.below {w w' : World} (h : Env w) (hb : Below w.heap.size w w') : Env w' := by
  obtain ⟨⟨m, h1⟩, h2⟩ := h
  exact ⟨⟨m, (hb.cell (cell_lt h1)).trans h1⟩, h2.on hb⟩
end Go.Proofs.YtmlaolmaopjhbaaGreatDoor.Fs
namespace Go.Proofs.YtmlaolmaopjhbaaGreatDoor.Fs
open Go.RowKit
set_option linter.unusedVariables false
set_option maxRecDepth 100000
section
variable {α : Type}
def idx (p : α → Bool) (l : List α) : Int :=
  match l.findIdx? p with
  | some i => i
  | none => -1
def NoneTo (p : α → Bool) (l : List α) (k : Nat) : Prop := ∀ j (hj : j < l.length), j < k → p l[j] = false
theorem NoneTo.zero (p : α → Bool) (l : List α) : NoneTo p l 0 := fun j _ h => by omega
theorem NoneTo.next {p : α → Bool} {l : List α} {k : Nat} (hk : k < l.length) (h : NoneTo p l k) (hp : p l[k] = false) : NoneTo p l (k + 1) := fun j hj h1 => by
  rcases Nat.lt_or_ge j k with h2 | h2
  · exact h j hj h2
  · obtain rfl : j = k := by omega
    exact hp
theorem idx_hit {p : α → Bool} {l : List α} {k : Nat} (hk : k < l.length) (h : NoneTo p l k) (hp : p l[k] = true) : idx p l = k := by
  have : l.findIdx? p = some k := by
    rw [List.findIdx?_eq_some_iff_getElem]
    exact ⟨hk, hp, fun j hj => by rw [h j (by omega) hj]; simp⟩
  rw [idx, this]
theorem idx_miss {p : α → Bool} {l : List α} (h : NoneTo p l l.length) : idx p l = -1 := by
  have : l.findIdx? p = none := by
    rw [List.findIdx?_eq_none_iff]
    intro x hx
    obtain ⟨j, hj, rfl⟩ := List.mem_iff_getElem.1 hx
    exact h j hj hj
  rw [idx, this]
theorem idx_cases (p : α → Bool) (l : List α) : (idx p l = -1 ∧ l.find? p = none) ∨ ∃ (k : Nat) (hk : k < l.length), idx p l = k ∧ l.find? p = some l[k] := by
  rw [idx]
  cases e : l.findIdx? p with
  | none =>
    rw [List.findIdx?_eq_none_iff] at e
    exact .inl ⟨rfl, List.find?_eq_none.2 fun x hx => by simp [e x hx]⟩
  | some i =>
    obtain ⟨hi, hp, hn⟩ := List.findIdx?_eq_some_iff_getElem.1 e
    refine .inr ⟨i, hi, rfl, ?_⟩
    rw [List.find?_eq_some_iff_getElem]
    exact ⟨hp, i, hi, rfl, fun j hj => by simpa using hn j hj⟩
end
theorem indexF_any (g : Nat) (lb : Array Value) (eg : ∀ args w, (callFunc g args).run Tryz.prog w = .ok (.enter g args) w) (p : Fl → Bool) (A : Option Addr) (l : List Fl) (c : Nat) (w : World) (hr : Fls w A l) (hl : l.length ≤ 1000000000)
    (hp : ∀ f ∈ l, ∀ W, Below w.heap.size w W → Calls Tryz.prog g (#[.agg #[.string f.p, .string f.d]] ++ lb) W fun e w' => e = .returned (.bool (p f)) ∧ Below W.heap.size W w') :
    Calls Tryz.prog 262 #[.slice A l.length c, .func (.func g) #[] lb] w fun e w' => e = .returned (.int .i64 (idx p l)) ∧ Below w.heap.size w w' := by
  have RD : Hid (∀ W, Below w.heap.size w W → Reads W w.heap.size 2 A l.length (fc l)) := Lib.hid fun W hW => hr.below hW
  have PR := Lib.hid hp
  clear hr hp
  go_enter Tryz.func262, Tryz.ntmps262
  go_wp2_with (fail)
  go_loopw [8] (fun i W => ∃ k : Nat, i = .int .i64 k ∧ k ≤ l.length ∧ NoneTo p l k ∧ Below w.heap.size w W) (fun i _ => l.length - (intOf i).toNat)
  case atStart => exact ⟨0, rfl, by omega, NoneTo.zero _ _, Below.refl _ _⟩
  case round =>
    obtain ⟨k, rfl, hk, ha, hb⟩ := hrel
    have HA := Lib.hid ha
    clear ha
    by_cases hlt : k < l.length
    · have hkI : (k : Int) < (l.length : Int) := by omega
      obtain ⟨ad, rfl, had, c0, c1⟩ := Fls.at_ (RD.out _ hb) hlt
      have AF := Lib.hid (PR.out l[k] (List.getElem_mem hlt) _ hb)
      have NXT := Lib.hid (NoneTo.next hlt HA.out)
      have HIT := Lib.hid (idx_hit hlt HA.out)
      generalize l[k] = f at *
      cases hp : p f
      · rw [hp] at AF
        have F := Lib.hid (NXT.out hp)
        clear hp HIT
        go_wp2_with (go_at_fn g; ((with_reducible refine (AF.out).mono ?_); rintro e w1 ⟨rfl, hb1⟩))
        go_roundw
        case rel => exact ⟨k + 1, by go_num, by omega, F.out, hb.trans (hb1.mono hb.size)⟩
        case measure => simp [intOf]; omega
      · rw [hp] at AF
        have F := Lib.hid (HIT.out hp)
        clear hp NXT
        go_wp2_with (go_at_fn g; ((with_reducible refine (AF.out).mono ?_); rintro e w1 ⟨rfl, hb1⟩))
        go_ret
        exact ⟨Lg.ret_int F.out, hb.trans (hb1.mono hb.size)⟩
    · obtain rfl : k = l.length := by omega
      have F := Lib.hid (idx_miss HA.out)
      go_wp2_with (fail)
      go_ret
      exact ⟨Lg.ret_int F.out, hb⟩
end Go.Proofs.YtmlaolmaopjhbaaGreatDoor.Fs
namespace Go.Proofs.YtmlaolmaopjhbaaGreatDoor.Fs
open Go.RowKit Go.Maps
set_option linter.unusedVariables false
set_option maxRecDepth 100000
theorem kstr : Keyed Tryz.prog 9 := string_keyed Tryz.underlying9
theorem kof {s : ByteArray} (hs : s.size ≤ maxLen) : keyOf Tryz.prog 9 (.string s) = some (.string s.data.toList) := WideMaps.keyOf_string_mk Tryz.underlying9 hs
theorem klit_ne {a b : ByteArray} (h : a ≠ b) : (Lit.string a.data.toList) ≠ .string b.data.toList := by
  intro e
  injection e with e
  exact h (Lg.tl_inj e)
def KnAt (w : World) (m n : Nat) (f : B → Option ByteArray) : Prop :=
  ∃ D : DataW Unit, w.ownsMap Tryz.prog 9 (plainElem Tryz.prog 9) m n D ∧ ∀ s : ByteArray, Maps.has D (.string s.data.toList) = (f (tl s)).isSome ∧ D.atKey (.string s.data.toList) (.lit (.string [])) = .lit (.string (tl ((f (tl s)).getD ⟨#[]⟩)))
theorem KnAt.keep {w w' : World} {m n : Nat} {f : B → Option ByteArray} (h : KnAt w m n f) (hb : w'.heap[m]? = w.heap[m]?) : KnAt w' m n f := by
  obtain ⟨D, ⟨es, cl, h1, h2, h3, h4⟩, hs⟩ := h
  exact ⟨D, ⟨es, cl, hb.trans h1, h2, h3, h4⟩, hs⟩
theorem KnAt.lt {w : World} {m n : Nat} {f : B → Option ByteArray} (h : KnAt w m n f) : m < w.heap.size := by
  obtain ⟨D, h1, _⟩ := h
  exact h1.lt
theorem KnAt.later {w w' : World} {m n : Nat} {f : B → Option ByteArray} (h : KnAt w m n f) (hb : Below w.heap.size w w') : KnAt w' m n f := h.keep (hb.block m h.lt)
theorem KnAt.alloc {w : World} {m n : Nat} {f : B → Option ByteArray} (h : KnAt w m n f) (o : Obj) : KnAt (w.alloc o) m n f := h.keep (Below.heap_alloc _ _ _ h.lt)
theorem KnAt.setCell {w : World} {m n : Nat} {f : B → Option ByteArray} (h : KnAt w m n f) {p : Addr} (hp : m ≠ p.block) (u : Value) : KnAt (w.setCell p u) m n f := h.keep (Below.heap_setCell _ _ _ _ hp)
theorem KnAt.grown {w w' : World} {m n : Nat} {f : B → Option ByteArray} {row : Option Nat} (h : KnAt w m n f) (hg : w.grownBy w' row) (hne : some m ≠ row) : KnAt w' m n f := h.keep (hg.block m h.lt hne)
theorem KnAt.made (w : World) : KnAt (w.alloc (.map #[] 0)) w.heap.size 0 (fun _ => none) := ⟨.map [], World.ownsMap_made _ _ _ _, fun s => ⟨rfl, rfl⟩⟩
end Go.Proofs.YtmlaolmaopjhbaaGreatDoor.Fs
/- FsPathsB, what a claim needs of it (prune.py). -/
namespace Go.Proofs.YtmlaolmaopjhbaaGreatDoor.Fs
open Go.RowKit
set_option linter.unusedVariables false
set_option maxRecDepth 100000
def rest (s p : B) : B := Lib.trimPrefix s (p ++ [47])
theorem below_cases (s p : B) : (Lib.hasPrefix s (p ++ [47]) = false ∧ belowB s p = none) ∨ (Lib.hasPrefix s (p ++ [47]) = true ∧ rest s p = [] ∧ belowB s p = none) ∨ (Lib.hasPrefix s (p ++ [47]) = true ∧ rest s p ≠ [] ∧ belowB s p = some (rest s p)) := by
  cases h : Lib.hasPrefix s (p ++ [47]) with
  | false =>
    refine .inl ⟨rfl, ?_⟩
    unfold belowB
    rw [if_neg]
    intro hh
    have : Lib.hasPrefix s (p ++ [47]) = true := List.isPrefixOf_iff_prefix.2 hh.1
    rw [h] at this; cases this
  | true =>
    have hp : (p ++ [47]) <+: s := List.isPrefixOf_iff_prefix.1 h
    have hr : rest s p = s.drop (p.length + 1) := by
      unfold rest Lib.trimPrefix
      rw [if_pos h]; simp
    have hl := hp.length_le
    simp only [List.length_append, List.length_singleton] at hl
    by_cases h1 : p.length + 1 < s.length
    · refine .inr (.inr ⟨rfl, ?_, ?_⟩)
      · rw [hr]
        intro e
        have := congrArg List.length e
        simp at this
        omega
      · unfold belowB
        rw [if_pos ⟨hp, h1⟩, hr]
    · refine .inr (.inl ⟨rfl, ?_, ?_⟩)
      · rw [hr]
        exact List.drop_eq_nil_of_le (by omega)
      · unfold belowB
        rw [if_neg (fun hh => h1 hh.2)]
theorem below_raw (s p : ByteArray) (hp : p.size ≤ 1000000000) (w : World) (r : B) (h : Bool) (CP : Hid (Calls Tryz.prog 292 #[.string s, .string (p ++ ⟨#[47]⟩)] w fun e w' => e = .returned (.tuple #[.string (bs r), .bool h]) ∧ w = w')) :
    Calls Tryz.prog 263 #[.string s, .string p] w fun e w' => e = .returned (.tuple #[.string (bs r), .bool (h && !r.isEmpty)]) ∧ w = w' := by
  cases h
  · go_enter Tryz.func263, Tryz.ntmps263
    go_wp2_with (go_at_call 292; ((with_reducible refine (CP.out).mono ?_); rintro e w1 ⟨rfl, rfl⟩))
    go_ret2
    exact ⟨rfl, rfl⟩
  · by_cases hr : r = []
    · subst hr
      go_enter Tryz.func263, Tryz.ntmps263
      go_wp2_with (go_at_call 292; ((with_reducible refine (CP.out).mono ?_); rintro e w1 ⟨rfl, rfl⟩; rw [bs_nil]))
      go_ret2
      exact ⟨rfl, rfl⟩
    · have g := bs_ne hr
      have HE : Hid (r.isEmpty = false) := Lib.hid (by simpa using hr)
      clear hr
      go_enter Tryz.func263, Tryz.ntmps263
      go_wp2_with (go_at_call 292; ((with_reducible refine (CP.out).mono ?_); rintro e w1 ⟨rfl, rfl⟩))
      go_ret2
      exact ⟨by rw [HE.out]; rfl, rfl⟩
theorem cut_any (s q : ByteArray) (p : B) (e : q.data.toList = p) (w : World) :
    Calls Tryz.prog 292 #[.string s, .string q] w fun e w' => e = .returned (.tuple #[.string (bs (Lib.trimPrefix (tl s) p)), .bool (Lib.hasPrefix (tl s) p)]) ∧ w = w' := by
  subst e
  refine (Tryz.strings_CutPrefix s q w).mono ?_
  rintro e w' ⟨h1, h2⟩
  exact ⟨h1, h2.symm⟩
theorem below_any (s p : ByteArray) (hp : p.size ≤ 1000000000) (w : World) :
    Calls Tryz.prog 263 #[.string s, .string p] w fun e w' => e = .returned (.tuple #[.string (bs (rest (tl s) (tl p))), .bool (belowB (tl s) (tl p)).isSome]) ∧ w = w' := by
  have CP := Lib.hid (cut_any s (p ++ ⟨#[47]⟩) (tl p ++ [47]) (by rw [ByteArray.data_append]; simp) w)
  have h := below_raw s p hp w (rest (tl s) (tl p)) _ CP
  have e : (Lib.hasPrefix (tl s) (tl p ++ [47]) && !(rest (tl s) (tl p)).isEmpty) = (belowB (tl s) (tl p)).isSome := by
    rcases below_cases (tl s) (tl p) with ⟨h1, h2⟩ | ⟨h1, h2, h3⟩ | ⟨h1, h2, h3⟩
    · rw [h1, h2]; rfl
    · rw [h1, h2, h3]; rfl
    · rw [h1, h3]; simpa using h2
  rw [e] at h
  exact h
end Go.Proofs.YtmlaolmaopjhbaaGreatDoor.Fs
/- FsCode, what a claim needs of it (prune.py). -/
namespace Go.Proofs.YtmlaolmaopjhbaaGreatDoor.Fs
set_option linter.unusedVariables false
def rightAt (l : List En) (i : Nat) (h : i < l.length) : Prop := Lg.pathOk l[i].n = true ∧ (47 : UInt8) ∉ l[i].n ∧ l[i].g.length = 32 ∧ (0 < i → (l[i - 1]'(by omega)).n < l[i].n)
def Right (l : List En) : Prop := ∀ i (h : i < l.length), rightAt l i h
noncomputable def rightB (l : List En) : Bool := @decide (Right l) (Classical.propDecidable _)
def left (r : Pk.Rd) : Nat := if r.bad = 0 then r.rest.length else 0
end Go.Proofs.YtmlaolmaopjhbaaGreatDoor.Fs
namespace Go.Proofs.YtmlaolmaopjhbaaGreatDoor.Fs
set_option linter.unusedVariables false
def badF (f : Fl) : Option Int := if Lg.pathOk (tl f.p) = false then some 13 else if 2048 < f.d.size then some 15 else none
def Twice (l : List Fl) : Prop := (∃ i, ∃ (h : i < l.length), 0 < i ∧ ¬ tl (l[i - 1]'(by omega)).p < tl l[i].p) ∨ ∃ i, ∃ (h : i < l.length), ∃ k, ∃ (hk : k < l.length), (belowB (tl l[i].p) (tl l[k].p)).isSome = true
noncomputable def checkE (l : List Fl) : Int :=
  match l.findSome? badF with
  | some c => c
  | none => if 32 < l.length then 15 else @ite _ (Twice l) (Classical.propDecidable _) 16 0
theorem check_first {l : List Fl} {k : Nat} {c : Int} (hk : k < l.length) (h : ∀ j (hj : j < l.length), j < k → badF l[j] = none) (h2 : badF l[k] = some c) : checkE l = c := by
  have : l.findSome? badF = some c := by
    induction l generalizing k with
    | nil => simp at hk
    | cons a l ih =>
      cases k with
      | zero => rw [List.findSome?_cons, show badF a = some c from h2]
      | succ k =>
        rw [List.findSome?_cons, show badF a = none from h 0 (by simp) (by omega)]
        exact ih (k := k) (by simpa using hk) (fun j hj hjk => h (j + 1) (by simpa using hj) (by omega)) h2
  unfold checkE
  rw [this]
theorem find_none {l : List Fl} (h : ∀ j (hj : j < l.length), j < l.length → badF l[j] = none) : l.findSome? badF = none := List.findSome?_eq_none_iff.2 fun f hf => by
  obtain ⟨j, hj, rfl⟩ := List.mem_iff_getElem.1 hf
  exact h j hj hj
theorem check_many {l : List Fl} (h : ∀ j (hj : j < l.length), j < l.length → badF l[j] = none) (h2 : 32 < l.length) : checkE l = 15 := by
  unfold checkE
  rw [find_none h]
  exact if_pos h2
theorem check_twice {l : List Fl} (h : ∀ j (hj : j < l.length), j < l.length → badF l[j] = none) (h2 : ¬ 32 < l.length) (h3 : Twice l) : checkE l = 16 := by
  unfold checkE
  rw [find_none h]
  simp only
  rw [if_neg h2, if_pos h3]
theorem check_good {l : List Fl} (h : ∀ j (hj : j < l.length), j < l.length → badF l[j] = none) (h2 : ¬ 32 < l.length) (h3 : ¬ Twice l) : checkE l = 0 := by
  unfold checkE
  rw [find_none h]
  simp only
  rw [if_neg h2, if_neg h3]
end Go.Proofs.YtmlaolmaopjhbaaGreatDoor.Fs
namespace Go.Proofs.YtmlaolmaopjhbaaGreatDoor.Fs
set_option linter.unusedVariables false
set_option maxRecDepth 100000
noncomputable def firstE (l : List Fl) : List B := if rightB (dir l) = true then [bytesE (dir l)] else []
end Go.Proofs.YtmlaolmaopjhbaaGreatDoor.Fs
/- FsRightB, what a claim needs of it (prune.py). -/
namespace Go.Proofs.YtmlaolmaopjhbaaGreatDoor.Fs
open Go.RowKit
set_option linter.unusedVariables false
set_option maxRecDepth 100000
theorem lt_op {a b : ByteArray} (h : tl a < tl b) : Op.bytesLess a.toList b.toList = true := by
  rw [Lib.toList_data, Lib.toList_data, bytesLess_eq]; exact decide_eq_true h
theorem nlt_op {a b : ByteArray} (h : ¬ tl a < tl b) : Op.bytesLess a.toList b.toList = false := by
  rw [Lib.toList_data, Lib.toList_data, bytesLess_eq]; exact decide_eq_false h
theorem pathE_yes {s : B} (h : Lg.pathOk s = true) : Lg.pathE s = 0 := by unfold Lg.pathE; rw [if_pos h]
theorem pathE_not {s : B} (h : Lg.pathOk s = false) : Lg.pathE s = 13 := by unfold Lg.pathE; rw [if_neg (by simp [h])]
end Go.Proofs.YtmlaolmaopjhbaaGreatDoor.Fs
