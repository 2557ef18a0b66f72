/- Joined by mkmerged.py: FsSpec, FsMem. -/
import Derived.Test.YtlndnpfjneeeeaaGreatDoorMh09
import Derived.Test.YtlndnpfjneeeeaaGreatDoorMh04
import Derived.Lib.SlicesCompact
import Derived.Lib.CutLaws
import Derived.Test.YtlndnpfjneeeeaaGreatDoorMh03
import Derived.Shelf.GgClosure.Gives
import Derived.WalkKit
import Derived.Maps.OwnSet
import Derived.Maps.OwnOps
import Derived.Maps.Views
import Derived.Deep.Draws
/- FsSpec, what a claim needs of it (prune.py). -/
namespace Go.Proofs.YtlndnpfjneeeeaaGreatDoor
namespace Fs
set_option linter.unusedVariables false
abbrev B := List UInt8
def belowB (s p : B) : Option B := if (p ++ [47]) <+: s ∧ p.length + 1 < s.length then some (s.drop (p.length + 1)) else none
def under (l : List Fl) (p : B) : List Fl := l.filterMap fun f => (belowB (tl f.p) p).map fun r => ⟨bs r, f.d⟩
def get (l : List Fl) (p : B) : Option ByteArray := (l.find? fun f => decide (tl f.p = p)).map Fl.d
def head (s : B) : B := s.takeWhile fun c => decide (c ≠ 47)
def bulk (l : List Fl) : Nat := (l.map fun f => f.p.size + 1).sum
theorem bs_len (l : B) : (bs l).size = l.length := by show l.toArray.size = _; simp
theorem tl_len (s : ByteArray) : (tl s).length = s.size := by show s.data.toList.length = s.data.size; simp
theorem bulk_cons (f : Fl) (l : List Fl) : bulk (f :: l) = (f.p.size + 1) + bulk l := by simp [bulk]
theorem under_cons (f : Fl) (l : List Fl) (p : B) : under (f :: l) p = match belowB (tl f.p) p with
    | some r => ⟨bs r, f.d⟩ :: under l p
    | none => under l p := by
  unfold under
  rw [List.filterMap_cons]
  cases belowB (tl f.p) p <;> rfl
theorem below_len {s p r : B} (h : belowB s p = some r) : r.length + p.length + 1 = s.length ∧ 0 < r.length := by
  unfold belowB at h
  split at h
  · injection h with h
    subst h
    rw [List.length_drop]; omega
  · cases h
theorem bulk_under (p : B) : ∀ l : List Fl, bulk (under l p) ≤ bulk l
  | [] => by simp [under, bulk]
  | f :: l => by
    have ih := bulk_under p l
    rw [under_cons, bulk_cons]
    cases e : belowB (tl f.p) p with
    | none => simp only; omega
    | some r =>
      simp only
      rw [bulk_cons, bs_len]
      have := below_len e
      rw [tl_len] at this; omega
theorem bulk_under_lt (p : B) : ∀ {l : List Fl}, l ≠ [] → bulk (under l p) < bulk l
  | [], h => absurd rfl h
  | f :: l, _ => by
    have ih := bulk_under p l
    rw [under_cons, bulk_cons]
    cases e : belowB (tl f.p) p with
    | none => simp only; omega
    | some r =>
      simp only
      rw [bulk_cons, bs_len]
      have := below_len e
      rw [tl_len] at this; omega
theorem under_len (l : List Fl) (p : B) : (under l p).length ≤ l.length := List.length_filterMap_le _ _
def names (l : List Fl) : List B := Lib.compact ((l.map fun f => head (tl f.p)).mergeSort fun x y => decide (x ≤ y))
def ins (s : B) : List B → List B
  | [] => [s]
  | a :: l => if a < s then a :: ins s l else if a = s then a :: l else s :: a :: l
theorem lt_or {a b : B} : a < b ∨ a = b ∨ b < a := by
  by_cases h : a < b
  · exact .inl h
  · by_cases h2 : b < a
    · exact .inr (.inr h2)
    · exact .inr (.inl (List.le_antisymm (List.not_lt.1 h2) (List.not_lt.1 h)))
theorem le_lt {a b : B} (h : a ≤ b) (hn : a ≠ b) : a < b := by
  rcases lt_or (a := a) (b := b) with h1 | h1 | h1
  · exact h1
  · exact absurd h1 hn
  · exact absurd h1 (List.not_lt.2 h)
theorem lt_tr {a b c : B} (h : a < b) (k : b < c) : a < c := List.lt_trans h k
theorem rising_head {a b : B} {l : List B} (h : (a :: l).Pairwise (· < ·)) (hb : b ∈ a :: l) : a ≤ b := by
  rcases List.mem_cons.1 hb with rfl | hb
  · exact List.le_refl _
  · exact List.le_of_lt ((List.pairwise_cons.1 h).1 b hb)
theorem rising_eq : ∀ {l m : List B}, l.Pairwise (· < ·) → m.Pairwise (· < ·) → (∀ x, x ∈ l ↔ x ∈ m) → l = m
  | [], [], _, _, _ => rfl
  | [], b :: m, _, _, h => absurd ((h b).2 (by simp)) (by simp)
  | a :: l, [], _, _, h => absurd ((h a).1 (by simp)) (by simp)
  | a :: l, b :: m, h1, h2, h => by
    have e : a = b := List.le_antisymm (rising_head h1 ((h b).2 (by simp))) (rising_head h2 ((h a).1 (by simp)))
    subst e
    have h1' := List.pairwise_cons.1 h1
    have h2' := List.pairwise_cons.1 h2
    have : l = m := rising_eq h1'.2 h2'.2 fun x => by
      constructor
      · intro hx
        rcases List.mem_cons.1 ((h x).1 (List.mem_cons_of_mem _ hx)) with rfl | hm
        · exact absurd (h1'.1 _ hx) (List.lt_irrefl _)
        · exact hm
      · intro hx
        rcases List.mem_cons.1 ((h x).2 (List.mem_cons_of_mem _ hx)) with rfl | hm
        · exact absurd (h2'.1 _ hx) (List.lt_irrefl _)
        · exact hm
    rw [this]
theorem get_bang {l : List B} {k : Nat} (hk : k < l.length) : l.toArray[k]! = l[k] := by simp [hk]
theorem compact_upto {l : List B} (h : l.Pairwise (· ≤ ·)) : ∀ m, m ≤ l.length → (Lib.compactUpTo l.toArray m).Pairwise (· < ·) ∧ (∀ x ∈ Lib.compactUpTo l.toArray m, ∃ j, ∃ (hj : j < l.length), j < m ∧ l[j] = x) ∧ ∀ j (hj : j < l.length), j < m → l[j] ∈ Lib.compactUpTo l.toArray m
  | 0, _ => ⟨by simp [Lib.compactUpTo], fun x hx => by simp [Lib.compactUpTo] at hx, fun j _ hj => by omega⟩
  | m + 1, hm => by
    obtain ⟨h1, h2, h3⟩ := compact_upto h m (by omega)
    have hml : m < l.length := by omega
    rw [Lib.compactUpTo_succ]
    cases hk : Lib.keeps l.toArray m with
    | true =>
      rw [if_pos rfl, get_bang hml]
      refine ⟨?_, ?_, ?_⟩
      · rw [List.pairwise_append]
        refine ⟨h1, by simp, fun x hx y hy => ?_⟩
        obtain rfl := List.mem_singleton.1 hy
        obtain ⟨j, hj, hjm, rfl⟩ := h2 x hx
        have hne : l[m - 1]'(by omega) ≠ l[m] := by
          simp only [Lib.keeps, decide_eq_true_eq] at hk
          rw [get_bang hml, get_bang (show m - 1 < l.length by omega)] at hk
          rcases hk with hk | hk
          · omega
          · exact fun e => hk e.symm
        have h4 : l[m - 1]'(by omega) ≤ l[m] := List.pairwise_iff_getElem.1 h _ _ (by omega) hml (by omega)
        have h5 : l[j] ≤ l[m - 1]'(by omega) := by
          rcases Nat.lt_or_ge j (m - 1) with h6 | h6
          · exact List.pairwise_iff_getElem.1 h _ _ hj (by omega) h6
          · have : j = m - 1 := by omega
            subst this
            exact List.le_refl _
        exact le_lt (List.le_trans h5 h4) (fun e => hne (List.le_antisymm h4 (by rw [← e]; exact h5)))
      · intro x hx
        rcases List.mem_append.1 hx with hx | hx
        · obtain ⟨j, hj, hjm, e⟩ := h2 x hx
          exact ⟨j, hj, by omega, e⟩
        · exact ⟨m, hml, by omega, (List.mem_singleton.1 hx).symm⟩
      · intro j hj hjm
        rcases Nat.lt_or_ge j m with h6 | h6
        · exact List.mem_append_left _ (h3 j hj h6)
        · have : j = m := by omega
          subst this
          exact List.mem_append_right _ (List.mem_singleton.2 rfl)
    | false =>
      rw [if_neg (by simp), List.append_nil]
      refine ⟨h1, fun x hx => ?_, fun j hj hjm => ?_⟩
      · obtain ⟨j, hj, hjm, e⟩ := h2 x hx
        exact ⟨j, hj, by omega, e⟩
      · rcases Nat.lt_or_ge j m with h6 | h6
        · exact h3 j hj h6
        · have : j = m := by omega
          subst this
          have h7 : ¬ (j = 0 ∨ l.toArray[j]! ≠ l.toArray[j - 1]!) := by simpa only [Lib.keeps, decide_eq_false_iff_not] using hk
          rw [get_bang hj, get_bang (show j - 1 < l.length by omega)] at h7
          have h8 : l[j] = l[j - 1]'(by omega) := Classical.not_not.1 fun e => h7 (.inr e)
          rw [h8]
          exact h3 (j - 1) (by omega) (by have : j ≠ 0 := fun e => h7 (.inl e); omega)
theorem mem_ins {s x : B} : ∀ l : List B, x ∈ ins s l ↔ x = s ∨ x ∈ l
  | [] => by simp [ins]
  | a :: l => by
    have ih := mem_ins (s := s) (x := x) l
    rw [ins]
    split
    · rw [List.mem_cons, ih, List.mem_cons]
      exact ⟨fun h => by rcases h with h | h | h <;> simp [h], fun h => by rcases h with h | h | h <;> simp [h]⟩
    · split
      · rename_i e; subst e; simp
      · simp
theorem ins_rising {s : B} : ∀ {l : List B}, l.Pairwise (· < ·) → (ins s l).Pairwise (· < ·)
  | [], _ => by simp [ins]
  | a :: l, h => by
    have h' := List.pairwise_cons.1 h
    rw [ins]
    split
    · rename_i hs
      rw [List.pairwise_cons]
      refine ⟨fun y hy => ?_, ins_rising h'.2⟩
      rcases (mem_ins _).1 hy with rfl | hy
      · exact hs
      · exact h'.1 y hy
    · rename_i hs
      split
      · exact h
      · rename_i hn
        have hsa : s < a := le_lt (List.not_lt.1 hs) (fun e => hn e.symm)
        rw [List.pairwise_cons]
        refine ⟨fun y hy => ?_, h⟩
        rcases List.mem_cons.1 hy with rfl | hy
        · exact hsa
        · exact lt_tr hsa (h'.1 y hy)
def insAll (l : List B) (acc : List B) : List B := l.foldl (fun a s => ins s a) acc
theorem insAll_rising : ∀ (l : List B) {acc : List B}, acc.Pairwise (· < ·) → (insAll l acc).Pairwise (· < ·)
  | [], _, h => h
  | a :: l, _, h => insAll_rising l (ins_rising h)
theorem mem_insAll {x : B} : ∀ (l : List B) (acc : List B), x ∈ insAll l acc ↔ x ∈ l ∨ x ∈ acc
  | [], acc => by simp [insAll]
  | a :: l, acc => by
    have ih := mem_insAll (x := x) l (ins a acc)
    rw [show insAll (a :: l) acc = insAll l (ins a acc) from rfl, ih, mem_ins, List.mem_cons]
    exact ⟨fun h => by rcases h with h | h | h <;> simp [h], fun h => by rcases h with (h | h) | h <;> simp [h]⟩
theorem sorted_pair (l : List B) : (l.mergeSort fun x y => decide (x ≤ y)).Pairwise (· ≤ ·) := by
  have := List.pairwise_mergeSort (le := fun (x y : B) => decide (x ≤ y)) (fun a b c h1 h2 => by
    simp only [decide_eq_true_eq] at h1 h2 ⊢
    exact List.le_trans h1 h2) (fun a b => by simpa using List.le_total a b) l
  exact this.imp (by simp)
theorem compact_sorted (l : List B) : Lib.compact (l.mergeSort fun x y => decide (x ≤ y)) = insAll l [] := by
  obtain ⟨h1, h2, h3⟩ := compact_upto (sorted_pair l) _ (Nat.le_refl _)
  refine rising_eq h1 (insAll_rising l List.Pairwise.nil) fun x => ?_
  rw [mem_insAll, ← (List.mergeSort_perm l fun x y => decide (x ≤ y)).mem_iff]
  refine ⟨fun hx => ?_, fun hx => ?_⟩
  · obtain ⟨j, hj, _, rfl⟩ := h2 x hx
    exact .inl (List.getElem_mem hj)
  · rcases hx with hx | hx
    · obtain ⟨j, hj, rfl⟩ := List.mem_iff_getElem.1 hx
      exact h3 j hj hj
    · cases hx
theorem cut_head : ∀ s : B, (Lib.cut s [47]).1 = head s
  | [] => rfl
  | b :: l => by
    have ih := cut_head l
    unfold Lib.cut at ih ⊢
    by_cases hb : b = 47
    · subst hb
      have e : Lib.index (47 :: l) [47] = 0 := by simp [Lib.index, List.isPrefixOf]
      rw [e]; rfl
    · have e : Lib.index (b :: l) [47] = if Lib.index l [47] == -1 then -1 else Lib.index l [47] + 1 := by
        rw [Lib.index]
        have : ([47] : B).isPrefixOf (b :: l) = false := by simp [List.isPrefixOf]; exact fun h => hb h.symm
        rw [this]; rfl
      have eh : head (b :: l) = b :: head l := by simp [head, hb]
      rw [eh, e]
      have hge := Lib.index_ge l [47]
      by_cases hm : Lib.index l [47] = -1
      · rw [hm] at ih ⊢
        simp at ih ⊢
        exact ih
      · rw [if_pos (by omega)] at ih
        have e2 : (if (Lib.index l [47] == -1) = true then (-1 : Int) else Lib.index l [47] + 1) = Lib.index l [47] + 1 := if_neg (by simpa using hm)
        rw [e2, if_pos (by omega)]
        simp only at ih ⊢
        rw [← ih, show (Lib.index l [47] + 1).toNat = (Lib.index l [47]).toNat + 1 by omega, List.take_succ_cons]
theorem names_eq (l : List Fl) : names l = insAll (l.map fun f => head (tl f.p)) [] := compact_sorted _
structure En where
  n : B
  dir : Bool
  g : B
def kind (x : En) : B := if x.dir = true then [100] else [102]
def bytesE (l : List En) : B := l.flatMap fun x => Pk.list [x.n, kind x, x.g]
def dirF : Nat → List Fl → List En
  | 0, _ => []
  | k + 1, l => (names l).map fun n => match get l n with
    | some s => ⟨n, false, Blk.sum (tl s)⟩
    | none => ⟨n, true, Blk.sum (bytesE (dirF k (under l n)))⟩
def dir (l : List Fl) : List En := dirF (bulk l + 1) l
def digest (l : List Fl) : B := Blk.sum (bytesE (dir l))
theorem names_nil : names [] = [] := by rw [names_eq]; rfl
theorem dirF_more : ∀ (k j : Nat) (l : List Fl), bulk l < k → bulk l < j → dirF k l = dirF j l
  | 0, j, l, h, _ => absurd h (by omega)
  | k + 1, 0, l, _, h => absurd h (by omega)
  | k + 1, j + 1, l, h1, h2 => by
    rw [dirF, dirF]
    by_cases hl : l = []
    · subst hl; rw [names_nil, List.map_nil, List.map_nil]
    · refine List.map_congr_left fun n _ => ?_
      cases get l n with
      | some s => rfl
      | none =>
        have := bulk_under_lt n hl
        simp only
        rw [dirF_more k j (under l n) (by omega) (by omega)]
theorem dir_eq (l : List Fl) : dir l = (names l).map fun n => match get l n with
    | some s => ⟨n, false, Blk.sum (tl s)⟩
    | none => ⟨n, true, digest (under l n)⟩ := by
  rw [dir, dirF]
  by_cases hl : l = []
  · subst hl; rw [names_nil, List.map_nil, List.map_nil]
  · refine List.map_congr_left fun n _ => ?_
    cases get l n with
    | some s => rfl
    | none =>
      have := bulk_under_lt n hl
      simp only [digest, dir]
      rw [dirF_more (bulk l) (bulk (under l n) + 1) (under l n) this (by omega)]
def entry (l : List Fl) (n : B) : En := match get l n with
    | some s => ⟨n, false, Blk.sum (tl s)⟩
    | none => ⟨n, true, digest (under l n)⟩
theorem dir_map (l : List Fl) : dir l = (names l).map (entry l) := dir_eq l
def at_ (l : List Fl) (p : B) : List Fl := if p = [] then l else under l p
theorem insAll_len : ∀ (l acc : List B), (insAll l acc).length ≤ l.length + acc.length
  | [], acc => by simp [insAll]
  | a :: l, acc => by
    have ih := insAll_len l (ins a acc)
    have : ∀ acc : List B, (ins a acc).length ≤ acc.length + 1 := by
      intro acc
      induction acc with
      | nil => simp [ins]
      | cons b m ih2 =>
        rw [ins]
        split
        · simp; exact ih2
        · split <;> simp
    have h2 := this acc
    rw [show insAll (a :: l) acc = insAll l (ins a acc) from rfl, List.length_cons]; omega
theorem names_len (l : List Fl) : (names l).length ≤ l.length := by
  rw [names_eq]
  have := insAll_len (l.map fun f => head (tl f.p)) []
  simpa using this
theorem head_len (s : B) : (head s).length ≤ s.length := (List.takeWhile_sublist _).length_le
theorem mem_names {l : List Fl} {n : B} : n ∈ names l ↔ ∃ f ∈ l, head (tl f.p) = n := by
  rw [names_eq, mem_insAll]; simp
end Fs
end Go.Proofs.YtlndnpfjneeeeaaGreatDoor
namespace Go.Proofs.YtlndnpfjneeeeaaGreatDoor.Fs
set_option linter.unusedVariables false
def upto (l : List Fl) (p : B) (k : Nat) : List Fl := under (l.take k) p
theorem upto_all (l : List Fl) (p : B) : upto l p l.length = under l p := by rw [upto, List.take_length]
theorem upto_len (l : List Fl) (p : B) (k : Nat) : (upto l p k).length ≤ k := Nat.le_trans (under_len _ _) (by simp; omega)
theorem under_append (a b : List Fl) (p : B) : under (a ++ b) p = under a p ++ under b p := List.filterMap_append
theorem upto_hit {l : List Fl} {p r : B} {k : Nat} (hk : k < l.length) (h : belowB (tl l[k].p) p = some r) : upto l p (k + 1) = upto l p k ++ [⟨bs r, l[k].d⟩] := by
  rw [upto, List.take_succ_eq_append_getElem hk, under_append, under_cons, h]; rfl
theorem upto_miss {l : List Fl} {p : B} {k : Nat} (hk : k < l.length) (h : belowB (tl l[k].p) p = none) : upto l p (k + 1) = upto l p k := by
  rw [upto, List.take_succ_eq_append_getElem hk, under_append, under_cons, h]
  exact List.append_nil _
structure Small (l : List Fl) : Prop where
  len : l.length ≤ 200
  each : ∀ f ∈ l, f.p.size ≤ 1000 ∧ f.d.size ≤ 1000000
theorem mem_under {l : List Fl} {p : B} {f : Fl} (h : f ∈ under l p) : ∃ g ∈ l, ∃ r, belowB (tl g.p) p = some r ∧ f = ⟨bs r, g.d⟩ := by
  unfold under at h
  obtain ⟨g, hg, he⟩ := List.mem_filterMap.1 h
  cases e : belowB (tl g.p) p with
  | none => rw [e] at he; cases he
  | some r => rw [e] at he; injection he with he; exact ⟨g, hg, r, e, he.symm⟩
theorem Small.under {l : List Fl} (h : Small l) (p : B) : Small (under l p) := ⟨Nat.le_trans (under_len l p) h.len, fun f hf => by
  obtain ⟨g, hg, r, e, rfl⟩ := mem_under hf
  have h1 := below_len e
  have h2 := h.each g hg
  rw [tl_len] at h1
  refine ⟨?_, h2.2⟩
  show (bs r).size ≤ 1000
  rw [bs_len]; omega⟩
theorem Small.at_ {l : List Fl} (h : Small l) (p : B) : Small (at_ l p) := by
  unfold Fs.at_
  split
  · exact h
  · exact h.under p
theorem Small.upto {l : List Fl} (h : Small l) (p : B) (k : Nat) : Small (upto l p k) :=
  Small.under ⟨by have := h.len; simp; omega, fun f hf => h.each f (List.mem_of_mem_take hf)⟩ p
theorem bulk_at (l : List Fl) (p : B) : bulk (at_ l p) ≤ bulk l := by
  unfold Fs.at_
  split
  · exact Nat.le_refl _
  · exact bulk_under p l
theorem at_nil (l : List Fl) : at_ l [] = l := if_pos rfl
theorem at_ne {l : List Fl} {p : B} (h : p ≠ []) : at_ l p = under l p := if_neg h
theorem name_len {l : List Fl} (h : Small l) {n : B} (hn : n ∈ names l) : n.length ≤ 1000 := by
  obtain ⟨f, hf, rfl⟩ := mem_names.1 hn
  have h1 := head_len (tl f.p)
  have h2 := (h.each f hf).1
  rw [tl_len] at h1; omega
theorem name_ne {l : List Fl} {n : B} (hn : n ∈ names l) : l ≠ [] := fun e => by
  subst e
  rw [names_nil] at hn
  cases hn
theorem get_mem {l : List Fl} {p : B} {d : ByteArray} (h : get l p = some d) : ∃ f ∈ l, f.d = d := by
  unfold get at h
  cases e : l.find? (fun f => decide (tl f.p = p)) with
  | none => rw [e] at h; cases h
  | some f => rw [e] at h; injection h with h; exact ⟨f, List.mem_of_find?_eq_some e, h⟩
def ents (l : List Fl) (k : Nat) : List En := ((names l).take k).map (entry l)
theorem ents_all (l : List Fl) : ents l (names l).length = dir l := by rw [ents, List.take_length, ← dir_map]
theorem ents_next {l : List Fl} {k : Nat} (hk : k < (names l).length) : ents l (k + 1) = ents l k ++ [entry l (names l)[k]] := by
  rw [ents, List.take_succ_eq_append_getElem hk, List.map_append]; rfl
theorem dir_len (l : List Fl) : (dir l).length = (names l).length := by rw [dir_map]; simp
theorem entry_file {l : List Fl} {n : B} {d : ByteArray} (h : get l n = some d) : entry l n = ⟨n, false, Blk.sum (tl d)⟩ := by unfold entry; rw [h]
theorem entry_dir {l : List Fl} {n : B} (h : get l n = none) : entry l n = ⟨n, true, digest (under l n)⟩ := by unfold entry; rw [h]
theorem entry_n (l : List Fl) (n : B) : (entry l n).n = n := by
  cases h : get l n with
  | some d => rw [entry_file h]
  | none => rw [entry_dir h]
end Go.Proofs.YtlndnpfjneeeeaaGreatDoor.Fs
/- FsMem, what a claim needs of it (prune.py). -/
namespace Go.Proofs.YtlndnpfjneeeeaaGreatDoor.Fs
open Go.RowKit
set_option linter.unusedVariables false
set_option maxRecDepth 100000
def fc (l : List Fl) : List Value := l.flatMap fun f => [.string f.p, .string f.d]
def ec1 (x : En) : List Value := [.string (bs x.n), .bool x.dir, .string (bs x.g)]
def ec (l : List En) : List Value := l.flatMap ec1
abbrev Fls (w : World) (A : Option Addr) (l : List Fl) : Prop := Reads w w.heap.size 2 A l.length (fc l)
abbrev Ens (w : World) (A : Option Addr) (l : List En) : Prop := Reads w w.heap.size 3 A l.length (ec l)
theorem fc_len (l : List Fl) : (fc l).length = l.length * 2 := by
  induction l with
  | nil => rfl
  | cons a l ih => rw [fc, List.flatMap_cons, List.length_append]; have : (l.flatMap fun f => [Value.string f.p, .string f.d]).length = l.length * 2 := ih; rw [this]; simp; omega
theorem fc_append (a b : List Fl) : fc (a ++ b) = fc a ++ fc b := List.flatMap_append
theorem ec_append (a b : List En) : ec (a ++ b) = ec a ++ ec b := List.flatMap_append
theorem fc_cell (l : List Fl) : ∀ u ∈ fc l, u.oneCell' = true := by
  intro u hu
  obtain ⟨f, _, h⟩ := List.mem_flatMap.1 hu
  simp only [List.mem_cons, List.not_mem_nil, or_false] at h
  rcases h with rfl | rfl <;> rfl
theorem ec_cell (l : List En) : ∀ u ∈ ec l, u.oneCell' = true := by
  intro u hu
  obtain ⟨f, _, h⟩ := List.mem_flatMap.1 hu
  simp only [ec1, List.mem_cons, List.not_mem_nil, or_false] at h
  rcases h with rfl | rfl | rfl <;> rfl
theorem fc_at : ∀ {l : List Fl} {k : Nat} (hk : k < l.length), (fc l)[k * 2]? = some (.string l[k].p) ∧ (fc l)[k * 2 + 1]? = some (.string l[k].d)
  | [], k, hk => absurd hk (by simp)
  | f :: l, 0, _ => ⟨rfl, rfl⟩
  | f :: l, k + 1, hk => by
    have ih := fc_at (l := l) (k := k) (by simpa using hk)
    rw [show (k + 1) * 2 = k * 2 + 2 by omega, show k * 2 + 2 + 1 = k * 2 + 1 + 2 by omega]
    exact ih
theorem ec_at : ∀ {l : List En} {k : Nat} (hk : k < l.length), (ec l)[k * 3]? = some (.string (bs l[k].n)) ∧ (ec l)[k * 3 + 1]? = some (.bool l[k].dir) ∧ (ec l)[k * 3 + 2]? = some (.string (bs l[k].g))
  | [], k, hk => absurd hk (by simp)
  | f :: l, 0, _ => ⟨rfl, rfl, rfl⟩
  | f :: l, k + 1, hk => by
    have ih := ec_at (l := l) (k := k) (by simpa using hk)
    rw [show (k + 1) * 3 = k * 3 + 3 by omega, show k * 3 + 3 + 1 = k * 3 + 1 + 3 by omega, show k * 3 + 3 + 2 = k * 3 + 2 + 3 by omega]
    exact ih
theorem Fls.at_ {w : World} {B : Nat} {A : Option Addr} {l : List Fl} (h : Reads w B 2 A l.length (fc l)) {k : Nat} (hk : k < l.length) :
    ∃ ad, A = some ad ∧ ad.block < B ∧ w.cell? (ad.add (k * 2)) = some (.string l[k].p) ∧ w.cell? ⟨(ad.add (k * 2)).block, (ad.add (k * 2)).off + 1, none⟩ = some (.string l[k].d) := by
  obtain ⟨ad, e, hb, hc⟩ := h.2 (by omega)
  obtain ⟨h0, h1⟩ := fc_at hk
  refine ⟨ad, e, hb, hc _ _ h0, ?_⟩
  have := hc _ _ h1
  rw [← add_of_add] at this
  exact this
theorem Ens.at_ {w : World} {B : Nat} {A : Option Addr} {l : List En} (h : Reads w B 3 A l.length (ec l)) {k : Nat} (hk : k < l.length) :
    ∃ ad, A = some ad ∧ ad.block < B ∧ w.cell? (ad.add (k * 3)) = some (.string (bs l[k].n)) ∧ w.cell? ⟨(ad.add (k * 3)).block, (ad.add (k * 3)).off + 1, none⟩ = some (.bool l[k].dir) ∧ w.cell? ⟨(ad.add (k * 3)).block, (ad.add (k * 3)).off + 2, none⟩ = some (.string (bs l[k].g)) := by
  obtain ⟨ad, e, hb, hc⟩ := h.2 (by omega)
  obtain ⟨h0, h1, h2⟩ := ec_at hk
  refine ⟨ad, e, hb, hc _ _ h0, ?_, ?_⟩
  · have := hc _ _ h1
    rw [← add_of_add] at this
    exact this
  · have := hc _ _ h2
    rw [← add_of_add] at this
    exact this
theorem reads2_new (w : World) (o1 : Obj) (T : TypeId) (a b : Value) : Reads ((w.alloc o1).alloc (.cells #[a, b] T)) ((w.alloc o1).alloc (.cells #[a, b] T)).heap.size 2 (some ⟨w.heap.size + 1, 0, none⟩) 1 [a, b] :=
  ⟨rfl, fun _ => ⟨_, rfl, by simp, fun j u hu => by
    rw [Lg.add_eq, Lg.cell_at (heap_alloc2_new w o1 _)]
    simpa using hu⟩⟩
theorem reads2_one (w : World) (T : TypeId) (a b : Value) (g : Nat) (hg : w.heap.size = g) : Reads (w.alloc (.cells #[a, b] T)) (w.alloc (.cells #[a, b] T)).heap.size 2 (some ⟨g, 0, none⟩) 1 [a, b] := by
  subst hg
  exact ⟨rfl, fun _ => ⟨_, rfl, by simp, fun j u hu => by
    rw [Lg.add_eq, Lg.cell_at (heap_alloc_new w _)]
    simpa using hu⟩⟩
def Env (w : World) : Prop := (∃ m, w.cell? ⟨0, 0, none⟩ = some (.int .i64 m)) ∧ Tab w
theorem cell_lt {w : World} {a : Addr} {v : Value} (h : w.cell? a = some v) : a.block < w.heap.size := by
  unfold World.cell? at h
  rcases Nat.lt_or_ge a.block w.heap.size with h1 | h1
  · exact h1
  · rw [Array.getElem?_eq_none h1] at h; cases h
theorem Env.below {w w' : World} (h : Env w) (hb : Below w.heap.size w w') : Env w' := by
  obtain ⟨⟨m, h1⟩, h2⟩ := h
  exact ⟨⟨m, (hb.cell (cell_lt h1)).trans h1⟩, h2.on hb⟩
theorem infoF : ∃ z, (Tryz.prog.info? 75).map (fun i => (i.zero, i.size, i.bytes)) = some (some z, 2, 32) ∧ z.cells.size = 2 := ⟨.agg #[.string ⟨#[]⟩, .string ⟨#[]⟩], by kernel_rfl, rfl⟩
theorem infoE : ∃ z, (Tryz.prog.info? 79).map (fun i => (i.zero, i.size, i.bytes)) = some (some z, 3, 40) ∧ z.cells.size = 3 := ⟨.agg #[.string ⟨#[]⟩, .bool false, .string ⟨#[]⟩], by kernel_rfl, rfl⟩
end Go.Proofs.YtlndnpfjneeeeaaGreatDoor.Fs
namespace Go.Proofs.YtlndnpfjneeeeaaGreatDoor.Fs
open Go.RowKit
set_option linter.unusedVariables false
set_option maxRecDepth 100000
section
variable {α : Type}
def idx (p : α → Bool) (l : List α) : Int :=
  match l.findIdx? p with
  | some i => i
  | none => -1
def NoneTo (p : α → Bool) (l : List α) (k : Nat) : Prop := ∀ j (hj : j < l.length), j < k → p l[j] = false
theorem NoneTo.zero (p : α → Bool) (l : List α) : NoneTo p l 0 := fun j _ h => by omega
theorem NoneTo.next {p : α → Bool} {l : List α} {k : Nat} (hk : k < l.length) (h : NoneTo p l k) (hp : p l[k] = false) : NoneTo p l (k + 1) := fun j hj h1 => by
  rcases Nat.lt_or_ge j k with h2 | h2
  · exact h j hj h2
  · obtain rfl : j = k := by omega
    exact hp
theorem idx_hit {p : α → Bool} {l : List α} {k : Nat} (hk : k < l.length) (h : NoneTo p l k) (hp : p l[k] = true) : idx p l = k := by
  have : l.findIdx? p = some k := by
    rw [List.findIdx?_eq_some_iff_getElem]
    exact ⟨hk, hp, fun j hj => by rw [h j (by omega) hj]; simp⟩
  rw [idx, this]
theorem idx_miss {p : α → Bool} {l : List α} (h : NoneTo p l l.length) : idx p l = -1 := by
  have : l.findIdx? p = none := by
    rw [List.findIdx?_eq_none_iff]
    intro x hx
    obtain ⟨j, hj, rfl⟩ := List.mem_iff_getElem.1 hx
    exact h j hj hj
  rw [idx, this]
theorem find_hit {p : α → Bool} {l : List α} {k : Nat} (hk : k < l.length) (h : NoneTo p l k) (hp : p l[k] = true) : l.find? p = some l[k] := by
  rw [List.find?_eq_some_iff_getElem]
  exact ⟨hp, k, hk, rfl, fun j hj => by rw [h j (by omega) hj]; rfl⟩
theorem find_miss {p : α → Bool} {l : List α} (h : NoneTo p l l.length) : l.find? p = none := List.find?_eq_none.2 fun x hx => by
  obtain ⟨j, hj, rfl⟩ := List.mem_iff_getElem.1 hx
  rw [h j hj hj]; simp
theorem idx_cases (p : α → Bool) (l : List α) : (idx p l = -1 ∧ l.find? p = none) ∨ ∃ (k : Nat) (hk : k < l.length), idx p l = k ∧ l.find? p = some l[k] := by
  rw [idx]
  cases e : l.findIdx? p with
  | none =>
    rw [List.findIdx?_eq_none_iff] at e
    exact .inl ⟨rfl, List.find?_eq_none.2 fun x hx => by simp [e x hx]⟩
  | some i =>
    obtain ⟨hi, hp, hn⟩ := List.findIdx?_eq_some_iff_getElem.1 e
    refine .inr ⟨i, hi, rfl, ?_⟩
    rw [List.find?_eq_some_iff_getElem]
    exact ⟨hp, i, hi, rfl, fun j hj => by simpa using hn j hj⟩
end
theorem indexF_any (g : Nat) (lb : Array Value) (eg : ∀ args w, (callFunc g args).run Tryz.prog w = .ok (.enter g args) w) (p : Fl → Bool) (A : Option Addr) (l : List Fl) (c : Nat) (w : World) (hr : Fls w A l) (hl : l.length ≤ 1000000000)
    (hp : ∀ f ∈ l, ∀ W, Below w.heap.size w W → Calls Tryz.prog g (#[.agg #[.string f.p, .string f.d]] ++ lb) W fun e w' => e = .returned (.bool (p f)) ∧ Below W.heap.size W w') :
    Calls Tryz.prog 191 #[.slice A l.length c, .func (.func g) #[] lb] w fun e w' => e = .returned (.int .i64 (idx p l)) ∧ Below w.heap.size w w' := by
  have RD : Hid (∀ W, Below w.heap.size w W → Reads W w.heap.size 2 A l.length (fc l)) := Lib.hid fun W hW => hr.below hW
  have PR := Lib.hid hp
  clear hr hp
  go_enter Tryz.func191, Tryz.ntmps191
  go_wp2_with (fail)
  go_loopw [8] (fun i W => ∃ k : Nat, i = .int .i64 k ∧ k ≤ l.length ∧ NoneTo p l k ∧ Below w.heap.size w W) (fun i _ => l.length - (intOf i).toNat)
  case atStart => exact ⟨0, rfl, by omega, NoneTo.zero _ _, Below.refl _ _⟩
  case round =>
    obtain ⟨k, rfl, hk, ha, hb⟩ := hrel
    have HA := Lib.hid ha
    clear ha
    by_cases hlt : k < l.length
    · have hkI : (k : Int) < (l.length : Int) := by omega
      obtain ⟨ad, rfl, had, c0, c1⟩ := Fls.at_ (RD.out _ hb) hlt
      have AF := Lib.hid (PR.out l[k] (List.getElem_mem hlt) _ hb)
      have NXT := Lib.hid (NoneTo.next hlt HA.out)
      have HIT := Lib.hid (idx_hit hlt HA.out)
      generalize l[k] = f at *
      cases hp : p f
      · rw [hp] at AF
        have F := Lib.hid (NXT.out hp)
        clear hp HIT
        go_wp2_with (go_at_fn g; ((with_reducible refine (AF.out).mono ?_); rintro e w1 ⟨rfl, hb1⟩))
        go_roundw
        case rel => exact ⟨k + 1, by go_num, by omega, F.out, hb.trans (hb1.mono hb.size)⟩
        case measure => simp [intOf]; omega
      · rw [hp] at AF
        have F := Lib.hid (HIT.out hp)
        clear hp NXT
        go_wp2_with (go_at_fn g; ((with_reducible refine (AF.out).mono ?_); rintro e w1 ⟨rfl, hb1⟩))
        go_ret
        exact ⟨Lg.ret_int F.out, hb.trans (hb1.mono hb.size)⟩
    · obtain rfl : k = l.length := by omega
      have F := Lib.hid (idx_miss HA.out)
      go_wp2_with (fail)
      go_ret
      exact ⟨Lg.ret_int F.out, hb⟩
end Go.Proofs.YtlndnpfjneeeeaaGreatDoor.Fs
namespace Go.Proofs.YtlndnpfjneeeeaaGreatDoor.Fs
open Go.RowKit Go.Maps
set_option linter.unusedVariables false
set_option maxRecDepth 100000
theorem kstr : Keyed Tryz.prog 9 := string_keyed Tryz.underlying9
theorem kof {s : ByteArray} (hs : s.size ≤ maxLen) : keyOf Tryz.prog 9 (.string s) = some (.string s.data.toList) := WideMaps.keyOf_string_mk Tryz.underlying9 hs
theorem klit_ne {a b : ByteArray} (h : a ≠ b) : (Lit.string a.data.toList) ≠ .string b.data.toList := by
  intro e
  injection e with e
  exact h (Lg.tl_inj e)
def KnAt (w : World) (m n : Nat) (f : B → Option ByteArray) : Prop :=
  ∃ D : DataW Unit, w.ownsMap Tryz.prog 9 (plainElem Tryz.prog 9) m n D ∧ ∀ s : ByteArray, Maps.has D (.string s.data.toList) = (f (tl s)).isSome ∧ D.atKey (.string s.data.toList) (.lit (.string [])) = .lit (.string (tl ((f (tl s)).getD ⟨#[]⟩)))
theorem plain_str_inv {v : Value} {b : B} {ps : List MemPlace} (h : plainElem (H := Unit) Tryz.prog 9 v = some (.lit (.string b), ps)) : v = .string (bs b) := by
  unfold plainElem at h
  rw [Tryz.underlying9] at h
  cases v <;> simp at h
  rename_i s
  have : s.data.toList = b := h.2.1
  rw [← this]; rfl
theorem KnAt.keep {w w' : World} {m n : Nat} {f : B → Option ByteArray} (h : KnAt w m n f) (hb : w'.heap[m]? = w.heap[m]?) : KnAt w' m n f := by
  obtain ⟨D, ⟨es, cl, h1, h2, h3, h4⟩, hs⟩ := h
  exact ⟨D, ⟨es, cl, hb.trans h1, h2, h3, h4⟩, hs⟩
theorem KnAt.lt {w : World} {m n : Nat} {f : B → Option ByteArray} (h : KnAt w m n f) : m < w.heap.size := by
  obtain ⟨D, h1, _⟩ := h
  exact h1.lt
theorem KnAt.later {w w' : World} {m n : Nat} {f : B → Option ByteArray} (h : KnAt w m n f) (hb : Below w.heap.size w w') : KnAt w' m n f := h.keep (hb.block m h.lt)
theorem KnAt.alloc {w : World} {m n : Nat} {f : B → Option ByteArray} (h : KnAt w m n f) (o : Obj) : KnAt (w.alloc o) m n f := h.keep (Below.heap_alloc _ _ _ h.lt)
theorem KnAt.setCell {w : World} {m n : Nat} {f : B → Option ByteArray} (h : KnAt w m n f) {p : Addr} (hp : m ≠ p.block) (u : Value) : KnAt (w.setCell p u) m n f := h.keep (Below.heap_setCell _ _ _ _ hp)
theorem KnAt.grown {w w' : World} {m n : Nat} {f : B → Option ByteArray} {row : Option Nat} (h : KnAt w m n f) (hg : w.grownBy w' row) (hne : some m ≠ row) : KnAt w' m n f := h.keep (hg.block m h.lt hne)
theorem KnAt.made (w : World) : KnAt (w.alloc (.map #[] 0)) w.heap.size 0 (fun _ => none) := ⟨.map [], World.ownsMap_made _ _ _ _, fun s => ⟨rfl, rfl⟩⟩
theorem KnAt.look {w : World} {m n : Nat} {f : B → Option ByteArray} (h : KnAt w m n f) {s : ByteArray} (hs : s.size ≤ maxLen) :
    (Instr.lookup 80 (.map (some m)) (.string s) true).run Tryz.prog w = .ok (.tuple #[.string ((f (tl s)).getD ⟨#[]⟩), .bool (f (tl s)).isSome]) w := by
  obtain ⟨D, h1, h2⟩ := h
  obtain ⟨v, ps, hrun, hv⟩ := h1.look_ok kstr Tryz.underlying80 (z := .string ⟨#[]⟩) (by kernel_rfl) (plainElem_string Tryz.underlying9 (by decide)) (kof hs)
  have e : (DataW.lit (Lit.string (⟨#[]⟩ : ByteArray).data.toList) : DataW Unit) = .lit (.string []) := rfl
  rw [e, (h2 s).2] at hv
  rw [hrun, plain_str_inv hv, (h2 s).1]
  rfl
def upK (f : B → Option ByteArray) (k : B) (v : ByteArray) : B → Option ByteArray := fun d => if d = k then some v else f d
theorem KnAt.put {w : World} {m n : Nat} {f : B → Option ByteArray} (h : KnAt w m n f) (hn : n < maxLen) {s v : ByteArray} (hs : s.size ≤ maxLen) (hv : v.size ≤ maxLen) :
    ∃ w', (Instr.mapUpdate 80 (.map (some m)) (.string s) (.string v)).run Tryz.prog w = .ok () w' ∧ KnAt w' m (n + 1) (upK f (tl s) v) ∧ w.grownBy w' (some m) := by
  obtain ⟨D, h1, h2⟩ := h
  obtain ⟨w', hrun, ho, hg⟩ := h1.update (val := .string v) kstr Tryz.underlying80 hn (kof hs) (plainElem_string Tryz.underlying9 hv)
  refine ⟨w', hrun, ⟨_, ho, fun x => ?_⟩, hg⟩
  unfold upK
  by_cases e : x = s
  · subst e
    rw [if_pos rfl]
    exact ⟨has_put_same h1.isMap (show WideAt.IsKeyLit (.string x.data.toList) from trivial) _, atKey_put_same h1.isMap (show WideAt.IsKeyLit (.string x.data.toList) from trivial) _ _⟩
  · rw [if_neg (fun e2 => e (Lg.tl_inj e2))]
    exact ⟨(has_put_other (klit_ne e) _).trans (h2 x).1, (atKey_put_other (klit_ne e) _ _).trans (h2 x).2⟩
end Go.Proofs.YtlndnpfjneeeeaaGreatDoor.Fs
