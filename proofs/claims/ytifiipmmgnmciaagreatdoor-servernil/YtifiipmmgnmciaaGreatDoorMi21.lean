/- Joined by mkmerged.py: FsLays, FsSpec, FsMem, FsPathsB, FsCode, FsCheck, FsMemE. -/
import Derived.Shelf.Sort.Plain
import Derived.Shelf.Slices.In.SortNone2
import Derived.Sort.OwnSorted
import Derived.Test.YtifiipmmgnmciaaGreatDoorProg
import Derived.Test.YtifiipmmgnmciaaGreatDoorMi02
import Derived.Test.YtifiipmmgnmciaaGreatDoorMi13
import Derived.Test.YtifiipmmgnmciaaGreatDoorMi17
import Derived.Lib.SlicesCompact
import Derived.Lib.CutLaws
import Derived.Test.YtifiipmmgnmciaaGreatDoorMi03
import Derived.Shelf.GgClosure.Gives
import Derived.WalkKit
import Derived.Maps.OwnSet
import Derived.Maps.OwnOps
import Derived.Maps.Views
import Derived.Deep.Draws
import Derived.Test.YtifiipmmgnmciaaGreatDoorMi04
import Derived.Test.YtifiipmmgnmciaaGreatDoorMiKm
import Derived.BigQuiet
import Derived.Lib.IndexAny
import Derived.Sort.Walk0
import Derived.Laws.Cover1
/- FsLays, what a claim needs of it (prune.py). -/
namespace Go.Proofs
open Go.Shelf
def Tryz.l245_ren : Go.Shelf.Ren := ⟨fun | 190 => 245 | 125 => 208 | 258 => 293 | 128 => 265 | 129 => 266 | 302 => 334 | 303 => 335 | 304 => 336 | 305 => 337 | 306 => 338 | 307 => 339 | 308 => 340 | 309 => 341 | 310 => 342 | 333 => 360 | 329 => 300 | 330 => 301 | 334 => 361 | 335 => 362 | 336 => 363 | 344 => 371 | n => n, fun | 31 => 32 | 9 => 9 | 3 => 3 | 46 => 317 | 0 => 0 | 51 => 361 | 53 => 363 | 4 => 4 | 183 => 355 | 182 => 354 | 131 => 279 | 5 => 5 | 218 => 395 | 222 => 399 | 228 => 441 | 229 => 442 | n => n, fun | n => n⟩
theorem Tryz.l245 : Go.Proofs.Lays.n190 Tryz.prog Tryz.l245_ren := {
  mixed := by kernel_rfl
  f125 := Tryz.func208.trans (congrArg some (by kernel_rfl))
  f128 := Tryz.func265.trans (congrArg some (by kernel_rfl))
  f129 := Tryz.func266.trans (congrArg some (by kernel_rfl))
  f190 := Tryz.func245.trans (congrArg some (by kernel_rfl))
  f258 := Tryz.func293.trans (congrArg some (by kernel_rfl))
  f302 := Tryz.func334.trans (congrArg some (by kernel_rfl))
  f303 := Tryz.func335.trans (congrArg some (by kernel_rfl))
  f304 := Tryz.func336.trans (congrArg some (by kernel_rfl))
  f305 := Tryz.func337.trans (congrArg some (by kernel_rfl))
  f306 := Tryz.func338.trans (congrArg some (by kernel_rfl))
  f307 := Tryz.func339.trans (congrArg some (by kernel_rfl))
  f308 := Tryz.func340.trans (congrArg some (by kernel_rfl))
  f309 := Tryz.func341.trans (congrArg some (by kernel_rfl))
  f310 := Tryz.func342.trans (congrArg some (by kernel_rfl))
  f329 := Tryz.func300.trans (congrArg some (by kernel_rfl))
  f330 := Tryz.func301.trans (congrArg some (by kernel_rfl))
  f333 := Tryz.func360.trans (congrArg some (by kernel_rfl))
  f334 := Tryz.func361.trans (congrArg some (by kernel_rfl))
  f335 := Tryz.func362.trans (congrArg some (by kernel_rfl))
  f336 := Tryz.func363.trans (congrArg some (by kernel_rfl))
  f344 := Tryz.func371.trans (congrArg some (by kernel_rfl))
  t0 := Tryz.underlying0
  a0 := Tryz.isAgg0
  z0 := Tryz.sizeOf0
  v0 := Tryz.zeroValue0
  t3 := Tryz.underlying3
  a3 := Tryz.isAgg3
  z3 := Tryz.sizeOf3
  v3 := Tryz.zeroValue3
  t4 := Tryz.underlying4
  a4 := Tryz.isAgg4
  z4 := Tryz.sizeOf4
  v4 := Tryz.zeroValue4
  t5 := Tryz.underlying5
  a5 := Tryz.isAgg5
  z5 := Tryz.sizeOf5
  v5 := Tryz.zeroValue5
  t9 := Tryz.underlying9
  a9 := Tryz.isAgg9
  z9 := Tryz.sizeOf9
  v9 := Tryz.zeroValue9
  t31 := Tryz.underlying32
  a31 := Tryz.isAgg32
  z31 := Tryz.sizeOf32
  v31 := Tryz.zeroValue32
  t46 := Tryz.underlying317
  a46 := Tryz.isAgg317
  z46 := Tryz.sizeOf317
  v46 := Tryz.zeroValue317
  t51 := Tryz.underlying361
  a51 := Tryz.isAgg361
  z51 := Tryz.sizeOf361
  v51 := Tryz.zeroValue361
  t53 := Tryz.underlying363
  a53 := Tryz.isAgg363
  z53 := Tryz.sizeOf363
  v53 := Tryz.zeroValue363
  t131 := Tryz.underlying279
  a131 := Tryz.isAgg279
  z131 := Tryz.sizeOf279
  v131 := Tryz.zeroValue279
  t182 := Tryz.underlying354
  a182 := Tryz.isAgg354
  z182 := Tryz.sizeOf354
  v182 := Tryz.zeroValue354
  t183 := Tryz.underlying355
  a183 := Tryz.isAgg355
  z183 := Tryz.sizeOf355
  v183 := Tryz.zeroValue355
  t218 := Tryz.underlying395
  a218 := Tryz.isAgg395
  z218 := Tryz.sizeOf395
  v218 := Tryz.zeroValue395
  t222 := Tryz.underlying399
  a222 := Tryz.isAgg399
  z222 := Tryz.sizeOf399
  v222 := Tryz.zeroValue399
  t228 := Tryz.underlying441
  a228 := Tryz.isAgg441
  z228 := Tryz.sizeOf441
  v228 := Tryz.zeroValue441
  t229 := Tryz.underlying442
  a229 := Tryz.isAgg442
  z229 := Tryz.sizeOf442
  v229 := Tryz.zeroValue442 }
end Go.Proofs
/- FsSpec, what a claim needs of it (prune.py). -/
namespace Go.Proofs.YtifiipmmgnmciaaGreatDoor
namespace Fs
set_option linter.unusedVariables false
abbrev B := List UInt8
def belowB (s p : B) : Option B := if (p ++ [47]) <+: s ∧ p.length + 1 < s.length then some (s.drop (p.length + 1)) else none
def under (l : List Fl) (p : B) : List Fl := l.filterMap fun f => (belowB (tl f.p) p).map fun r => ⟨bs r, f.d⟩
def get (l : List Fl) (p : B) : Option ByteArray := (l.find? fun f => decide (tl f.p = p)).map Fl.d
def head (s : B) : B := s.takeWhile fun c => decide (c ≠ 47)
def bulk (l : List Fl) : Nat := (l.map fun f => f.p.size + 1).sum
theorem bs_len (l : B) : (bs l).size = l.length := by show l.toArray.size = _; simp
theorem tl_len (s : ByteArray) : (tl s).length = s.size := by show s.data.toList.length = s.data.size; simp
theorem bulk_cons (f : Fl) (l : List Fl) : bulk (f :: l) = (f.p.size + 1) + bulk l := by simp [bulk]
theorem under_cons (f : Fl) (l : List Fl) (p : B) : under (f :: l) p = match belowB (tl f.p) p with
    | some r => ⟨bs r, f.d⟩ :: under l p
    | none => under l p := by
  unfold under
  rw [List.filterMap_cons]
  cases belowB (tl f.p) p <;> rfl
theorem below_len {s p r : B} (h : belowB s p = some r) : r.length + p.length + 1 = s.length ∧ 0 < r.length := by
  unfold belowB at h
  split at h
  · injection h with h
    subst h
    rw [List.length_drop]; omega
  · cases h
theorem bulk_under (p : B) : ∀ l : List Fl, bulk (under l p) ≤ bulk l
  | [] => by simp [under, bulk]
  | f :: l => by
    have ih := bulk_under p l
    rw [under_cons, bulk_cons]
    cases e : belowB (tl f.p) p with
    | none => simp only; omega
    | some r =>
      simp only
      rw [bulk_cons, bs_len]
      have := below_len e
      rw [tl_len] at this; omega
theorem bulk_under_lt (p : B) : ∀ {l : List Fl}, l ≠ [] → bulk (under l p) < bulk l
  | [], h => absurd rfl h
  | f :: l, _ => by
    have ih := bulk_under p l
    rw [under_cons, bulk_cons]
    cases e : belowB (tl f.p) p with
    | none => simp only; omega
    | some r =>
      simp only
      rw [bulk_cons, bs_len]
      have := below_len e
      rw [tl_len] at this; omega
theorem under_len (l : List Fl) (p : B) : (under l p).length ≤ l.length := List.length_filterMap_le _ _
def names (l : List Fl) : List B := Lib.compact ((l.map fun f => head (tl f.p)).mergeSort fun x y => decide (x ≤ y))
def ins (s : B) : List B → List B
  | [] => [s]
  | a :: l => if a < s then a :: ins s l else if a = s then a :: l else s :: a :: l
theorem lt_or {a b : B} : a < b ∨ a = b ∨ b < a := by
  by_cases h : a < b
  · exact .inl h
  · by_cases h2 : b < a
    · exact .inr (.inr h2)
    · exact .inr (.inl (List.le_antisymm (List.not_lt.1 h2) (List.not_lt.1 h)))
theorem le_lt {a b : B} (h : a ≤ b) (hn : a ≠ b) : a < b := by
  rcases lt_or (a := a) (b := b) with h1 | h1 | h1
  · exact h1
  · exact absurd h1 hn
  · exact absurd h1 (List.not_lt.2 h)
theorem lt_tr {a b c : B} (h : a < b) (k : b < c) : a < c := List.lt_trans h k
theorem rising_head {a b : B} {l : List B} (h : (a :: l).Pairwise (· < ·)) (hb : b ∈ a :: l) : a ≤ b := by
  rcases List.mem_cons.1 hb with rfl | hb
  · exact List.le_refl _
  · exact List.le_of_lt ((List.pairwise_cons.1 h).1 b hb)
theorem rising_eq : ∀ {l m : List B}, l.Pairwise (· < ·) → m.Pairwise (· < ·) → (∀ x, x ∈ l ↔ x ∈ m) → l = m
  | [], [], _, _, _ => rfl
  | [], b :: m, _, _, h => absurd ((h b).2 (by simp)) (by simp)
  | a :: l, [], _, _, h => absurd ((h a).1 (by simp)) (by simp)
  | a :: l, b :: m, h1, h2, h => by
    have e : a = b := List.le_antisymm (rising_head h1 ((h b).2 (by simp))) (rising_head h2 ((h a).1 (by simp)))
    subst e
    have h1' := List.pairwise_cons.1 h1
    have h2' := List.pairwise_cons.1 h2
    have : l = m := rising_eq h1'.2 h2'.2 fun x => by
      constructor
      · intro hx
        rcases List.mem_cons.1 ((h x).1 (List.mem_cons_of_mem _ hx)) with rfl | hm
        · exact absurd (h1'.1 _ hx) (List.lt_irrefl _)
        · exact hm
      · intro hx
        rcases List.mem_cons.1 ((h x).2 (List.mem_cons_of_mem _ hx)) with rfl | hm
        · exact absurd (h2'.1 _ hx) (List.lt_irrefl _)
        · exact hm
    rw [this]
theorem get_bang {l : List B} {k : Nat} (hk : k < l.length) : l.toArray[k]! = l[k] := by simp [hk]
theorem compact_upto {l : List B} (h : l.Pairwise (· ≤ ·)) : ∀ m, m ≤ l.length → (Lib.compactUpTo l.toArray m).Pairwise (· < ·) ∧ (∀ x ∈ Lib.compactUpTo l.toArray m, ∃ j, ∃ (hj : j < l.length), j < m ∧ l[j] = x) ∧ ∀ j (hj : j < l.length), j < m → l[j] ∈ Lib.compactUpTo l.toArray m
  | 0, _ => ⟨by simp [Lib.compactUpTo], fun x hx => by simp [Lib.compactUpTo] at hx, fun j _ hj => by omega⟩
  | m + 1, hm => by
    obtain ⟨h1, h2, h3⟩ := compact_upto h m (by omega)
    have hml : m < l.length := by omega
    rw [Lib.compactUpTo_succ]
    cases hk : Lib.keeps l.toArray m with
    | true =>
      rw [if_pos rfl, get_bang hml]
      refine ⟨?_, ?_, ?_⟩
      · rw [List.pairwise_append]
        refine ⟨h1, by simp, fun x hx y hy => ?_⟩
        obtain rfl := List.mem_singleton.1 hy
        obtain ⟨j, hj, hjm, rfl⟩ := h2 x hx
        have hne : l[m - 1]'(by omega) ≠ l[m] := by
          simp only [Lib.keeps, decide_eq_true_eq] at hk
          rw [get_bang hml, get_bang (show m - 1 < l.length by omega)] at hk
          rcases hk with hk | hk
          · omega
          · exact fun e => hk e.symm
        have h4 : l[m - 1]'(by omega) ≤ l[m] := List.pairwise_iff_getElem.1 h _ _ (by omega) hml (by omega)
        have h5 : l[j] ≤ l[m - 1]'(by omega) := by
          rcases Nat.lt_or_ge j (m - 1) with h6 | h6
          · exact List.pairwise_iff_getElem.1 h _ _ hj (by omega) h6
          · have : j = m - 1 := by omega
            subst this
            exact List.le_refl _
        exact le_lt (List.le_trans h5 h4) (fun e => hne (List.le_antisymm h4 (by rw [← e]; exact h5)))
      · intro x hx
        rcases List.mem_append.1 hx with hx | hx
        · obtain ⟨j, hj, hjm, e⟩ := h2 x hx
          exact ⟨j, hj, by omega, e⟩
        · exact ⟨m, hml, by omega, (List.mem_singleton.1 hx).symm⟩
      · intro j hj hjm
        rcases Nat.lt_or_ge j m with h6 | h6
        · exact List.mem_append_left _ (h3 j hj h6)
        · have : j = m := by omega
          subst this
          exact List.mem_append_right _ (List.mem_singleton.2 rfl)
    | false =>
      rw [if_neg (by simp), List.append_nil]
      refine ⟨h1, fun x hx => ?_, fun j hj hjm => ?_⟩
      · obtain ⟨j, hj, hjm, e⟩ := h2 x hx
        exact ⟨j, hj, by omega, e⟩
      · rcases Nat.lt_or_ge j m with h6 | h6
        · exact h3 j hj h6
        · have : j = m := by omega
          subst this
          have h7 : ¬ (j = 0 ∨ l.toArray[j]! ≠ l.toArray[j - 1]!) := by simpa only [Lib.keeps, decide_eq_false_iff_not] using hk
          rw [get_bang hj, get_bang (show j - 1 < l.length by omega)] at h7
          have h8 : l[j] = l[j - 1]'(by omega) := Classical.not_not.1 fun e => h7 (.inr e)
          rw [h8]
          exact h3 (j - 1) (by omega) (by have : j ≠ 0 := fun e => h7 (.inl e); omega)
theorem mem_ins {s x : B} : ∀ l : List B, x ∈ ins s l ↔ x = s ∨ x ∈ l
  | [] => by simp [ins]
  | a :: l => by
    have ih := mem_ins (s := s) (x := x) l
    rw [ins]
    split
    · rw [List.mem_cons, ih, List.mem_cons]
      exact ⟨fun h => by rcases h with h | h | h <;> simp [h], fun h => by rcases h with h | h | h <;> simp [h]⟩
    · split
      · rename_i e; subst e; simp
      · simp
theorem ins_rising {s : B} : ∀ {l : List B}, l.Pairwise (· < ·) → (ins s l).Pairwise (· < ·)
  | [], _ => by simp [ins]
  | a :: l, h => by
    have h' := List.pairwise_cons.1 h
    rw [ins]
    split
    · rename_i hs
      rw [List.pairwise_cons]
      refine ⟨fun y hy => ?_, ins_rising h'.2⟩
      rcases (mem_ins _).1 hy with rfl | hy
      · exact hs
      · exact h'.1 y hy
    · rename_i hs
      split
      · exact h
      · rename_i hn
        have hsa : s < a := le_lt (List.not_lt.1 hs) (fun e => hn e.symm)
        rw [List.pairwise_cons]
        refine ⟨fun y hy => ?_, h⟩
        rcases List.mem_cons.1 hy with rfl | hy
        · exact hsa
        · exact lt_tr hsa (h'.1 y hy)
def insAll (l : List B) (acc : List B) : List B := l.foldl (fun a s => ins s a) acc
theorem insAll_rising : ∀ (l : List B) {acc : List B}, acc.Pairwise (· < ·) → (insAll l acc).Pairwise (· < ·)
  | [], _, h => h
  | a :: l, _, h => insAll_rising l (ins_rising h)
theorem mem_insAll {x : B} : ∀ (l : List B) (acc : List B), x ∈ insAll l acc ↔ x ∈ l ∨ x ∈ acc
  | [], acc => by simp [insAll]
  | a :: l, acc => by
    have ih := mem_insAll (x := x) l (ins a acc)
    rw [show insAll (a :: l) acc = insAll l (ins a acc) from rfl, ih, mem_ins, List.mem_cons]
    exact ⟨fun h => by rcases h with h | h | h <;> simp [h], fun h => by rcases h with (h | h) | h <;> simp [h]⟩
theorem sorted_pair (l : List B) : (l.mergeSort fun x y => decide (x ≤ y)).Pairwise (· ≤ ·) := by
  have := List.pairwise_mergeSort (le := fun (x y : B) => decide (x ≤ y)) (fun a b c h1 h2 => by
    simp only [decide_eq_true_eq] at h1 h2 ⊢
    exact List.le_trans h1 h2) (fun a b => by simpa using List.le_total a b) l
  exact this.imp (by simp)
theorem compact_sorted (l : List B) : Lib.compact (l.mergeSort fun x y => decide (x ≤ y)) = insAll l [] := by
  obtain ⟨h1, h2, h3⟩ := compact_upto (sorted_pair l) _ (Nat.le_refl _)
  refine rising_eq h1 (insAll_rising l List.Pairwise.nil) fun x => ?_
  rw [mem_insAll, ← (List.mergeSort_perm l fun x y => decide (x ≤ y)).mem_iff]
  refine ⟨fun hx => ?_, fun hx => ?_⟩
  · obtain ⟨j, hj, _, rfl⟩ := h2 x hx
    exact .inl (List.getElem_mem hj)
  · rcases hx with hx | hx
    · obtain ⟨j, hj, rfl⟩ := List.mem_iff_getElem.1 hx
      exact h3 j hj hj
    · cases hx
theorem cut_head : ∀ s : B, (Lib.cut s [47]).1 = head s
  | [] => rfl
  | b :: l => by
    have ih := cut_head l
    unfold Lib.cut at ih ⊢
    by_cases hb : b = 47
    · subst hb
      have e : Lib.index (47 :: l) [47] = 0 := by simp [Lib.index, List.isPrefixOf]
      rw [e]; rfl
    · have e : Lib.index (b :: l) [47] = if Lib.index l [47] == -1 then -1 else Lib.index l [47] + 1 := by
        rw [Lib.index]
        have : ([47] : B).isPrefixOf (b :: l) = false := by simp [List.isPrefixOf]; exact fun h => hb h.symm
        rw [this]; rfl
      have eh : head (b :: l) = b :: head l := by simp [head, hb]
      rw [eh, e]
      have hge := Lib.index_ge l [47]
      by_cases hm : Lib.index l [47] = -1
      · rw [hm] at ih ⊢
        simp at ih ⊢
        exact ih
      · rw [if_pos (by omega)] at ih
        have e2 : (if (Lib.index l [47] == -1) = true then (-1 : Int) else Lib.index l [47] + 1) = Lib.index l [47] + 1 := if_neg (by simpa using hm)
        rw [e2, if_pos (by omega)]
        simp only at ih ⊢
        rw [← ih, show (Lib.index l [47] + 1).toNat = (Lib.index l [47]).toNat + 1 by omega, List.take_succ_cons]
theorem names_eq (l : List Fl) : names l = insAll (l.map fun f => head (tl f.p)) [] := compact_sorted _
structure En where
  n : B
  dir : Bool
  g : B
def kind (x : En) : B := if x.dir = true then [100] else [102]
def bytesE (l : List En) : B := l.flatMap fun x => Pk.list [x.n, kind x, x.g]
def dirF : Nat → List Fl → List En
  | 0, _ => []
  | k + 1, l => (names l).map fun n => match get l n with
    | some s => ⟨n, false, Blk.sum (tl s)⟩
    | none => ⟨n, true, Blk.sum (bytesE (dirF k (under l n)))⟩
def dir (l : List Fl) : List En := dirF (bulk l + 1) l
def digest (l : List Fl) : B := Blk.sum (bytesE (dir l))
theorem names_nil : names [] = [] := by rw [names_eq]; rfl
theorem dirF_more : ∀ (k j : Nat) (l : List Fl), bulk l < k → bulk l < j → dirF k l = dirF j l
  | 0, j, l, h, _ => absurd h (by omega)
  | k + 1, 0, l, _, h => absurd h (by omega)
  | k + 1, j + 1, l, h1, h2 => by
    rw [dirF, dirF]
    by_cases hl : l = []
    · subst hl; rw [names_nil, List.map_nil, List.map_nil]
    · refine List.map_congr_left fun n _ => ?_
      cases get l n with
      | some s => rfl
      | none =>
        have := bulk_under_lt n hl
        simp only
        rw [dirF_more k j (under l n) (by omega) (by omega)]
theorem dir_eq (l : List Fl) : dir l = (names l).map fun n => match get l n with
    | some s => ⟨n, false, Blk.sum (tl s)⟩
    | none => ⟨n, true, digest (under l n)⟩ := by
  rw [dir, dirF]
  by_cases hl : l = []
  · subst hl; rw [names_nil, List.map_nil, List.map_nil]
  · refine List.map_congr_left fun n _ => ?_
    cases get l n with
    | some s => rfl
    | none =>
      have := bulk_under_lt n hl
      simp only [digest, dir]
      rw [dirF_more (bulk l) (bulk (under l n) + 1) (under l n) this (by omega)]
def entry (l : List Fl) (n : B) : En := match get l n with
    | some s => ⟨n, false, Blk.sum (tl s)⟩
    | none => ⟨n, true, digest (under l n)⟩
theorem dir_map (l : List Fl) : dir l = (names l).map (entry l) := dir_eq l
def at_ (l : List Fl) (p : B) : List Fl := if p = [] then l else under l p
theorem insAll_len : ∀ (l acc : List B), (insAll l acc).length ≤ l.length + acc.length
  | [], acc => by simp [insAll]
  | a :: l, acc => by
    have ih := insAll_len l (ins a acc)
    have : ∀ acc : List B, (ins a acc).length ≤ acc.length + 1 := by
      intro acc
      induction acc with
      | nil => simp [ins]
      | cons b m ih2 =>
        rw [ins]
        split
        · simp; exact ih2
        · split <;> simp
    have h2 := this acc
    rw [show insAll (a :: l) acc = insAll l (ins a acc) from rfl, List.length_cons]; omega
theorem names_len (l : List Fl) : (names l).length ≤ l.length := by
  rw [names_eq]
  have := insAll_len (l.map fun f => head (tl f.p)) []
  simpa using this
theorem head_len (s : B) : (head s).length ≤ s.length := (List.takeWhile_sublist _).length_le
theorem mem_names {l : List Fl} {n : B} : n ∈ names l ↔ ∃ f ∈ l, head (tl f.p) = n := by
  rw [names_eq, mem_insAll]; simp
end Fs
end Go.Proofs.YtifiipmmgnmciaaGreatDoor
namespace Go.Proofs.YtifiipmmgnmciaaGreatDoor.Fs
set_option linter.unusedVariables false
def upto (l : List Fl) (p : B) (k : Nat) : List Fl := under (l.take k) p
theorem upto_all (l : List Fl) (p : B) : upto l p l.length = under l p := by rw [upto, List.take_length]
theorem upto_len (l : List Fl) (p : B) (k : Nat) : (upto l p k).length ≤ k := Nat.le_trans (under_len _ _) (by simp; omega)
theorem under_append (a b : List Fl) (p : B) : under (a ++ b) p = under a p ++ under b p := List.filterMap_append
theorem upto_hit {l : List Fl} {p r : B} {k : Nat} (hk : k < l.length) (h : belowB (tl l[k].p) p = some r) : upto l p (k + 1) = upto l p k ++ [⟨bs r, l[k].d⟩] := by
  rw [upto, List.take_succ_eq_append_getElem hk, under_append, under_cons, h]; rfl
theorem upto_miss {l : List Fl} {p : B} {k : Nat} (hk : k < l.length) (h : belowB (tl l[k].p) p = none) : upto l p (k + 1) = upto l p k := by
  rw [upto, List.take_succ_eq_append_getElem hk, under_append, under_cons, h]
  exact List.append_nil _
structure Small (l : List Fl) : Prop where
  len : l.length ≤ 200
  each : ∀ f ∈ l, f.p.size ≤ 1000 ∧ f.d.size ≤ 1000000
theorem mem_under {l : List Fl} {p : B} {f : Fl} (h : f ∈ under l p) : ∃ g ∈ l, ∃ r, belowB (tl g.p) p = some r ∧ f = ⟨bs r, g.d⟩ := by
  unfold under at h
  obtain ⟨g, hg, he⟩ := List.mem_filterMap.1 h
  cases e : belowB (tl g.p) p with
  | none => rw [e] at he; cases he
  | some r => rw [e] at he; injection he with he; exact ⟨g, hg, r, e, he.symm⟩
theorem Small.under {l : List Fl} (h : Small l) (p : B) : Small (under l p) := ⟨Nat.le_trans (under_len l p) h.len, fun f hf => by
  obtain ⟨g, hg, r, e, rfl⟩ := mem_under hf
  have h1 := below_len e
  have h2 := h.each g hg
  rw [tl_len] at h1
  refine ⟨?_, h2.2⟩
  show (bs r).size ≤ 1000
  rw [bs_len]; omega⟩
theorem Small.at_ {l : List Fl} (h : Small l) (p : B) : Small (at_ l p) := by
  unfold Fs.at_
  split
  · exact h
  · exact h.under p
theorem bulk_at (l : List Fl) (p : B) : bulk (at_ l p) ≤ bulk l := by
  unfold Fs.at_
  split
  · exact Nat.le_refl _
  · exact bulk_under p l
theorem at_nil (l : List Fl) : at_ l [] = l := if_pos rfl
theorem at_ne {l : List Fl} {p : B} (h : p ≠ []) : at_ l p = under l p := if_neg h
theorem name_len {l : List Fl} (h : Small l) {n : B} (hn : n ∈ names l) : n.length ≤ 1000 := by
  obtain ⟨f, hf, rfl⟩ := mem_names.1 hn
  have h1 := head_len (tl f.p)
  have h2 := (h.each f hf).1
  rw [tl_len] at h1; omega
theorem name_ne {l : List Fl} {n : B} (hn : n ∈ names l) : l ≠ [] := fun e => by
  subst e
  rw [names_nil] at hn
  cases hn
theorem get_mem {l : List Fl} {p : B} {d : ByteArray} (h : get l p = some d) : ∃ f ∈ l, f.d = d := by
  unfold get at h
  cases e : l.find? (fun f => decide (tl f.p = p)) with
  | none => rw [e] at h; cases h
  | some f => rw [e] at h; injection h with h; exact ⟨f, List.mem_of_find?_eq_some e, h⟩
def ents (l : List Fl) (k : Nat) : List En := ((names l).take k).map (entry l)
theorem ents_all (l : List Fl) : ents l (names l).length = dir l := by rw [ents, List.take_length, ← dir_map]
theorem ents_next {l : List Fl} {k : Nat} (hk : k < (names l).length) : ents l (k + 1) = ents l k ++ [entry l (names l)[k]] := by
  rw [ents, List.take_succ_eq_append_getElem hk, List.map_append]; rfl
theorem dir_len (l : List Fl) : (dir l).length = (names l).length := by rw [dir_map]; simp
theorem entry_file {l : List Fl} {n : B} {d : ByteArray} (h : get l n = some d) : entry l n = ⟨n, false, Blk.sum (tl d)⟩ := by unfold entry; rw [h]
theorem entry_dir {l : List Fl} {n : B} (h : get l n = none) : entry l n = ⟨n, true, digest (under l n)⟩ := by unfold entry; rw [h]
theorem entry_n (l : List Fl) (n : B) : (entry l n).n = n := by
  cases h : get l n with
  | some d => rw [entry_file h]
  | none => rw [entry_dir h]
end Go.Proofs.YtifiipmmgnmciaaGreatDoor.Fs
/- FsMem, what a claim needs of it (prune.py). -/
namespace Go.Proofs.YtifiipmmgnmciaaGreatDoor.Fs
open Go.RowKit
set_option linter.unusedVariables false
set_option maxRecDepth 100000
def fc (l : List Fl) : List Value := l.flatMap fun f => [.string f.p, .string f.d]
def ec1 (x : En) : List Value := [.string (bs x.n), .bool x.dir, .string (bs x.g)]
def ec (l : List En) : List Value := l.flatMap ec1
abbrev Fls (w : World) (A : Option Addr) (l : List Fl) : Prop := Reads w w.heap.size 2 A l.length (fc l)
abbrev Ens (w : World) (A : Option Addr) (l : List En) : Prop := Reads w w.heap.size 3 A l.length (ec l)
theorem fc_append (a b : List Fl) : fc (a ++ b) = fc a ++ fc b := List.flatMap_append
theorem ec_append (a b : List En) : ec (a ++ b) = ec a ++ ec b := List.flatMap_append
theorem fc_cell (l : List Fl) : ∀ u ∈ fc l, u.oneCell' = true := by
  intro u hu
  obtain ⟨f, _, h⟩ := List.mem_flatMap.1 hu
  simp only [List.mem_cons, List.not_mem_nil, or_false] at h
  rcases h with rfl | rfl <;> rfl
theorem ec_cell (l : List En) : ∀ u ∈ ec l, u.oneCell' = true := by
  intro u hu
  obtain ⟨f, _, h⟩ := List.mem_flatMap.1 hu
  simp only [ec1, List.mem_cons, List.not_mem_nil, or_false] at h
  rcases h with rfl | rfl | rfl <;> rfl
theorem fc_at : ∀ {l : List Fl} {k : Nat} (hk : k < l.length), (fc l)[k * 2]? = some (.string l[k].p) ∧ (fc l)[k * 2 + 1]? = some (.string l[k].d)
  | [], k, hk => absurd hk (by simp)
  | f :: l, 0, _ => ⟨rfl, rfl⟩
  | f :: l, k + 1, hk => by
    have ih := fc_at (l := l) (k := k) (by simpa using hk)
    rw [show (k + 1) * 2 = k * 2 + 2 by omega, show k * 2 + 2 + 1 = k * 2 + 1 + 2 by omega]
    exact ih
theorem ec_at : ∀ {l : List En} {k : Nat} (hk : k < l.length), (ec l)[k * 3]? = some (.string (bs l[k].n)) ∧ (ec l)[k * 3 + 1]? = some (.bool l[k].dir) ∧ (ec l)[k * 3 + 2]? = some (.string (bs l[k].g))
  | [], k, hk => absurd hk (by simp)
  | f :: l, 0, _ => ⟨rfl, rfl, rfl⟩
  | f :: l, k + 1, hk => by
    have ih := ec_at (l := l) (k := k) (by simpa using hk)
    rw [show (k + 1) * 3 = k * 3 + 3 by omega, show k * 3 + 3 + 1 = k * 3 + 1 + 3 by omega, show k * 3 + 3 + 2 = k * 3 + 2 + 3 by omega]
    exact ih
theorem Fls.at_ {w : World} {B : Nat} {A : Option Addr} {l : List Fl} (h : Reads w B 2 A l.length (fc l)) {k : Nat} (hk : k < l.length) :
    ∃ ad, A = some ad ∧ ad.block < B ∧ w.cell? (ad.add (k * 2)) = some (.string l[k].p) ∧ w.cell? ⟨(ad.add (k * 2)).block, (ad.add (k * 2)).off + 1, none⟩ = some (.string l[k].d) := by
  obtain ⟨ad, e, hb, hc⟩ := h.2 (by omega)
  obtain ⟨h0, h1⟩ := fc_at hk
  refine ⟨ad, e, hb, hc _ _ h0, ?_⟩
  have := hc _ _ h1
  rw [← add_of_add] at this
  exact this
theorem Ens.at_ {w : World} {B : Nat} {A : Option Addr} {l : List En} (h : Reads w B 3 A l.length (ec l)) {k : Nat} (hk : k < l.length) :
    ∃ ad, A = some ad ∧ ad.block < B ∧ w.cell? (ad.add (k * 3)) = some (.string (bs l[k].n)) ∧ w.cell? ⟨(ad.add (k * 3)).block, (ad.add (k * 3)).off + 1, none⟩ = some (.bool l[k].dir) ∧ w.cell? ⟨(ad.add (k * 3)).block, (ad.add (k * 3)).off + 2, none⟩ = some (.string (bs l[k].g)) := by
  obtain ⟨ad, e, hb, hc⟩ := h.2 (by omega)
  obtain ⟨h0, h1, h2⟩ := ec_at hk
  refine ⟨ad, e, hb, hc _ _ h0, ?_, ?_⟩
  · have := hc _ _ h1
    rw [← add_of_add] at this
    exact this
  · have := hc _ _ h2
    rw [← add_of_add] at this
    exact this
theorem reads2_new (w : World) (o1 : Obj) (T : TypeId) (a b : Value) : Reads ((w.alloc o1).alloc (.cells #[a, b] T)) ((w.alloc o1).alloc (.cells #[a, b] T)).heap.size 2 (some ⟨w.heap.size + 1, 0, none⟩) 1 [a, b] :=
  ⟨rfl, fun _ => ⟨_, rfl, by simp, fun j u hu => by
    rw [Lg.add_eq, Lg.cell_at (heap_alloc2_new w o1 _)]
    simpa using hu⟩⟩
def Env (w : World) : Prop := (∃ m, w.cell? ⟨2, 0, none⟩ = some (.int .i64 m)) ∧ Tab w
theorem cell_lt {w : World} {a : Addr} {v : Value} (h : w.cell? a = some v) : a.block < w.heap.size := by
  unfold World.cell? at h
  rcases Nat.lt_or_ge a.block w.heap.size with h1 | h1
  · exact h1
  · rw [Array.getElem?_eq_none h1] at h; cases h
theorem Env.below {w w' : World} (h : Env w) (hb : Below w.heap.size w w') : Env w' := by
  obtain ⟨⟨m, h1⟩, h2⟩ := h
  exact ⟨⟨m, (hb.cell (cell_lt h1)).trans h1⟩, h2.on hb⟩
theorem infoF : ∃ z, (Tryz.prog.info? 203).map (fun i => (i.zero, i.size, i.bytes)) = some (some z, 2, 32) ∧ z.cells.size = 2 := ⟨.agg #[.string ⟨#[]⟩, .string ⟨#[]⟩], by kernel_rfl, rfl⟩
end Go.Proofs.YtifiipmmgnmciaaGreatDoor.Fs
namespace Go.Proofs.YtifiipmmgnmciaaGreatDoor.Fs
open Go.RowKit
set_option linter.unusedVariables false
set_option maxRecDepth 100000
section
variable {α : Type}
def idx (p : α → Bool) (l : List α) : Int :=
  match l.findIdx? p with
  | some i => i
  | none => -1
def NoneTo (p : α → Bool) (l : List α) (k : Nat) : Prop := ∀ j (hj : j < l.length), j < k → p l[j] = false
theorem NoneTo.zero (p : α → Bool) (l : List α) : NoneTo p l 0 := fun j _ h => by omega
theorem NoneTo.next {p : α → Bool} {l : List α} {k : Nat} (hk : k < l.length) (h : NoneTo p l k) (hp : p l[k] = false) : NoneTo p l (k + 1) := fun j hj h1 => by
  rcases Nat.lt_or_ge j k with h2 | h2
  · exact h j hj h2
  · obtain rfl : j = k := by omega
    exact hp
theorem idx_hit {p : α → Bool} {l : List α} {k : Nat} (hk : k < l.length) (h : NoneTo p l k) (hp : p l[k] = true) : idx p l = k := by
  have : l.findIdx? p = some k := by
    rw [List.findIdx?_eq_some_iff_getElem]
    exact ⟨hk, hp, fun j hj => by rw [h j (by omega) hj]; simp⟩
  rw [idx, this]
theorem idx_miss {p : α → Bool} {l : List α} (h : NoneTo p l l.length) : idx p l = -1 := by
  have : l.findIdx? p = none := by
    rw [List.findIdx?_eq_none_iff]
    intro x hx
    obtain ⟨j, hj, rfl⟩ := List.mem_iff_getElem.1 hx
    exact h j hj hj
  rw [idx, this]
theorem idx_cases (p : α → Bool) (l : List α) : (idx p l = -1 ∧ l.find? p = none) ∨ ∃ (k : Nat) (hk : k < l.length), idx p l = k ∧ l.find? p = some l[k] := by
  rw [idx]
  cases e : l.findIdx? p with
  | none =>
    rw [List.findIdx?_eq_none_iff] at e
    exact .inl ⟨rfl, List.find?_eq_none.2 fun x hx => by simp [e x hx]⟩
  | some i =>
    obtain ⟨hi, hp, hn⟩ := List.findIdx?_eq_some_iff_getElem.1 e
    refine .inr ⟨i, hi, rfl, ?_⟩
    rw [List.find?_eq_some_iff_getElem]
    exact ⟨hp, i, hi, rfl, fun j hj => by simpa using hn j hj⟩
end
theorem indexF_any (g : Nat) (lb : Array Value) (eg : ∀ args w, (callFunc g args).run Tryz.prog w = .ok (.enter g args) w) (p : Fl → Bool) (A : Option Addr) (l : List Fl) (c : Nat) (w : World) (hr : Fls w A l) (hl : l.length ≤ 1000000000)
    (hp : ∀ f ∈ l, ∀ W, Below w.heap.size w W → Calls Tryz.prog g (#[.agg #[.string f.p, .string f.d]] ++ lb) W fun e w' => e = .returned (.bool (p f)) ∧ Below W.heap.size W w') :
    Calls Tryz.prog 196 #[.slice A l.length c, .func (.func g) #[] lb] w fun e w' => e = .returned (.int .i64 (idx p l)) ∧ Below w.heap.size w w' := by
  have RD : Hid (∀ W, Below w.heap.size w W → Reads W w.heap.size 2 A l.length (fc l)) := Lib.hid fun W hW => hr.below hW
  have PR := Lib.hid hp
  clear hr hp
  go_enter Tryz.func196, Tryz.ntmps196
  go_wp2_with (fail)
  go_loopw [8] (fun i W => ∃ k : Nat, i = .int .i64 k ∧ k ≤ l.length ∧ NoneTo p l k ∧ Below w.heap.size w W) (fun i _ => l.length - (intOf i).toNat)
  case atStart => exact ⟨0, rfl, by omega, NoneTo.zero _ _, Below.refl _ _⟩
  case round =>
    obtain ⟨k, rfl, hk, ha, hb⟩ := hrel
    have HA := Lib.hid ha
    clear ha
    by_cases hlt : k < l.length
    · have hkI : (k : Int) < (l.length : Int) := by omega
      obtain ⟨ad, rfl, had, c0, c1⟩ := Fls.at_ (RD.out _ hb) hlt
      have AF := Lib.hid (PR.out l[k] (List.getElem_mem hlt) _ hb)
      have NXT := Lib.hid (NoneTo.next hlt HA.out)
      have HIT := Lib.hid (idx_hit hlt HA.out)
      generalize l[k] = f at *
      cases hp : p f
      · rw [hp] at AF
        have F := Lib.hid (NXT.out hp)
        clear hp HIT
        go_wp2_with (go_at_fn g; ((with_reducible refine (AF.out).mono ?_); rintro e w1 ⟨rfl, hb1⟩))
        go_roundw
        case rel => exact ⟨k + 1, by go_num, by omega, F.out, hb.trans (hb1.mono hb.size)⟩
        case measure => simp [intOf]; omega
      · rw [hp] at AF
        have F := Lib.hid (HIT.out hp)
        clear hp NXT
        go_wp2_with (go_at_fn g; ((with_reducible refine (AF.out).mono ?_); rintro e w1 ⟨rfl, hb1⟩))
        go_ret
        exact ⟨Lg.ret_int F.out, hb.trans (hb1.mono hb.size)⟩
    · obtain rfl : k = l.length := by omega
      have F := Lib.hid (idx_miss HA.out)
      go_wp2_with (fail)
      go_ret
      exact ⟨Lg.ret_int F.out, hb⟩
end Go.Proofs.YtifiipmmgnmciaaGreatDoor.Fs
namespace Go.Proofs.YtifiipmmgnmciaaGreatDoor.Fs
open Go.RowKit Go.Maps
set_option linter.unusedVariables false
set_option maxRecDepth 100000
def KnAt (w : World) (m n : Nat) (f : B → Option ByteArray) : Prop :=
  ∃ D : DataW Unit, w.ownsMap Tryz.prog 9 (plainElem Tryz.prog 9) m n D ∧ ∀ s : ByteArray, Maps.has D (.string s.data.toList) = (f (tl s)).isSome ∧ D.atKey (.string s.data.toList) (.lit (.string [])) = .lit (.string (tl ((f (tl s)).getD ⟨#[]⟩)))
end Go.Proofs.YtifiipmmgnmciaaGreatDoor.Fs
/- FsPathsB, what a claim needs of it (prune.py). -/
namespace Go.Proofs.YtifiipmmgnmciaaGreatDoor.Fs
open Go.RowKit
set_option linter.unusedVariables false
set_option maxRecDepth 100000
def rest (s p : B) : B := Lib.trimPrefix s (p ++ [47])
theorem below_cases (s p : B) : (Lib.hasPrefix s (p ++ [47]) = false ∧ belowB s p = none) ∨ (Lib.hasPrefix s (p ++ [47]) = true ∧ rest s p = [] ∧ belowB s p = none) ∨ (Lib.hasPrefix s (p ++ [47]) = true ∧ rest s p ≠ [] ∧ belowB s p = some (rest s p)) := by
  cases h : Lib.hasPrefix s (p ++ [47]) with
  | false =>
    refine .inl ⟨rfl, ?_⟩
    unfold belowB
    rw [if_neg]
    intro hh
    have : Lib.hasPrefix s (p ++ [47]) = true := List.isPrefixOf_iff_prefix.2 hh.1
    rw [h] at this; cases this
  | true =>
    have hp : (p ++ [47]) <+: s := List.isPrefixOf_iff_prefix.1 h
    have hr : rest s p = s.drop (p.length + 1) := by
      unfold rest Lib.trimPrefix
      rw [if_pos h]; simp
    have hl := hp.length_le
    simp only [List.length_append, List.length_singleton] at hl
    by_cases h1 : p.length + 1 < s.length
    · refine .inr (.inr ⟨rfl, ?_, ?_⟩)
      · rw [hr]
        intro e
        have := congrArg List.length e
        simp at this
        omega
      · unfold belowB
        rw [if_pos ⟨hp, h1⟩, hr]
    · refine .inr (.inl ⟨rfl, ?_, ?_⟩)
      · rw [hr]
        exact List.drop_eq_nil_of_le (by omega)
      · unfold belowB
        rw [if_neg (fun hh => h1 hh.2)]
theorem below_raw (s p : ByteArray) (hp : p.size ≤ 1000000000) (w : World) (r : B) (h : Bool) (CP : Hid (Calls Tryz.prog 237 #[.string s, .string (p ++ ⟨#[47]⟩)] w fun e w' => e = .returned (.tuple #[.string (bs r), .bool h]) ∧ w = w')) :
    Calls Tryz.prog 172 #[.string s, .string p] w fun e w' => e = .returned (.tuple #[.string (bs r), .bool (h && !r.isEmpty)]) ∧ w = w' := by
  cases h
  · go_enter Tryz.func172, Tryz.ntmps172
    go_wp2_with (go_at_call 237; ((with_reducible refine (CP.out).mono ?_); rintro e w1 ⟨rfl, rfl⟩))
    go_ret2
    exact ⟨rfl, rfl⟩
  · by_cases hr : r = []
    · subst hr
      go_enter Tryz.func172, Tryz.ntmps172
      go_wp2_with (go_at_call 237; ((with_reducible refine (CP.out).mono ?_); rintro e w1 ⟨rfl, rfl⟩; rw [bs_nil]))
      go_ret2
      exact ⟨rfl, rfl⟩
    · have g := bs_ne hr
      have HE : Hid (r.isEmpty = false) := Lib.hid (by simpa using hr)
      clear hr
      go_enter Tryz.func172, Tryz.ntmps172
      go_wp2_with (go_at_call 237; ((with_reducible refine (CP.out).mono ?_); rintro e w1 ⟨rfl, rfl⟩))
      go_ret2
      exact ⟨by rw [HE.out]; rfl, rfl⟩
theorem cut_any (s q : ByteArray) (p : B) (e : q.data.toList = p) (w : World) :
    Calls Tryz.prog 237 #[.string s, .string q] w fun e w' => e = .returned (.tuple #[.string (bs (Lib.trimPrefix (tl s) p)), .bool (Lib.hasPrefix (tl s) p)]) ∧ w = w' := by
  subst e
  refine (Tryz.strings_CutPrefix s q w).mono ?_
  rintro e w' ⟨h1, h2⟩
  exact ⟨h1, h2.symm⟩
theorem below_any (s p : ByteArray) (hp : p.size ≤ 1000000000) (w : World) :
    Calls Tryz.prog 172 #[.string s, .string p] w fun e w' => e = .returned (.tuple #[.string (bs (rest (tl s) (tl p))), .bool (belowB (tl s) (tl p)).isSome]) ∧ w = w' := by
  have CP := Lib.hid (cut_any s (p ++ ⟨#[47]⟩) (tl p ++ [47]) (by rw [ByteArray.data_append]; simp) w)
  have h := below_raw s p hp w (rest (tl s) (tl p)) _ CP
  have e : (Lib.hasPrefix (tl s) (tl p ++ [47]) && !(rest (tl s) (tl p)).isEmpty) = (belowB (tl s) (tl p)).isSome := by
    rcases below_cases (tl s) (tl p) with ⟨h1, h2⟩ | ⟨h1, h2, h3⟩ | ⟨h1, h2, h3⟩
    · rw [h1, h2]; rfl
    · rw [h1, h2, h3]; rfl
    · rw [h1, h3]; simpa using h2
  rw [e] at h
  exact h
def FilesSay (m : List Fl) (w : World) (e : Ending) (w' : World) : Prop := (∃ A c, e = .returned (.slice A m.length c) ∧ Fls w' A m ∧ m.length ≤ c) ∧ Below w.heap.size w w'
theorem own_fls {w w0 : World} {v : Value} {m : List Fl} {n B : Nat} (h : w.ownsRow B 203 2 v n (fc m)) (hn : m.length = n) (hb : Below w0.heap.size w0 w) : FilesSay m w0 (.returned v) w := by
  subst hn
  have hv : ∃ A c, v = .slice A m.length c ∧ m.length ≤ c := by
    rcases h.2 with ⟨rfl, h0⟩ | ⟨g, cap, cur, rfl, hB, hg, h1, _⟩
    · exact ⟨none, 0, by rw [h0], by omega⟩
    · exact ⟨_, _, rfl, h1⟩
  obtain ⟨A, c, rfl, hc⟩ := hv
  exact ⟨⟨A, c, rfl, Reads.of_own h, hc⟩, hb⟩
def FilesOwn (m : List Fl) (w : World) (e : Ending) (w' : World) : Prop := ∃ v, e = .returned v ∧ w'.ownsRow w.heap.size 203 2 v m.length (fc m) ∧ Below w.heap.size w w'
end Go.Proofs.YtifiipmmgnmciaaGreatDoor.Fs
/- FsCode, what a claim needs of it (prune.py). -/
namespace Go.Proofs.YtifiipmmgnmciaaGreatDoor.Fs
set_option linter.unusedVariables false
def rightAt (l : List En) (i : Nat) (h : i < l.length) : Prop := Lg.pathOk l[i].n = true ∧ (47 : UInt8) ∉ l[i].n ∧ l[i].g.length = 32 ∧ (0 < i → (l[i - 1]'(by omega)).n < l[i].n)
def Right (l : List En) : Prop := ∀ i (h : i < l.length), rightAt l i h
noncomputable def rightB (l : List En) : Bool := @decide (Right l) (Classical.propDecidable _)
def left (r : Pk.Rd) : Nat := if r.bad = 0 then r.rest.length else 0
end Go.Proofs.YtifiipmmgnmciaaGreatDoor.Fs
namespace Go.Proofs.YtifiipmmgnmciaaGreatDoor.Fs
set_option linter.unusedVariables false
def badF (f : Fl) : Option Int := if Lg.pathOk (tl f.p) = false then some 13 else if 2048 < f.d.size then some 15 else none
def Twice (l : List Fl) : Prop := (∃ i, ∃ (h : i < l.length), 0 < i ∧ ¬ tl (l[i - 1]'(by omega)).p < tl l[i].p) ∨ ∃ i, ∃ (h : i < l.length), ∃ k, ∃ (hk : k < l.length), (belowB (tl l[i].p) (tl l[k].p)).isSome = true
noncomputable def checkE (l : List Fl) : Int :=
  match l.findSome? badF with
  | some c => c
  | none => if 32 < l.length then 15 else @ite _ (Twice l) (Classical.propDecidable _) 16 0
theorem find_none {l : List Fl} (h : ∀ j (hj : j < l.length), j < l.length → badF l[j] = none) : l.findSome? badF = none := List.findSome?_eq_none_iff.2 fun f hf => by
  obtain ⟨j, hj, rfl⟩ := List.mem_iff_getElem.1 hf
  exact h j hj hj
theorem check_good {l : List Fl} (h : ∀ j (hj : j < l.length), j < l.length → badF l[j] = none) (h2 : ¬ 32 < l.length) (h3 : ¬ Twice l) : checkE l = 0 := by
  unfold checkE
  rw [find_none h]
  simp only
  rw [if_neg h2, if_neg h3]
end Go.Proofs.YtifiipmmgnmciaaGreatDoor.Fs
namespace Go.Proofs.YtifiipmmgnmciaaGreatDoor.Fs
set_option linter.unusedVariables false
set_option maxRecDepth 100000
noncomputable def firstE (l : List Fl) : List B := if rightB (dir l) = true then [bytesE (dir l)] else []
end Go.Proofs.YtifiipmmgnmciaaGreatDoor.Fs
/- FsCheck, what a claim needs of it (prune.py). -/
namespace Go.Proofs.YtifiipmmgnmciaaGreatDoor.Fs
open Go.RowKit
set_option linter.unusedVariables false
set_option maxRecDepth 100000
theorem idx_any {α : Type} (p : α → Bool) (l : List α) : decide ((0 : Int) ≤ idx p l) = l.any p := by
  rcases idx_cases p l with ⟨h1, h2⟩ | ⟨k, hk, h1, h2⟩
  · rw [h1]
    have : l.any p = false := by
      rw [List.any_eq_false]
      intro x hx
      have := List.find?_eq_none.1 h2 x hx
      simpa using this
    rw [this]; rfl
  · rw [h1, decide_eq_true (by omega : (0 : Int) ≤ (k : Int))]
    symm
    rw [List.any_eq_true]
    exact ⟨l[k], List.getElem_mem hk, (List.find?_eq_some_iff_getElem.1 h2).1⟩
end Go.Proofs.YtifiipmmgnmciaaGreatDoor.Fs
/- FsMemE, what a claim needs of it (prune.py). -/
namespace Go.Proofs.YtifiipmmgnmciaaGreatDoor.Fs
open Go.RowKit Go.Maps
set_option linter.unusedVariables false
set_option maxRecDepth 100000
theorem infoE : ∃ z, (Tryz.prog.info? 468).map (fun i => (i.zero, i.size, i.bytes)) = some (some z, 3, 40) ∧ z.cells.size = 3 := ⟨.agg #[.string ⟨#[]⟩, .bool false, .string ⟨#[]⟩], by kernel_rfl, rfl⟩
end Go.Proofs.YtifiipmmgnmciaaGreatDoor.Fs
