/- Joined by mkmerged.py: LgSpec, LgWords, LgCells, LgSplit, LgMix. -/
import Derived.Lib.ItoaNum
import Derived.Test.YtlndnpfjneeeeaaGreatDoorProg
import Derived.WalkKit
import Derived.Lib.Strings
import Derived.Lib.Hide
import Derived.Test.YtlndnpfjneeeeaaGreatDoorMh02
import Derived.Deep.RegionWith
import Derived.Laws.ResultCell
import Derived.Laws.Rows
import Derived.Laws.NewBlocks
import Derived.Test.YtlndnpfjneeeeaaGreatDoorMh01
import Derived.Lib.SplitLaws
import Derived.Shelf.Strings.PiecesUse
import Derived.Test.YtlndnpfjneeeeaaGreatDoorMhKm
/- LgSpec, what a claim needs of it (prune.py). -/
namespace Go.Proofs.YtlndnpfjneeeeaaGreatDoor.Lg
set_option linter.unusedVariables false
abbrev B := List UInt8
def splitB (c : UInt8) : B → List B
  | [] => [[]]
  | x :: r => if x = c then [] :: splitB c r else
    match splitB c r with
    | h :: t => (x :: h) :: t
    | [] => [[x]]
theorem splitB_ne (c : UInt8) : ∀ s, splitB c s ≠ []
  | [] => by simp [splitB]
  | x :: r => by
    unfold splitB
    split
    · simp
    · split <;> simp
def joinB (c : UInt8) : List B → B
  | [] => []
  | [x] => x
  | x :: y :: r => x ++ c :: joinB c (y :: r)
theorem split_app {c : UInt8} : ∀ {p : B}, c ∉ p → ∀ s, splitB c (p ++ c :: s) = p :: splitB c s
  | [], _, s => by simp [splitB]
  | x :: p, h, s => by
    have hx : x ≠ c := fun e => h (by simp [e])
    rw [List.cons_append, splitB, if_neg hx, split_app (fun e => h (by simp [e])) s]
theorem split_free {c : UInt8} : ∀ {p : B}, c ∉ p → splitB c p = [p]
  | [], _ => rfl
  | x :: p, h => by
    have hx : x ≠ c := fun e => h (by simp [e])
    rw [splitB, if_neg hx, split_free (fun e => h (by simp [e]))]
theorem split_len (c : UInt8) : ∀ s, (splitB c s).length ≤ s.length + 1
  | [] => by simp [splitB]
  | x :: r => by
    have ih := split_len c r
    unfold splitB
    split
    · simp; omega
    · split
      · next e => rw [e] at ih; simp at ih ⊢; omega
      · simp
theorem split_part (c : UInt8) : ∀ s, ∀ p ∈ splitB c s, p.length ≤ s.length
  | [], p, h => by simp [splitB] at h; simp [h]
  | x :: r, p, h => by
    have ih := split_part c r
    unfold splitB at h
    split at h
    · rcases List.mem_cons.1 h with rfl | h
      · simp
      · have := ih p h; simp; omega
    · split at h
      · next e =>
        rw [e] at ih
        rcases List.mem_cons.1 h with rfl | h
        · have := ih _ (List.mem_cons_self ..)
          simp; omega
        · have := ih p (List.mem_cons_of_mem _ h); simp; omega
      · next e => exact absurd e (splitB_ne c r)
def printable (c : UInt8) : Bool := decide (33 ≤ c.toNat) && decide (c.toNat ≤ 126)
def partOk (p : B) : Bool := p.all printable && !p.isEmpty && !(p == [46]) && !(p == [46, 46])
def pathOk (s : B) : Bool := decide (1 ≤ s.length) && decide (s.length ≤ 48) && (splitB 47 s).all partOk
def nameByte (c : UInt8) : Bool := c == 45 || c == 95 || (decide (48 ≤ c.toNat) && decide (c.toNat ≤ 57)) || (decide (97 ≤ c.toNat) && decide (c.toNat ≤ 122))
def nameOk (s : B) : Bool := decide (1 ≤ s.length) && decide (s.length ≤ 16) && s.all nameByte
def textOk (s : B) : Bool := decide (1 ≤ s.length) && decide (s.length ≤ 32) && s.all printable
def number : B → Option Nat
  | [c] => if 48 ≤ c.toNat ∧ c.toNat ≤ 57 then some (c.toNat - 48) else none
  | [c, d] => if 49 ≤ c.toNat ∧ c.toNat ≤ 57 ∧ 48 ≤ d.toNat ∧ d.toNat ≤ 57 then some (10 * (c.toNat - 48) + (d.toNat - 48)) else none
  | _ => none
theorem dig_of {c : UInt8} {k : Nat} (h : c.toNat = 48 + k) : UInt8.ofNat (48 + k) = c := by rw [← h]; simp
inductive Stp where
  | mk (op : Int) (args : List B) (n : Int) (block : List Stp)
def Stp.op : Stp → Int | ⟨o, _, _, _⟩ => o
def Stp.args : Stp → List B | ⟨_, a, _, _⟩ => a
def Stp.n : Stp → Int | ⟨_, _, n, _⟩ => n
def Stp.block : Stp → List Stp | ⟨_, _, _, b⟩ => b
def wordsL : List B := [[63], [112, 117, 116], [99, 111, 112, 121], [99, 97, 116], [117, 112, 112, 101, 114], [115, 111, 114, 116], [100, 114, 111, 112], [110, 101, 101, 100], [102, 97, 105, 108], [108, 111, 111, 112], [105, 102]]
def wordOf (op : Int) : B := if 1 ≤ op ∧ op ≤ 10 then wordsL.getD op.toNat [63] else [63]
def stepW : List B → Option (Int × List B × Int)
  | [] => none
  | w :: a =>
    if w = [112, 117, 116] then (if a.length = 2 ∧ (a.take 1).all pathOk = true ∧ (a.drop 1).all textOk = true then some (1, a, 0) else none)
    else if w = [99, 111, 112, 121] then (if a.length = 2 ∧ a.all pathOk = true then some (2, a, 0) else none)
    else if w = [99, 97, 116] then (if 2 ≤ a.length ∧ a.length ≤ 8 ∧ a.all pathOk = true then some (3, a, 0) else none)
    else if w = [117, 112, 112, 101, 114] then (if a.length = 1 ∧ a.all pathOk = true then some (4, a, 0) else none)
    else if w = [115, 111, 114, 116] then (if a.length = 1 ∧ a.all pathOk = true then some (5, a, 0) else none)
    else if w = [100, 114, 111, 112] then (if a.length = 1 ∧ a.all pathOk = true then some (6, a, 0) else none)
    else if w = [110, 101, 101, 100] then (if a.length = 1 ∧ a.all nameOk = true then some (7, a, 0) else none)
    else if w = [102, 97, 105, 108] then (if a.length = 1 ∧ a.all textOk = true then some (8, a, 0) else none)
    else if w = [108, 111, 111, 112] then (match a with | [x] => (match number x with | some k => some (9, [], (k : Int)) | none => none) | _ => none)
    else if w = [105, 102] then (if a.length = 1 ∧ a.all pathOk = true then some (10, a, 0) else none)
    else none
def stepOf (line : B) : Option (Int × List B × Int) := stepW (splitB 32 line)
def endW : B := [101, 110, 100]
def headW (op : Int) (args : List B) (n : Int) : B := joinB 32 (wordOf op :: args) ++ (if op = 9 then 32 :: Lib.itoa n else [])
inductive Res where
  | ok (out : List Stp) (rest : List B)
  | err (e : Nat)
def blk : Nat → Nat → List Stp → List B → Res
  | 0, _, _, _ => .err 0
  | _ + 1, deep, out, [] => if 0 < deep then .err 21 else .ok out []
  | f + 1, deep, out, line :: rest =>
    if line = endW then (if 0 < deep then .ok out rest else .err 21) else
    match stepOf line with
    | none => .err 20
    | some (op, args, n) =>
      if op = 9 ∨ op = 10 then
        if 4 ≤ deep then .err 22 else
        match blk f (deep + 1) [] rest with
        | .err e => .err e
        | .ok inn rest' => blk f deep (out ++ [⟨op, args, n, inn⟩]) rest'
      else blk f deep (out ++ [⟨op, args, n, []⟩]) rest
def bk (deep : Nat) (out : List Stp) (lines : List B) : Res := blk (lines.length + 1) deep out lines
def linesOf : List Stp → List B
  | [] => []
  | ⟨op, args, n, b⟩ :: r => headW op args n :: (if op = 9 ∨ op = 10 then linesOf b ++ [endW] else []) ++ linesOf r
def print (l : List Stp) : B := (linesOf l).flatMap fun s => s ++ [10]
end Go.Proofs.YtlndnpfjneeeeaaGreatDoor.Lg
/- LgWords, what a claim needs of it (prune.py). -/
namespace Go.Proofs.YtlndnpfjneeeeaaGreatDoor.Lg
open Go.RowKit
set_option linter.unusedVariables false
set_option maxRecDepth 100000
abbrev tl (s : ByteArray) : List UInt8 := s.data.toList
theorem tl_inj {a b : ByteArray} (h : tl a = tl b) : a = b := by
  rcases a with ⟨⟨a⟩⟩
  rcases b with ⟨⟨b⟩⟩
  simpa [tl] using h
def bs (l : List UInt8) : ByteArray := ⟨l.toArray⟩
theorem tl_bs (l : List UInt8) : tl (bs l) = l := rfl
theorem tl_len (s : ByteArray) : (tl s).length = s.size := (Lib.size_eq s).symm
theorem tl_get {s : ByteArray} {k : Nat} (hk : k < s.size) : (tl s)[k]? = some (s[k]'hk) := by
  rw [List.getElem?_eq_getElem (by rw [tl_len]; exact hk)]
  rfl
theorem take_next {s : ByteArray} {k : Nat} (hk : k < s.size) : (tl s).take (k + 1) = (tl s).take k ++ [s[k]'hk] := by
  rw [List.take_add_one, tl_get hk]; rfl
theorem take_all (s : ByteArray) : (tl s).take s.size = tl s := List.take_of_length_le (by rw [tl_len]; exact Nat.le_refl _)
theorem all_next {s : ByteArray} {p : UInt8 → Bool} {k : Nat} (hk : k < s.size) : ((tl s).take (k + 1)).all p = (((tl s).take k).all p && p (s[k]'hk)) := by
  rw [take_next hk, List.all_append]; simp
theorem ret_val {a b : Value} (h : b = a) : Ending.returned a = .returned b := by rw [h]
theorem ret_bool {a b : Bool} (h : b = a) : Ending.returned (.bool a) = .returned (.bool b) := by rw [h]
theorem ret_int {k : IntKind} {a b : Int} (h : b = a) : Ending.returned (.int k a) = .returned (.int k b) := by rw [h]
theorem empty_of {s : ByteArray} (h : s.size = 0) : s = ⟨#[]⟩ := tl_inj (List.eq_nil_of_length_eq_zero (by rw [tl_len]; exact h))
theorem s_ne {a b : ByteArray} (h : a ≠ b) : (a.toList == b.toList) = false := by
  rw [Lib.toList_data, Lib.toList_data]
  exact beq_eq_false_iff_ne.2 (fun e => h (tl_inj e))
theorem some_ne {s : ByteArray} (h : s.size ≠ 0) : s.toList.isEmpty = false := by
  rw [Lib.toList_data]
  cases e : tl s with
  | nil => exact absurd (by rw [← tl_len, e]; rfl) h
  | cons a l => simp [tl] at e; simp [e]
def Strs (w : World) (A : Option Addr) (l : List ByteArray) : Prop := Reads w w.heap.size 1 A l.length (l.map Value.string)
theorem Strs.below {w w' : World} {A : Option Addr} {l : List ByteArray} (h : Strs w A l) (hb : Below w.heap.size w w') : Strs w' A l := (Reads.below h hb).more hb.size
theorem Strs.at_ {w : World} {A : Option Addr} {l : List ByteArray} (h : Strs w A l) {k : Nat} (hk : k < l.length) : ∃ ad, A = some ad ∧ ad.block < w.heap.size ∧ w.cell? (ad.add k) = some (.string l[k]) := by
  obtain ⟨ad, u, h1, h2, h3, h4⟩ := Reads.at_ h hk
  refine ⟨ad, h1, h2, ?_⟩
  rw [h4]
  simp [hk] at h3
  rw [← h3]
theorem pr_cases (c : UInt8) : (printable c = true ∧ ¬ (c.toNat : Int) < 33 ∧ ¬ (126 : Int) < c.toNat) ∨ (printable c = false ∧ ((c.toNat : Int) < 33 ∨ (¬ (c.toNat : Int) < 33 ∧ (126 : Int) < c.toNat))) := by
  unfold printable
  generalize c.toNat = n
  simp only [Bool.and_eq_true, decide_eq_true_eq, Bool.and_eq_false_iff, decide_eq_false_iff_not]
  omega
end Go.Proofs.YtlndnpfjneeeeaaGreatDoor.Lg
/- LgCells, what a claim needs of it (prune.py). -/
namespace Go.Proofs.YtlndnpfjneeeeaaGreatDoor.Lg
open Go.RowKit
set_option linter.unusedVariables false
set_option maxRecDepth 100000
theorem lt_heap {w : World} {b : Nat} {o : Obj} (h : w.heap[b]? = some o) : b < w.heap.size := (Array.getElem?_eq_some_iff.1 h).1
theorem infoS : (Tryz.prog.info? 9).map (fun i => (i.zero, i.size, i.bytes)) = some (some (.string ⟨#[]⟩), 1, 16) := by kernel_rfl
theorem info_parts {o : Option TypeInfo} {z : Value} {a b : Nat} (h : o.map (fun i => (i.zero, i.size, i.bytes)) = some (some z, a, b)) : ∃ i, o = some i ∧ i.zero = some z ∧ i.size = a ∧ i.bytes = b := by
  cases o with
  | none => cases h
  | some i =>
    simp only [Option.map_some, Option.some.injEq, Prod.mk.injEq] at h
    exact ⟨i, rfl, h.1, h.2.1, h.2.2⟩
theorem add_eq (g k : Nat) : (⟨g, 0, none⟩ : Addr).add k = ⟨g, k, none⟩ := by
  unfold Addr.add; split <;> simp_all
theorem cell_at {w : World} {b : Nat} {cs : Array Value} {T : TypeId} (h : w.heap[b]? = some (.cells cs T (0, 0))) (i : Nat) : w.cell? ⟨b, i, none⟩ = cs[i]? := cell_of_row w b i cs T (0, 0) h
theorem heap_new (w : World) (o : Obj) : (w.alloc o).heap[w.heap.size]? = some o := heap_alloc_new w o
theorem reads_one {w : World} {g : Nat} {u : Value} {T : TypeId} (h : w.heap[g]? = some (.cells #[u] T (0, 0))) : Reads w (g + 1) 1 (some ⟨g, 0, none⟩) 1 [u] := by
  refine ⟨rfl, fun _ => ⟨_, rfl, Nat.lt_succ_self _, fun j y hj => ?_⟩⟩
  rw [add_eq, cell_at h]
  simpa using hj
theorem mem1 {u : Value} (h0 : u.oneCell' = true) : ∀ y ∈ [u], y.oneCell' = true := by
  intro y hy
  rw [List.mem_singleton.1 hy]; exact h0
end Go.Proofs.YtlndnpfjneeeeaaGreatDoor.Lg
/- LgSplit, what a claim needs of it (prune.py). -/
namespace Go.Proofs.YtlndnpfjneeeeaaGreatDoor.Lg
open Go.RowKit
set_option linter.unusedVariables false
set_option maxRecDepth 100000
theorem split_one (c : UInt8) : ∀ s : List UInt8, Lib.splitK [c] 0 (Lib.count s [c]) s = splitB c s
  | [] => by rw [Lib.count_one]; rfl
  | b :: r => by
    have ih := split_one c r
    by_cases h : b = c
    · subst h
      have hix : Lib.index (b :: r) [b] = 0 := by rw [Lib.index]; simp [List.isPrefixOf]
      rw [Lib.count_cons_eq, Nat.add_comm 1, Lib.splitK, hix, splitB, if_pos rfl, ← ih]
      simp
    · have hp : ([c] : List UInt8).isPrefixOf (b :: r) = false := by simp [List.isPrefixOf, Ne.symm h]
      have hix : Lib.index (b :: r) [c] = if Lib.index r [c] == -1 then -1 else Lib.index r [c] + 1 := by rw [Lib.index, hp]; simp
      rw [Lib.count_cons_ne b c r h, splitB, if_neg h, ← ih]
      by_cases hm : Lib.index r [c] = -1
      · rw [Lib.count_miss hm]; rfl
      · have hge := Lib.index_ge r [c]
        obtain ⟨j, hj⟩ : ∃ j : Nat, Lib.index r [c] = j := ⟨(Lib.index r [c]).toNat, by omega⟩
        have hc := Lib.count_hit (by simp : [c] ≠ ([] : List UInt8)) hj
        rw [hc, Nat.add_comm 1, Lib.splitK, Lib.splitK]
        have hm1 : (Lib.index r [c] == -1) = false := by simp [hm]
        rw [hm1] at hix ⊢
        have hm2 : (Lib.index (b :: r) [c] == -1) = false := by rw [hix]; simp; omega
        rw [hm2]
        simp only [Bool.false_eq_true, if_false] at hix ⊢
        have e1 : (Lib.index (b :: r) [c]).toNat = j + 1 := by rw [hix, hj]; omega
        have e2 : (Lib.index r [c]).toNat = j := by rw [hj]; rfl
        rw [e1, e2]
        simp
def pieces (c : UInt8) (s : ByteArray) : List ByteArray := (splitB c (tl s)).map bs
theorem map_bs_tl (l : List ByteArray) : (l.map tl).map bs = l := by
  rw [List.map_map]
  conv => rhs; rw [← List.map_id l]
  rfl
theorem splitB_pieces (c : UInt8) (s : ByteArray) : Lib.splitB ⟨#[c]⟩ 0 (Lib.countB s ⟨#[c]⟩) s = pieces c s := by
  have h := Lib.splitB_data ⟨#[c]⟩ 0 (Lib.countB s ⟨#[c]⟩) s
  have h2 : Lib.countB s ⟨#[c]⟩ = Lib.count (tl s) [c] := rfl
  rw [h2] at h ⊢
  have h3 : (Lib.splitB ⟨#[c]⟩ 0 (Lib.count (tl s) [c]) s).map tl = splitB c (tl s) := by rw [← split_one]; exact h
  rw [pieces, ← h3, map_bs_tl]
theorem pieces_len (c : UInt8) (s : ByteArray) : (pieces c s).length ≤ s.size + 1 := by
  have := split_len c (tl s)
  rw [tl_len] at this
  simpa [pieces] using this
theorem pieces_count (c : UInt8) (s : ByteArray) : Lib.countB s ⟨#[c]⟩ + 1 = (pieces c s).length := by
  rw [← splitB_pieces, Lib.splitB_all ⟨#[c]⟩ (by show 1 ≤ 1; omega) 0 _ s rfl]
theorem pieces_part (c : UInt8) (s : ByteArray) : ∀ p ∈ pieces c s, p.size ≤ s.size := by
  intro p hp
  obtain ⟨q, hq, rfl⟩ := List.mem_map.1 hp
  have := split_part c (tl s) q hq
  rw [tl_len] at this
  rw [← tl_len, tl_bs]; exact this
theorem Strs.new (w : World) (l : List ByteArray) (t : TypeId) : Strs (w.alloc (.cells (l.map Value.string).toArray t)) (some ⟨w.heap.size, 0, none⟩) l := by
  refine ⟨by simp, fun hn => ⟨_, rfl, by simp, fun j u hu => ?_⟩⟩
  rw [List.getElem?_map] at hu
  obtain ⟨x, hx, rfl⟩ := Option.map_eq_some_iff.1 hu
  have h : (⟨w.heap.size, 0, none⟩ : Addr).add j = ⟨w.heap.size, j, none⟩ := by
    unfold Addr.add; split <;> simp_all
  rw [h]; exact Lib.pieces_cell_at w l t j x hx
theorem split_any (s : ByteArray) (c : UInt8) (m : Int) (w : World) (hs : s.size ≤ 1000000000) (hm : w.cell? ⟨0, 0, none⟩ = some (.int .i64 m)) :
    Calls Tryz.prog 190 #[.string s, .string ⟨#[c]⟩] w fun e w' => e = .returned (.slice (some ⟨w.heap.size, 0, none⟩) (pieces c s).length (pieces c s).length) ∧ w' = w.alloc (.cells ((pieces c s).map Value.string).toArray 9) := by
  refine (Tryz.strings_Split s ⟨#[c]⟩ m w (by omega) hm (by show 1 ≤ 1; omega)).mono ?_
  rintro e w' ⟨h1, h2⟩
  rw [splitB_pieces] at h2
  rw [pieces_count] at h1
  exact ⟨h1, h2⟩
end Go.Proofs.YtlndnpfjneeeeaaGreatDoor.Lg
namespace Go.Proofs.YtlndnpfjneeeeaaGreatDoor.Lg
open Go.RowKit
set_option linter.unusedVariables false
set_option maxRecDepth 100000
theorem l_ne {a : ByteArray} {l : List UInt8} (h : a ≠ bs l) : ¬ a.toList = l := by
  rw [Lib.toList_data]
  exact fun e => h (tl_inj e)
def dots (p : ByteArray) : Bool := (tl p).isEmpty || tl p == [46] || tl p == [46, 46]
def oddTo (p : ByteArray) (j : Nat) : Bool := dots p || !((tl p).take j).all printable
theorem oddTo_zero (p : ByteArray) : oddTo p 0 = dots p := by simp [oddTo]
theorem oddTo_next {p : ByteArray} {j : Nat} (hj : j < p.size) : oddTo p (j + 1) = (oddTo p j || !printable (p[j]'hj)) := by
  simp only [oddTo, all_next hj, Bool.not_and, Bool.or_assoc]
theorem oddTo_end (p : ByteArray) : oddTo p p.size = !partOk (tl p) := by
  simp only [oddTo, take_all, dots, partOk, Bool.not_and, Bool.not_not]
  cases (tl p).all printable <;> cases (tl p).isEmpty <;> cases tl p == [46] <;> cases tl p == [46, 46] <;> rfl
def pathE (s : List UInt8) : Int := if pathOk s = true then 0 else 13
theorem pathE_no {s : ByteArray} (h : s.size < 1 ∨ 48 < s.size) : pathE (tl s) = 13 := by
  have : pathOk (tl s) = false := by
    have e : (decide (1 ≤ s.size) && decide (s.size ≤ 48)) = false := by
      simp only [Bool.and_eq_false_iff, decide_eq_false_iff_not]; omega
    unfold pathOk
    rw [tl_len, e]; rfl
  rw [pathE, this]; rfl
theorem pieces_get {c : UInt8} {s : ByteArray} {k : Nat} (hk : k < (pieces c s).length) : (splitB c (tl s))[k]? = some (tl ((pieces c s)[k]'hk)) := by
  have hk' : k < (splitB c (tl s)).length := by simpa [pieces] using hk
  rw [List.getElem?_eq_getElem hk']
  simp [pieces, tl_bs]
theorem pathE_bad {s : ByteArray} {k : Nat} (hk : k < (pieces 47 s).length) (h : partOk (tl ((pieces 47 s)[k]'hk)) = false) : pathE (tl s) = 13 := by
  have : pathOk (tl s) = false := by
    cases e : pathOk (tl s) with
    | false => rfl
    | true =>
      simp only [pathOk, Bool.and_eq_true, List.all_eq_true] at e
      have := e.2 _ (List.mem_of_getElem? (pieces_get hk))
      rw [h] at this; cases this
  rw [pathE, this]; rfl
theorem pathE_ok {s : ByteArray} (h1 : 1 ≤ s.size) (h2 : s.size ≤ 48) (h : ∀ j (hj : j < (pieces 47 s).length), j < (pieces 47 s).length → partOk (tl ((pieces 47 s)[j]'hj)) = true) : pathE (tl s) = 0 := by
  have : pathOk (tl s) = true := by
    have ha : (splitB 47 (tl s)).all partOk = true := by
      rw [List.all_eq_true]
      intro x hx
      obtain ⟨j, hj⟩ := List.mem_iff_getElem?.1 hx
      obtain ⟨hj', e⟩ := List.getElem?_eq_some_iff.1 hj
      have hj2 : j < (pieces 47 s).length := by simpa [pieces] using hj'
      have := pieces_get hj2
      rw [hj] at this
      injection this with this
      rw [this]
      exact h j hj2 hj2
    rw [pathOk, ha, tl_len]; simp; omega
  rw [pathE, this]; rfl
theorem upto_next {l : List ByteArray} {p : ByteArray → Bool} {k : Nat} (hk : k < l.length) (h : ∀ j (hj : j < l.length), j < k → p l[j] = true) (h2 : p l[k] = true) : ∀ j (hj : j < l.length), j < k + 1 → p l[j] = true := by
  intro j hj hlt
  rcases Nat.lt_or_ge j k with h3 | h3
  · exact h j hj h3
  · obtain rfl : j = k := by omega
    exact h2
theorem dots_false {p : ByteArray} (h1 : p ≠ ⟨#[]⟩) (h2 : p ≠ ⟨#[46]⟩) (h3 : p ≠ ⟨#[46, 46]⟩) : dots p = false := by
  unfold dots
  rw [Bool.or_eq_false_iff, Bool.or_eq_false_iff, beq_eq_false_iff_ne, beq_eq_false_iff_ne]
  refine ⟨⟨?_, fun e => h2 (tl_inj e)⟩, fun e => h3 (tl_inj e)⟩
  cases e : tl p with
  | nil => exact absurd (tl_inj e) h1
  | cons a l => rfl
theorem pr_cases2 (c : UInt8) : (printable c = true ∧ ¬ (c.toNat : Int) ≤ 32 ∧ ¬ (126 : Int) < c.toNat) ∨ (printable c = false ∧ ((c.toNat : Int) ≤ 32 ∨ (¬ (c.toNat : Int) ≤ 32 ∧ (126 : Int) < c.toNat))) := by
  unfold printable
  generalize c.toNat = n
  simp only [Bool.and_eq_true, decide_eq_true_eq, Bool.and_eq_false_iff, decide_eq_false_iff_not]
  omega
set_option maxHeartbeats 4000000 in
theorem ppath_any (s : ByteArray) (m : Int) (w : World) (hs : s.size ≤ 1000000000) (hm : w.cell? ⟨0, 0, none⟩ = some (.int .i64 m)) :
    Calls Tryz.prog 97 #[.string s] w fun e w' => e = .returned (.int .i64 (pathE (tl s))) ∧ Below w.heap.size w w' := by
  by_cases h0 : s.size = 0
  · have HN := Lib.hid (pathE_no (s := s) (.inl (by omega)))
    obtain rfl := empty_of h0
    go_enter Tryz.func97, Tryz.ntmps97
    go_wp2_with (fail)
    go_ret
    exact ⟨ret_int HN.out, Below.refl _ _⟩
  · have hne := some_ne h0
    by_cases h16 : (48 : Int) < (s.size : Int)
    · have HN := Lib.hid (pathE_no (s := s) (.inr (by omega)))
      go_enter Tryz.func97, Tryz.ntmps97
      go_wp2_with (fail)
      go_ret
      exact ⟨ret_int HN.out, Below.refl _ _⟩
    · have OK := Lib.hid (pathE_ok (s := s) (by omega) (by omega))
      have BAD : Hid (∀ k (hk : k < (pieces 47 s).length), partOk (tl ((pieces 47 s)[k]'hk)) = false → pathE (tl s) = 13) := Lib.hid (fun k hk h => pathE_bad hk h)
      have SP := Lib.hid (split_any s 47 m w hs hm)
      have hpl : (pieces 47 s).length ≤ 1000000001 := by have := pieces_len 47 s; omega
      have PS : Hid (∀ k (hk : k < (pieces 47 s).length) p, p = (pieces 47 s)[k]'hk → p.size ≤ 1000000000) := Lib.hid (fun k hk p e => by
        have := pieces_part 47 s _ (List.getElem_mem hk)
        rw [e]; omega)
      have CL := Lib.hid (Strs.new w (pieces 47 s) 9)
      have BW : Hid (Below w.heap.size w (w.alloc (.cells ((pieces 47 s).map Value.string).toArray 9))) := Lib.hid ((Below.refl _ _).alloc (Nat.le_refl _) _)
      go_enter Tryz.func97, Tryz.ntmps97
      go_wp2_with (go_at_call 190; ((with_reducible refine (SP.out).mono ?_); rintro e w1 ⟨rfl, rfl⟩))
      generalize w.alloc (.cells ((pieces 47 s).map Value.string).toArray 9) = W1 at *
      generalize pieces 47 s = P at *
      go_loop [17] (fun i => ∃ k : Nat, i = .int .i64 k ∧ k ≤ P.length ∧ ∀ j (hj : j < P.length), j < k → partOk (tl P[j]) = true) (fun i => P.length - (intOf i).toNat)
      case atStart => exact ⟨0, rfl, by omega, fun j _ h => by omega⟩
      case round =>
        obtain ⟨k, rfl, hk, ha⟩ := hrel
        have HA := Lib.hid ha
        clear ha
        by_cases hlt : k < P.length
        · have hkI : (k : Int) < (P.length : Int) := by omega
          obtain ⟨ad, ead, _, hc⟩ := CL.out.at_ hlt
          injection ead with ead
          subst ead
          have c0 : W1.cell? ⟨w.heap.size, k, none⟩ = some (.string P[k]) := by
            have : (⟨w.heap.size, 0, none⟩ : Addr).add k = ⟨w.heap.size, k, none⟩ := by unfold Addr.add; split <;> simp_all
            rw [← this]; exact hc
          clear hc
          have B1 := Lib.hid (BAD.out k hlt)
          have NX := Lib.hid (upto_next (p := fun p => partOk (tl p)) hlt HA.out)
          obtain ⟨p, ep⟩ : ∃ p, p = P[k] := ⟨_, rfl⟩
          rw [← ep] at c0 B1 NX
          have ON : Hid (∀ j (hj : j < p.size), oddTo p (j + 1) = (oddTo p j || !printable (p[j]'hj))) := Lib.hid (fun j hj => oddTo_next hj)
          have OE := Lib.hid (oddTo_end p)
          have hps : p.size ≤ 1000000000 := PS.out _ hlt _ ep
          clear ep
          have hcase : (dots p = true ∧ (p.toList.isEmpty = true ∨ (p.toList.isEmpty = false ∧ p.toList = [46]) ∨ (p.toList.isEmpty = false ∧ ¬ p.toList = [46] ∧ p.toList = [46, 46]))) ∨ (dots p = false ∧ p.toList.isEmpty = false ∧ ¬ p.toList = [46] ∧ ¬ p.toList = [46, 46]) := by
            by_cases h1 : p = ⟨#[]⟩
            · exact .inl ⟨by rw [h1]; rfl, .inl (by rw [h1, Lib.toList_data]; rfl)⟩
            · have n1 := some_ne (s := p) (fun h => h1 (empty_of h))
              by_cases h2 : p = ⟨#[46]⟩
              · exact .inl ⟨by rw [h2]; rfl, .inr (.inl ⟨n1, by rw [h2, Lib.toList_data]⟩)⟩
              · by_cases h3 : p = ⟨#[46, 46]⟩
                · exact .inl ⟨by rw [h3]; rfl, .inr (.inr ⟨n1, l_ne h2, by rw [h3, Lib.toList_data]⟩)⟩
                · exact .inr ⟨dots_false h1 h2 h3, n1, l_ne h2, l_ne h3⟩
          rcases hcase with ⟨hd, d1 | ⟨d1, d2⟩ | ⟨d1, d2, d3⟩⟩ | ⟨hd, d1, d2, d3⟩
          all_goals
            have DZ := Lib.hid hd
            clear hd
            go_wp2_with (fail)
            go_loop [5, 33] (fun v i => ∃ j : Nat, v = .bool (oddTo p j) ∧ i = .int .i64 j ∧ j ≤ p.size) (fun _ i => p.size - (intOf i).toNat)
            case atStart => exact ⟨0, by first | (rw [oddTo_zero, DZ.out]; done) | (rw [oddTo_zero, DZ.out]; simp [d2, d3]), rfl, by omega⟩
            case round =>
              obtain ⟨j, rfl, rfl, hj⟩ := hrel
              by_cases hjl : j < p.size
              · have hjI : (j : Int) < (p.size : Int) := by omega
                have O1 := Lib.hid (ON.out j hjl)
                cases eo : oddTo p j
                · rcases pr_cases2 (p[j]'hjl) with ⟨hb, g1, g2⟩ | ⟨hb, g⟩
                  · have HB := Lib.hid hb
                    clear hb
                    go_wp2_with (fail)
                    go_round
                    case rel => exact ⟨j + 1, by rw [O1.out, eo, HB.out]; rfl, by go_num, by omega⟩
                    case measure => simp [intOf]; omega
                  · have HB := Lib.hid hb
                    clear hb
                    rcases g with g1 | ⟨g1, g2⟩
                    all_goals
                      go_wp2_with (fail)
                      go_round
                      case rel => exact ⟨j + 1, by rw [O1.out, eo, HB.out]; rfl, by go_num, by omega⟩
                      case measure => simp [intOf]; omega
                · go_wp2_with (fail)
                  go_round
                  case rel => exact ⟨j + 1, by rw [O1.out, eo]; rfl, by go_num, by omega⟩
                  case measure => simp [intOf]; omega
              · obtain rfl : j = p.size := by omega
                cases eo : oddTo p p.size
                · have hp : partOk (tl p) = true := by rw [OE.out] at eo; simpa using eo
                  have NX1 := Lib.hid (NX.out hp)
                  clear hp
                  go_wp2_with (fail)
                  go_round
                  case rel => exact ⟨k + 1, by go_num, by omega, NX1.out⟩
                  case measure => simp [intOf]; omega
                · have hp : partOk (tl p) = false := by rw [OE.out] at eo; simpa using eo
                  have B2 := Lib.hid (B1.out hp)
                  clear hp
                  go_wp2_with (fail)
                  go_ret
                  exact ⟨ret_int B2.out, BW.out⟩
        · obtain rfl : k = P.length := by omega
          go_wp2_with (fail)
          go_ret
          exact ⟨ret_int (OK.out (fun j hj h => HA.out j hj h)), BW.out⟩
def good (l : List UInt8) : Bool := (splitB 47 l).all partOk
theorem split_pre {c : UInt8} {p : List UInt8} (h : c ∉ p) (s : List UInt8) : ∃ hd t, splitB c s = hd :: t ∧ splitB c (p ++ s) = (p ++ hd) :: t := by
  induction p with
  | nil =>
    cases e : splitB c s with
    | nil => exact absurd e (splitB_ne c s)
    | cons a b => exact ⟨a, b, rfl, by simpa using e⟩
  | cons x p ih =>
    obtain ⟨hd, t, h1, h2⟩ := ih (fun e => h (List.mem_cons_of_mem _ e))
    have hx : x ≠ c := fun e => h (by simp [e])
    exact ⟨hd, t, h1, by rw [List.cons_append, splitB, if_neg hx, h2]; rfl⟩
def RInv (s : ByteArray) (a i : Nat) : Prop :=
  a ≤ i ∧ i ≤ s.size + 1 ∧ (i ≤ s.size → good (tl s) = good ((tl s).drop a) ∧ ∀ c ∈ ((tl s).drop a).take (i - a), c ≠ 47 ∧ printable c = true) ∧ (i = s.size + 1 → good (tl s) = true)
theorem RInv.zero (s : ByteArray) : RInv s 0 0 := ⟨by omega, by omega, fun _ => ⟨by simp, by simp⟩, fun h => by omega⟩
theorem drop_at {s : ByteArray} {a i : Nat} (hai : a ≤ i) (hi : i < s.size) : (tl s).drop a = ((tl s).drop a).take (i - a) ++ s[i]'hi :: (tl s).drop (i + 1) := by
  have h1 : ((tl s).drop a).drop (i - a) = (tl s).drop i := by rw [List.drop_drop, Nat.add_sub_cancel' hai]
  have h2 : (tl s).drop i = s[i]'hi :: (tl s).drop (i + 1) := by
    have hl : i < (tl s).length := by rw [tl_len]; exact hi
    rw [List.drop_eq_getElem_cons hl]; first | done | rfl
  conv => lhs; rw [← List.take_append_drop (i - a) ((tl s).drop a), h1, h2]
theorem extract_tl (s : ByteArray) (a i : Nat) : tl (s.extract a i) = ((tl s).drop a).take (i - a) := by
  simp only [tl]; rw [Lib.extract_data]; try simp [List.drop_take]
theorem RInv.plain {s : ByteArray} {a i : Nat} (h : RInv s a i) (hi : i < s.size) (h1 : s[i]'hi ≠ 47) (h2 : printable (s[i]'hi) = true) : RInv s a (i + 1) := by
  obtain ⟨ha, _, hg, _⟩ := h
  obtain ⟨g1, g2⟩ := hg (by omega)
  refine ⟨by omega, by omega, fun _ => ⟨g1, fun c hc => ?_⟩, fun h => by omega⟩
  have e : i + 1 - a = (i - a) + 1 := by omega
  have hl : ((tl s).drop a)[i - a]? = some (s[i]'hi) := by
    rw [List.getElem?_drop, show a + (i - a) = i by omega]; exact tl_get hi
  rw [e, List.take_add_one, hl] at hc
  rcases List.mem_append.1 hc with hc | hc
  · exact g2 c hc
  · have : c = s[i]'hi := by simpa using hc
    rw [this]; exact ⟨h1, h2⟩
theorem good_pathE {s : ByteArray} (h1 : 1 ≤ s.size) (h2 : s.size ≤ 48) : pathE (tl s) = if good (tl s) = true then 0 else 13 := by
  have : pathOk (tl s) = good (tl s) := by
    rw [pathOk, tl_len, good]
    have e : (decide (1 ≤ s.size) && decide (s.size ≤ 48)) = true := by simp; omega
    rw [e]; rfl
  rw [pathE, this]
theorem RInv.bad {s : ByteArray} {a i : Nat} (h : RInv s a i) (hi : i < s.size) (h1 : s[i]'hi ≠ 47) (h2 : printable (s[i]'hi) = false) : good (tl s) = false := by
  obtain ⟨ha, _, hg, _⟩ := h
  obtain ⟨g1, g2⟩ := hg (by omega)
  rw [g1, drop_at ha hi]
  have hn : (47 : UInt8) ∉ ((tl s).drop a).take (i - a) ++ [s[i]'hi] := by
    intro hm
    rcases List.mem_append.1 hm with hm | hm
    · exact (g2 _ hm).1 rfl
    · exact h1 (List.mem_singleton.1 hm).symm
  obtain ⟨hd, t, _, e⟩ := split_pre hn ((tl s).drop (i + 1))
  rw [List.append_assoc] at e
  simp only [List.singleton_append] at e
  rw [good, e, List.all_cons]
  have : partOk (((tl s).drop a).take (i - a) ++ [s[i]'hi] ++ hd) = false := by
    simp [partOk, h2]
  rw [List.append_assoc] at this
  simp only [List.singleton_append, List.append_assoc] at this ⊢
  rw [this]; rfl
theorem part_dots {p : ByteArray} (h : ∀ c ∈ tl p, c ≠ 47 ∧ printable c = true) : partOk (tl p) = !dots p := by
  have ha : (tl p).all printable = true := List.all_eq_true.2 fun c hc => (h c hc).2
  rw [partOk, ha, dots]
  cases (tl p).isEmpty <;> cases tl p == [46] <;> cases tl p == [46, 46] <;> rfl
theorem RInv.part {s : ByteArray} {a i : Nat} (h : RInv s a i) (hi : i ≤ s.size) (h1 : ∀ hk : i < s.size, s[i]'hk = 47) :
    (dots (s.extract a i) = true → good (tl s) = false) ∧ (dots (s.extract a i) = false → RInv s (i + 1) (i + 1)) := by
  obtain ⟨ha, _, hg, _⟩ := h
  obtain ⟨g1, g2⟩ := hg hi
  have hp := part_dots (p := s.extract a i) (by rw [extract_tl]; exact g2)
  rw [extract_tl] at hp
  rcases Nat.lt_or_ge i s.size with hlt | hge
  · have e := drop_at ha hlt
    rw [h1 hlt] at e
    have e2 : good ((tl s).drop a) = (partOk (((tl s).drop a).take (i - a)) && good ((tl s).drop (i + 1))) := by
      conv => lhs; rw [e, good, split_app (fun hm => (g2 _ hm).1 rfl), List.all_cons]
      rfl
    refine ⟨fun h => by rw [g1, e2, hp, h]; rfl, fun h => ⟨by omega, by omega, fun _ => ⟨by rw [g1, e2, hp, h]; simp, by simp⟩, fun h2 => by omega⟩⟩
  · obtain rfl : i = s.size := by omega
    have e : ((tl s).drop a).take (s.size - a) = (tl s).drop a := List.take_of_length_le (by rw [List.length_drop, tl_len]; exact Nat.le_refl _)
    rw [e] at hp g2
    have e2 : good ((tl s).drop a) = partOk ((tl s).drop a) := by
      rw [good, split_free (fun hm => (g2 _ hm).1 rfl)]; simp
    refine ⟨fun h => by rw [g1, e2, hp, h]; rfl, fun h => ⟨by omega, by omega, fun h2 => by omega, fun _ => ?_⟩⟩
    rw [g1, e2, hp, h]; rfl
theorem rpath_any (s : ByteArray) (hs : s.size ≤ 1000000000) (w : World) :
    Calls Tryz.prog 103 #[.string s] w fun e w' => e = .returned (.int .i64 (pathE (tl s))) ∧ w = w' := by
  by_cases h0 : (s.size : Int) < 1
  · have HN := Lib.hid (pathE_no (s := s) (.inl (by omega)))
    go_enter Tryz.func103, Tryz.ntmps103
    go_wp2_with (fail)
    go_ret
    exact ⟨ret_int HN.out, rfl⟩
  · by_cases h16 : (48 : Int) < (s.size : Int)
    · have HN := Lib.hid (pathE_no (s := s) (.inr (by omega)))
      go_enter Tryz.func103, Tryz.ntmps103
      go_wp2_with (fail)
      go_ret
      exact ⟨ret_int HN.out, rfl⟩
    · have GE := Lib.hid (good_pathE (s := s) (by omega) (by omega))
      go_enter Tryz.func103, Tryz.ntmps103
      go_wp2_with (fail)
      go_loop [3, 4] (fun x i => ∃ a k : Nat, x = .int .i64 a ∧ i = .int .i64 k ∧ RInv s a k) (fun _ i => s.size + 1 - (intOf i).toNat)
      case atStart => exact ⟨0, 0, rfl, rfl, RInv.zero s⟩
      case round =>
        obtain ⟨a, k, rfl, rfl, hr⟩ := hrel
        have hak := hr.1
        have hks := hr.2.1
        have HR := Lib.hid hr
        clear hr
        have hakI : (a : Int) ≤ (k : Int) := by omega
        have hdots : ∀ p : ByteArray, (dots p = true ∧ (p.toList.isEmpty = true ∨ (p.toList.isEmpty = false ∧ p.toList = [46]) ∨ (p.toList.isEmpty = false ∧ ¬ p.toList = [46] ∧ p.toList = [46, 46]))) ∨ (dots p = false ∧ p.toList.isEmpty = false ∧ ¬ p.toList = [46] ∧ ¬ p.toList = [46, 46]) := by
          intro p
          by_cases h1 : p = ⟨#[]⟩
          · exact .inl ⟨by rw [h1]; rfl, .inl (by rw [h1, Lib.toList_data]; rfl)⟩
          · have n1 := some_ne (s := p) (fun h => h1 (empty_of h))
            by_cases h2 : p = ⟨#[46]⟩
            · exact .inl ⟨by rw [h2]; rfl, .inr (.inl ⟨n1, by rw [h2, Lib.toList_data]⟩)⟩
            · by_cases h3 : p = ⟨#[46, 46]⟩
              · exact .inl ⟨by rw [h3]; rfl, .inr (.inr ⟨n1, l_ne h2, by rw [h3, Lib.toList_data]⟩)⟩
              · exact .inr ⟨dots_false h1 h2 h3, n1, l_ne h2, l_ne h3⟩
        rcases Nat.lt_or_ge k s.size with hlt | hge
        · have hkI : (k : Int) < (s.size : Int) := by omega
          have hkL : (k : Int) ≤ (s.size : Int) := by omega
          by_cases h47 : s[k]'hlt = 47
          · have PT := Lib.hid (HR.out.part (by omega) (fun _ => h47))
            have g47 : ((s[k]'hlt).toNat : Int) = 47 := by rw [h47]; rfl
            clear h47
            have HD := hdots (s.extract a k)
            clear hdots
            rcases HD with ⟨hd, hc⟩ | ⟨hd, d1, d2, d3⟩
            · have F := Lib.hid (PT.out.1 hd)
              clear hd PT
              rcases hc with d1 | ⟨d1, d2⟩ | ⟨d1, d2, d3⟩
              all_goals
                go_wp2_with (fail)
                go_ret
                exact ⟨ret_int (by rw [GE.out, F.out]; rfl), rfl⟩
            · have F := Lib.hid (PT.out.2 hd)
              have d4 : ((s.extract a k).toList == [46]) = false := by simpa using d2
              have d5 : ((s.extract a k).toList == [46, 46]) = false := by simpa using d3
              clear hd PT 
              go_wp2_with (fail)
              go_round
              case rel => exact ⟨k + 1, k + 1, by go_num, by go_num, F.out⟩
              case measure => simp [intOf]; omega
          · have g47 : ((s[k]'hlt).toNat : Int) ≠ 47 := fun e => h47 (UInt8.toNat_inj.1 (by have : (47 : UInt8).toNat = 47 := rfl; omega))
            clear hdots
            rcases pr_cases (s[k]'hlt) with ⟨hb, g1, g2⟩ | ⟨hb, g⟩
            · have F := Lib.hid (HR.out.plain hlt h47 hb)
              clear hb h47
              go_wp2_with (fail)
              go_round
              case rel => exact ⟨a, k + 1, rfl, by go_num, F.out⟩
              case measure => simp [intOf]; omega
            · have F := Lib.hid (HR.out.bad hlt h47 hb)
              clear hb h47
              rcases g with g1 | ⟨g1, g2⟩
              all_goals
                go_wp2_with (fail)
                go_ret
                exact ⟨ret_int (by rw [GE.out, F.out]; rfl), rfl⟩
        · by_cases hk : k = s.size
          · subst hk
            have PT := Lib.hid (HR.out.part (by omega) (fun h => by omega))
            have HD := hdots (s.extract a s.size)
            clear hdots
            rcases HD with ⟨hd, hc⟩ | ⟨hd, d1, d2, d3⟩
            · have F := Lib.hid (PT.out.1 hd)
              clear hd PT
              rcases hc with d1 | ⟨d1, d2⟩ | ⟨d1, d2, d3⟩
              all_goals
                go_wp2_with (fail)
                go_ret
                exact ⟨ret_int (by rw [GE.out, F.out]; rfl), rfl⟩
            · have F := Lib.hid (PT.out.2 hd)
              have d4 : ((s.extract a s.size).toList == [46]) = false := by simpa using d2
              have d5 : ((s.extract a s.size).toList == [46, 46]) = false := by simpa using d3
              clear hd PT 
              go_wp2_with (fail)
              go_round
              case rel => exact ⟨s.size + 1, s.size + 1, by go_num, by go_num, F.out⟩
              case measure => simp [intOf] <;> omega
          · obtain rfl : k = s.size + 1 := by omega
            have F := Lib.hid (HR.out.2.2.2 rfl)
            have hkL : ¬ ((s.size + 1 : Nat) : Int) ≤ (s.size : Int) := by omega
            clear hdots
            go_wp2_with (fail)
            go_ret
            exact ⟨ret_int (by rw [GE.out, F.out]; rfl), rfl⟩
end Go.Proofs.YtlndnpfjneeeeaaGreatDoor.Lg
/- LgMix, what a claim needs of it (prune.py). -/
namespace Go.Proofs.YtlndnpfjneeeeaaGreatDoor
open Go
set_option linter.unusedVariables false
section
variable {P : Program} {ops : Array Oper} {Q : Exit → Act → World → Prop} {C : World → Prop}
theorem yieldsIn_of {o : Oper} {v : Value} {a : Act} (h : Yields P ops o v a) : YieldsIn P ops C o v a := by
  rcases h with ⟨hw, h⟩ | h
  · refine .inl ⟨hw, fun w _ => ?_⟩
    unfold Oper.quietAt
    rw [h w]
    exact ⟨rfl, rfl⟩
  · exact .inr h
theorem yields_same {o : Oper} {v : Value} {a a' : Act} (hy : Yields P ops o v a) (he : execOp a'.eval o = execOp a.eval o)
    (hw : Region.wanted o (yielded ops a'.tmps) = Region.wanted o (yielded ops a.tmps)) : Yields P ops o v a' := by
  unfold Yields at *
  rw [he, hw]
  exact hy
theorem qOp_putY {j : Nat} {oi oj : Oper} {v : Value} (hj : ops[j]? = some oj) (hap : oi.apart ops oj = true)
    (hsi : ∀ cs b, oi.op ≠ .select cs b) (hsj : ∀ cs b, oj.op ≠ .select cs b) {K : Act → Prop} {a : Act}
    (hy : Yields P ops oi v a) (h : qOp P ops C j K (a.put oi.dst v)) :
    qOp P ops C j (fun a' => Yields P ops oi v a' ∧ K (a'.put oi.dst v)) a := by
  obtain ⟨h1, h2, h3⟩ := Oper.apart_spec hap
  have keep : ∀ (a : Act), Yields P ops oi v a → ∀ u, Yields P ops oi v (a.put oj.dst u) := fun a hy u =>
    yields_same hy (execOp_put oi hsi a oj.dst u h3) (wanted_put oi a oj.dst u h3)
  unfold qOp at *
  simp only [hj] at *
  rw [wanted_put oj a oi.dst v h1] at h
  split
  · rename_i hw
    simp only [hw, if_true] at h
    obtain ⟨u, hu, hn⟩ := h
    refine ⟨u, fun w hw' => ?_, keep a hy u, by rw [← Act.put_comm a v u h2]; exact hn⟩
    have := hu w hw'
    unfold Oper.quietAt at *
    rwa [execOp_put oj hsj a oi.dst v h1] at this
  · rename_i hw
    simp only [hw] at h
    exact ⟨keep a hy _, by rw [← Act.put_comm a v undef h2]; exact h⟩
theorem wpAnyM_firstY {n i : Nat} {oi : Oper} {v : Value} (hi : ops[i]? = some oi) (hsel : ∀ (j : Nat) (o : Oper) cs b, ops[j]? = some o → o.op ≠ .select cs b)
    (hQ : ∀ c a w, Q (.panic c) (a.put oi.dst v) w → Q (.panic c) a w) (hin : i ≠ n) :
    ∀ (f : Nat) (listed : Array Bool) (a : Act),
      (∀ j oj, ops[j]? = some oj → j ≠ i → listed.getD j true = false → (∀ e ∈ oj.after, Region.binds .any e = true → e.on ≠ i) → oi.apart ops oj = true) →
      i ∈ Region.ready .any ops listed → Yields P ops oi v a →
      wpAnyM P ops Q C n f (listed.setIfInBounds i true) (a.put oi.dst v) → wpAnyM P ops Q C n (f + 1) listed a := by
  intro f
  induction f with
  | zero => intro listed a _ _ _ H; exact H.elim
  | succ f ih =>
    intro listed a hfree hr hy H
    have hun := (mem_ready.1 hr).1
    refine ⟨fun h => (by rw [h] at hr; cases hr), fun j hj => ?_⟩
    obtain ⟨hjun, oj, hoj, hall⟩ := mem_ready.1 hj
    by_cases hji : j = i
    · subst hji
      rw [if_neg hin]
      exact (yieldsIn_of hy).qOp hi H
    have hnot : ∀ e ∈ oj.after, Region.binds .any e = true → e.on ≠ i := fun e he hb heq => by
      have h1 := hall e he hb
      rw [heq, getD_both hun] at h1
      cases h1
    have hap := hfree j oj hoj hji hjun hnot
    have hfree' : ∀ k ok, ops[k]? = some ok → k ≠ i → (listed.setIfInBounds j true).getD k true = false →
        (∀ e ∈ ok.after, Region.binds .any e = true → e.on ≠ i) → oi.apart ops ok = true := fun k ok hk hki hun hno => by
      refine hfree k ok hk hki ?_ hno
      by_cases hjk : j = k
      · subst hjk; exact hjun
      · rw [getD_set_ne true hjk] at hun; exact hun
    have h1 := H.2 j (ready_mono hj hji)
    by_cases hjn : j = n
    · subst hjn
      rw [if_pos rfl] at h1 ⊢
      intro w hw
      have h2 := wpOp_put hoj hap (fun cs b => hsel i oi cs b hi) (fun cs b => hsel j oj cs b hoj) hQ hy (h1 w hw)
      refine wpOp_mono (fun a' w' h3 => wpAny_first hi hsel hQ f _ a' w' hfree' (ready_mono hr (Ne.symm hji)) h3.1 ?_) h2
      rw [Array.setIfInBounds_comm _ _ hji]
      exact h3.2
    · rw [if_neg hjn] at h1 ⊢
      have h2 := qOp_putY hoj hap (fun cs b => hsel i oi cs b hi) (fun cs b => hsel j oj cs b hoj) hy h1
      refine qOp_mono (fun a' h3 => ih (listed.setIfInBounds j true) a' hfree' (ready_mono hr (Ne.symm hji)) h3.1 ?_) h2
      rw [Array.setIfInBounds_comm _ _ hji]
      exact h3.2
end
end Go.Proofs.YtlndnpfjneeeeaaGreatDoor
