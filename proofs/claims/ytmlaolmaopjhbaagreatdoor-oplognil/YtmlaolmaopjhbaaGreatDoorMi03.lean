/- Joined by mkmerged.py: LgSpec, LgWords, LgCells, LgSplit. -/
import Derived.Lib.ItoaNum
import Derived.Test.YtmlaolmaopjhbaaGreatDoorProg
import Derived.WalkKit
import Derived.Lib.Strings
import Derived.Lib.Hide
import Derived.Test.YtmlaolmaopjhbaaGreatDoorMi02
import Derived.Deep.RegionWith
import Derived.Laws.ResultCell
import Derived.Laws.Rows
import Derived.Laws.NewBlocks
import Derived.Test.YtmlaolmaopjhbaaGreatDoorMi01
import Derived.Lib.SplitLaws
import Derived.Shelf.Strings.PiecesUse
/- LgSpec, what a claim needs of it (prune.py). -/
namespace Go.Proofs.YtmlaolmaopjhbaaGreatDoor.Lg
set_option linter.unusedVariables false
abbrev B := List UInt8
def splitB (c : UInt8) : B → List B
  | [] => [[]]
  | x :: r => if x = c then [] :: splitB c r else
    match splitB c r with
    | h :: t => (x :: h) :: t
    | [] => [[x]]
theorem splitB_ne (c : UInt8) : ∀ s, splitB c s ≠ []
  | [] => by simp [splitB]
  | x :: r => by
    unfold splitB
    split
    · simp
    · split <;> simp
def joinB (c : UInt8) : List B → B
  | [] => []
  | [x] => x
  | x :: y :: r => x ++ c :: joinB c (y :: r)
theorem split_app {c : UInt8} : ∀ {p : B}, c ∉ p → ∀ s, splitB c (p ++ c :: s) = p :: splitB c s
  | [], _, s => by simp [splitB]
  | x :: p, h, s => by
    have hx : x ≠ c := fun e => h (by simp [e])
    rw [List.cons_append, splitB, if_neg hx, split_app (fun e => h (by simp [e])) s]
theorem split_free {c : UInt8} : ∀ {p : B}, c ∉ p → splitB c p = [p]
  | [], _ => rfl
  | x :: p, h => by
    have hx : x ≠ c := fun e => h (by simp [e])
    rw [splitB, if_neg hx, split_free (fun e => h (by simp [e]))]
theorem split_len (c : UInt8) : ∀ s, (splitB c s).length ≤ s.length + 1
  | [] => by simp [splitB]
  | x :: r => by
    have ih := split_len c r
    unfold splitB
    split
    · simp; omega
    · split
      · next e => rw [e] at ih; simp at ih ⊢; omega
      · simp
theorem split_part (c : UInt8) : ∀ s, ∀ p ∈ splitB c s, p.length ≤ s.length
  | [], p, h => by simp [splitB] at h; simp [h]
  | x :: r, p, h => by
    have ih := split_part c r
    unfold splitB at h
    split at h
    · rcases List.mem_cons.1 h with rfl | h
      · simp
      · have := ih p h; simp; omega
    · split at h
      · next e =>
        rw [e] at ih
        rcases List.mem_cons.1 h with rfl | h
        · have := ih _ (List.mem_cons_self ..)
          simp; omega
        · have := ih p (List.mem_cons_of_mem _ h); simp; omega
      · next e => exact absurd e (splitB_ne c r)
def printable (c : UInt8) : Bool := decide (33 ≤ c.toNat) && decide (c.toNat ≤ 126)
def partOk (p : B) : Bool := p.all printable && !p.isEmpty && !(p == [46]) && !(p == [46, 46])
def pathOk (s : B) : Bool := decide (1 ≤ s.length) && decide (s.length ≤ 48) && (splitB 47 s).all partOk
def nameByte (c : UInt8) : Bool := c == 45 || c == 95 || (decide (48 ≤ c.toNat) && decide (c.toNat ≤ 57)) || (decide (97 ≤ c.toNat) && decide (c.toNat ≤ 122))
def nameOk (s : B) : Bool := decide (1 ≤ s.length) && decide (s.length ≤ 16) && s.all nameByte
def textOk (s : B) : Bool := decide (1 ≤ s.length) && decide (s.length ≤ 32) && s.all printable
def number : B → Option Nat
  | [c] => if 48 ≤ c.toNat ∧ c.toNat ≤ 57 then some (c.toNat - 48) else none
  | [c, d] => if 49 ≤ c.toNat ∧ c.toNat ≤ 57 ∧ 48 ≤ d.toNat ∧ d.toNat ≤ 57 then some (10 * (c.toNat - 48) + (d.toNat - 48)) else none
  | _ => none
theorem dig_of {c : UInt8} {k : Nat} (h : c.toNat = 48 + k) : UInt8.ofNat (48 + k) = c := by rw [← h]; simp
theorem dec_one {n : Nat} (h : n < 10) : Lib.decDigits n = [UInt8.ofNat (48 + n)] := by rw [Lib.decDigits, dif_pos h]
theorem dec_two {n : Nat} (h : 10 ≤ n) (h2 : n < 100) : Lib.decDigits n = [UInt8.ofNat (48 + n / 10), UInt8.ofNat (48 + n % 10)] := by
  rw [Lib.decDigits, dif_neg (by omega), dec_one (by omega)]; rfl
theorem number_some {s : B} {n : Nat} (h : number s = some n) : n < 100 ∧ Lib.decDigits n = s := by
  match s, h with
  | [c], h =>
    simp only [number] at h
    split at h
    · next hc =>
      injection h with h
      subst h
      exact ⟨by omega, by rw [dec_one (by omega), dig_of (c := c) (by omega)]⟩
    · cases h
  | [c, d], h =>
    simp only [number] at h
    split at h
    · next hc =>
      injection h with h
      subst h
      refine ⟨by omega, ?_⟩
      rw [dec_two (by omega) (by omega), dig_of (c := c) (by omega), dig_of (c := d) (by omega)]
    · cases h
theorem number_dec {n : Nat} (h : n < 100) : number (Lib.decDigits n) = some n := by
  by_cases h10 : n < 10
  · rw [dec_one h10, number]
    have : (UInt8.ofNat (48 + n)).toNat = 48 + n := by rw [UInt8.toNat_ofNat']; omega
    rw [this, if_pos (by omega)]; congr 1; omega
  · rw [dec_two (by omega) h, number]
    have h1 : (UInt8.ofNat (48 + n / 10)).toNat = 48 + n / 10 := by rw [UInt8.toNat_ofNat']; omega
    have h2 : (UInt8.ofNat (48 + n % 10)).toNat = 48 + n % 10 := by rw [UInt8.toNat_ofNat']; omega
    rw [h1, h2, if_pos (by omega)]; congr 1; omega
inductive Stp where
  | mk (op : Int) (args : List B) (n : Int) (block : List Stp)
def Stp.op : Stp → Int | ⟨o, _, _, _⟩ => o
def Stp.args : Stp → List B | ⟨_, a, _, _⟩ => a
def Stp.n : Stp → Int | ⟨_, _, n, _⟩ => n
def Stp.block : Stp → List Stp | ⟨_, _, _, b⟩ => b
def wordsL : List B := [[63], [112, 117, 116], [99, 111, 112, 121], [99, 97, 116], [117, 112, 112, 101, 114], [115, 111, 114, 116], [100, 114, 111, 112], [110, 101, 101, 100], [102, 97, 105, 108], [108, 111, 111, 112], [105, 102]]
def wordOf (op : Int) : B := if 1 ≤ op ∧ op ≤ 10 then wordsL.getD op.toNat [63] else [63]
def stepW : List B → Option (Int × List B × Int)
  | [] => none
  | w :: a =>
    if w = [112, 117, 116] then (if a.length = 2 ∧ (a.take 1).all pathOk = true ∧ (a.drop 1).all textOk = true then some (1, a, 0) else none)
    else if w = [99, 111, 112, 121] then (if a.length = 2 ∧ a.all pathOk = true then some (2, a, 0) else none)
    else if w = [99, 97, 116] then (if 2 ≤ a.length ∧ a.length ≤ 8 ∧ a.all pathOk = true then some (3, a, 0) else none)
    else if w = [117, 112, 112, 101, 114] then (if a.length = 1 ∧ a.all pathOk = true then some (4, a, 0) else none)
    else if w = [115, 111, 114, 116] then (if a.length = 1 ∧ a.all pathOk = true then some (5, a, 0) else none)
    else if w = [100, 114, 111, 112] then (if a.length = 1 ∧ a.all pathOk = true then some (6, a, 0) else none)
    else if w = [110, 101, 101, 100] then (if a.length = 1 ∧ a.all nameOk = true then some (7, a, 0) else none)
    else if w = [102, 97, 105, 108] then (if a.length = 1 ∧ a.all textOk = true then some (8, a, 0) else none)
    else if w = [108, 111, 111, 112] then (match a with | [x] => (match number x with | some k => some (9, [], (k : Int)) | none => none) | _ => none)
    else if w = [105, 102] then (if a.length = 1 ∧ a.all pathOk = true then some (10, a, 0) else none)
    else none
def stepOf (line : B) : Option (Int × List B × Int) := stepW (splitB 32 line)
def endW : B := [101, 110, 100]
def headW (op : Int) (args : List B) (n : Int) : B := joinB 32 (wordOf op :: args) ++ (if op = 9 then 32 :: Lib.itoa n else [])
theorem itoa_nat' (n : Nat) : Lib.itoa (n : Int) = Lib.decDigits n := by
  unfold Lib.itoa
  rw [if_neg (by omega)]
  rfl
inductive Res where
  | ok (out : List Stp) (rest : List B)
  | err (e : Nat)
def blk : Nat → Nat → List Stp → List B → Res
  | 0, _, _, _ => .err 0
  | _ + 1, deep, out, [] => if 0 < deep then .err 21 else .ok out []
  | f + 1, deep, out, line :: rest =>
    if line = endW then (if 0 < deep then .ok out rest else .err 21) else
    match stepOf line with
    | none => .err 20
    | some (op, args, n) =>
      if op = 9 ∨ op = 10 then
        if 4 ≤ deep then .err 22 else
        match blk f (deep + 1) [] rest with
        | .err e => .err e
        | .ok inn rest' => blk f deep (out ++ [⟨op, args, n, inn⟩]) rest'
      else blk f deep (out ++ [⟨op, args, n, []⟩]) rest
theorem blk_le : ∀ f deep out lines o r, blk f deep out lines = .ok o r → r.length ≤ lines.length
  | 0, _, _, _, _, _, h => by cases h
  | f + 1, deep, out, [], o, r, h => by
    unfold blk at h
    split at h
    · cases h
    · cases h; exact Nat.le_refl _
  | f + 1, deep, out, line :: rest, o, r, h => by
    unfold blk at h
    split at h
    · split at h
      · cases h; simp
      · cases h
    · split at h
      · cases h
      · split at h
        · split at h
          · cases h
          · split at h
            · cases h
            · next e =>
              have h1 := blk_le _ _ _ _ _ _ e
              have h2 := blk_le _ _ _ _ _ _ h
              simp; omega
        · have h2 := blk_le _ _ _ _ _ _ h
          simp; omega
theorem blk_fuel : ∀ f g deep out lines, lines.length < f → lines.length < g → blk f deep out lines = blk g deep out lines
  | 0, _, _, _, _, h, _ => absurd h (by omega)
  | _ + 1, 0, _, _, _, _, h => absurd h (by omega)
  | f + 1, g + 1, deep, out, [], _, _ => by rw [blk, blk]
  | f + 1, g + 1, deep, out, line :: rest, h1, h2 => by
    simp only [List.length_cons] at h1 h2
    rw [blk, blk]
    split
    · rfl
    · split
      · rfl
      · split
        · split
          · rfl
          · rw [blk_fuel f g (deep + 1) [] rest (by omega) (by omega)]
            split
            · rfl
            · next e =>
              have h3 := blk_le _ _ _ _ _ _ e
              exact blk_fuel f g deep _ _ (by omega) (by omega)
        · exact blk_fuel f g deep _ rest (by omega) (by omega)
def bk (deep : Nat) (out : List Stp) (lines : List B) : Res := blk (lines.length + 1) deep out lines
theorem bk_le {deep : Nat} {out o : List Stp} {lines r : List B} (h : bk deep out lines = .ok o r) : r.length ≤ lines.length := blk_le _ _ _ _ _ _ h
theorem bk_nil (deep : Nat) (out : List Stp) : bk deep out [] = if 0 < deep then .err 21 else .ok out [] := by rw [bk, blk]
theorem bk_cons (deep : Nat) (out : List Stp) (line : B) (rest : List B) : bk deep out (line :: rest) =
    if line = endW then (if 0 < deep then .ok out rest else .err 21) else
    match stepOf line with
    | none => .err 20
    | some (op, args, n) =>
      if op = 9 ∨ op = 10 then
        if 4 ≤ deep then .err 22 else
        match bk (deep + 1) [] rest with
        | .err e => .err e
        | .ok inn rest' => bk deep (out ++ [⟨op, args, n, inn⟩]) rest'
      else bk deep (out ++ [⟨op, args, n, []⟩]) rest := by
  rw [bk, blk]
  split
  · rfl
  · split
    · rfl
    · split
      · split
        · rfl
        · simp only [List.length_cons, bk]
          split
          · rfl
          · next e =>
            have h3 := blk_le _ _ _ _ _ _ e
            exact blk_fuel _ _ deep _ _ (by omega) (by omega)
      · rfl
def parse (cmd : B) : List Stp × Nat :=
  if 8192 < cmd.length then ([], 15)
  else if cmd = [] then ([], 0)
  else if cmd.getLast? ≠ some 10 then ([], 20)
  else if 64 < (splitB 10 cmd.dropLast).length then ([], 15)
  else match bk 0 [] (splitB 10 cmd.dropLast) with
    | .ok out _ => (out, 0)
    | .err e => ([], e)
def linesOf : List Stp → List B
  | [] => []
  | ⟨op, args, n, b⟩ :: r => headW op args n :: (if op = 9 ∨ op = 10 then linesOf b ++ [endW] else []) ++ linesOf r
def print (l : List Stp) : B := (linesOf l).flatMap fun s => s ++ [10]
end Go.Proofs.YtmlaolmaopjhbaaGreatDoor.Lg
/- LgWords, what a claim needs of it (prune.py). -/
namespace Go.Proofs.YtmlaolmaopjhbaaGreatDoor.Lg
open Go.RowKit
set_option linter.unusedVariables false
set_option maxRecDepth 100000
abbrev tl (s : ByteArray) : List UInt8 := s.data.toList
theorem tl_inj {a b : ByteArray} (h : tl a = tl b) : a = b := by
  rcases a with ⟨⟨a⟩⟩
  rcases b with ⟨⟨b⟩⟩
  simpa [tl] using h
def bs (l : List UInt8) : ByteArray := ⟨l.toArray⟩
theorem bs_tl (s : ByteArray) : bs (tl s) = s := rfl
theorem tl_bs (l : List UInt8) : tl (bs l) = l := rfl
theorem tl_len (s : ByteArray) : (tl s).length = s.size := (Lib.size_eq s).symm
theorem tl_get {s : ByteArray} {k : Nat} (hk : k < s.size) : (tl s)[k]? = some (s[k]'hk) := by
  rw [List.getElem?_eq_getElem (by rw [tl_len]; exact hk)]
  rfl
theorem take_next {s : ByteArray} {k : Nat} (hk : k < s.size) : (tl s).take (k + 1) = (tl s).take k ++ [s[k]'hk] := by
  rw [List.take_add_one, tl_get hk]; rfl
theorem take_all (s : ByteArray) : (tl s).take s.size = tl s := List.take_of_length_le (by rw [tl_len]; exact Nat.le_refl _)
theorem all_next {s : ByteArray} {p : UInt8 → Bool} {k : Nat} (hk : k < s.size) : ((tl s).take (k + 1)).all p = (((tl s).take k).all p && p (s[k]'hk)) := by
  rw [take_next hk, List.all_append]; simp
theorem ret_val {a b : Value} (h : b = a) : Ending.returned a = .returned b := by rw [h]
theorem ret_bool {a b : Bool} (h : b = a) : Ending.returned (.bool a) = .returned (.bool b) := by rw [h]
theorem ret_int {k : IntKind} {a b : Int} (h : b = a) : Ending.returned (.int k a) = .returned (.int k b) := by rw [h]
theorem empty_of {s : ByteArray} (h : s.size = 0) : s = ⟨#[]⟩ := tl_inj (List.eq_nil_of_length_eq_zero (by rw [tl_len]; exact h))
theorem s_ne {a b : ByteArray} (h : a ≠ b) : (a.toList == b.toList) = false := by
  rw [Lib.toList_data, Lib.toList_data]
  exact beq_eq_false_iff_ne.2 (fun e => h (tl_inj e))
theorem some_ne {s : ByteArray} (h : s.size ≠ 0) : s.toList.isEmpty = false := by
  rw [Lib.toList_data]
  cases e : tl s with
  | nil => exact absurd (by rw [← tl_len, e]; rfl) h
  | cons a l => simp [tl] at e; simp [e]
def Strs (w : World) (A : Option Addr) (l : List ByteArray) : Prop := Reads w w.heap.size 1 A l.length (l.map Value.string)
theorem Strs.below {w w' : World} {A : Option Addr} {l : List ByteArray} (h : Strs w A l) (hb : Below w.heap.size w w') : Strs w' A l := (Reads.below h hb).more hb.size
theorem Strs.at_ {w : World} {A : Option Addr} {l : List ByteArray} (h : Strs w A l) {k : Nat} (hk : k < l.length) : ∃ ad, A = some ad ∧ ad.block < w.heap.size ∧ w.cell? (ad.add k) = some (.string l[k]) := by
  obtain ⟨ad, u, h1, h2, h3, h4⟩ := Reads.at_ h hk
  refine ⟨ad, h1, h2, ?_⟩
  rw [h4]
  simp [hk] at h3
  rw [← h3]
theorem pr_cases (c : UInt8) : (printable c = true ∧ ¬ (c.toNat : Int) < 33 ∧ ¬ (126 : Int) < c.toNat) ∨ (printable c = false ∧ ((c.toNat : Int) < 33 ∨ (¬ (c.toNat : Int) < 33 ∧ (126 : Int) < c.toNat))) := by
  unfold printable
  generalize c.toNat = n
  simp only [Bool.and_eq_true, decide_eq_true_eq, Bool.and_eq_false_iff, decide_eq_false_iff_not]
  omega
end Go.Proofs.YtmlaolmaopjhbaaGreatDoor.Lg
/- LgCells, what a claim needs of it (prune.py). -/
namespace Go.Proofs.YtmlaolmaopjhbaaGreatDoor.Lg
open Go.RowKit
set_option linter.unusedVariables false
set_option maxRecDepth 100000
theorem results_cell_row2 {P : Program} {fn : Func} {p u : Tmp} {ty : TypeId} (h : fn.results = #[.cell p ty, .tmp u]) (tmps : Array Value) (w : World) (g : Nat) (t : TypeId) (cs : Array Value) (fr : Nat × Nat) (d : TypeDesc)
    (hp : tmps.getD p undef = .pointer (some ⟨g, 0, none⟩)) (hg : w.heap[g]? = some (.cells cs t fr))
    (hu : P.underlying ty = some d) (hd : (match d with | .struct _ | .array _ _ => true | _ => false) = true) (hi : (P.info? ty).map (·.size) = some cs.size) :
    (results fn tmps).run P w = .ok (.tuple #[.agg cs, tmps.getD u undef]) w := by
  rw [results_cell_tmp h, hp]
  simp [asAddr, run_loadVar_row w g t ty cs fr d hg hu hd hi, Result.andThen]
theorem lt_heap {w : World} {b : Nat} {o : Obj} (h : w.heap[b]? = some o) : b < w.heap.size := (Array.getElem?_eq_some_iff.1 h).1
theorem heap_two {w : World} {A C : Obj} : ((w.alloc A).alloc C).heap[w.heap.size]? = some A := by
  rw [Below.heap_alloc _ _ _ (by simp)]
  exact heap_alloc_new _ _
theorem four {w : World} {g : Nat} {a b c d : Value} {T : TypeId} (h : w.heap[g]? = some (.cells #[a, b, c, d] T (0, 0))) :
    w.cell? ⟨g, 0, none⟩ = some a ∧ w.cell? ⟨g, 1, none⟩ = some b ∧ w.cell? ⟨g, 2, none⟩ = some c ∧ w.cell? ⟨g, 3, none⟩ = some d ∧
    w.frozen? ⟨g, 0, none⟩ = false ∧ w.frozen? ⟨g, 1, none⟩ = false ∧ w.frozen? ⟨g, 2, none⟩ = false ∧ w.frozen? ⟨g, 3, none⟩ = false :=
  ⟨cell_of_row w g 0 _ _ _ h, cell_of_row w g 1 _ _ _ h, cell_of_row w g 2 _ _ _ h, cell_of_row w g 3 _ _ _ h, frozen_of_row w _ 0 _ _ h, frozen_of_row w _ 1 _ _ h, frozen_of_row w _ 2 _ _ h, frozen_of_row w _ 3 _ _ h⟩
theorem set4 {w : World} {g : Nat} {a b c d : Value} {T : TypeId} (h : w.heap[g]? = some (.cells #[a, b, c, d] T (0, 0))) (a' b' c' d' : Value) :
    ((((w.setCell ⟨g, 0, none⟩ a').setCell ⟨g, 1, none⟩ b').setCell ⟨g, 2, none⟩ c').setCell ⟨g, 3, none⟩ d').heap[g]? = some (.cells #[a', b', c', d'] T (0, 0)) := by
  have q0 := heap_setCell_same _ _ 0 _ _ a' h
  have q1 := heap_setCell_same _ _ 1 _ _ b' q0
  have q2 := heap_setCell_same _ _ 2 _ _ c' q1
  exact heap_setCell_same _ _ 3 _ _ d' q2
theorem set4_other (w : World) (g k : Nat) (hk : k ≠ g) (a' b' c' d' : Value) :
    ((((w.setCell ⟨g, 0, none⟩ a').setCell ⟨g, 1, none⟩ b').setCell ⟨g, 2, none⟩ c').setCell ⟨g, 3, none⟩ d').heap[k]? = w.heap[k]? := by
  rw [Below.heap_setCell _ _ _ _ hk, Below.heap_setCell _ _ _ _ hk, Below.heap_setCell _ _ _ _ hk, Below.heap_setCell _ _ _ _ hk]
theorem set4_below {B : Nat} {w0 w : World} (h : Below B w0 w) {g : Nat} (hg : B ≤ g) (a' b' c' d' : Value) :
    Below B w0 ((((w.setCell ⟨g, 0, none⟩ a').setCell ⟨g, 1, none⟩ b').setCell ⟨g, 2, none⟩ c').setCell ⟨g, 3, none⟩ d') :=
  (((h.setCell hg _).setCell hg _).setCell hg _).setCell hg _
theorem infoS : (Tryz.prog.info? 9).map (fun i => (i.zero, i.size, i.bytes)) = some (some (.string ⟨#[]⟩), 1, 16) := by kernel_rfl
theorem info_parts {o : Option TypeInfo} {z : Value} {a b : Nat} (h : o.map (fun i => (i.zero, i.size, i.bytes)) = some (some z, a, b)) : ∃ i, o = some i ∧ i.zero = some z ∧ i.size = a ∧ i.bytes = b := by
  cases o with
  | none => cases h
  | some i =>
    simp only [Option.map_some, Option.some.injEq, Prod.mk.injEq] at h
    exact ⟨i, rfl, h.1, h.2.1, h.2.2⟩
theorem add_eq (g k : Nat) : (⟨g, 0, none⟩ : Addr).add k = ⟨g, k, none⟩ := by
  unfold Addr.add; split <;> simp_all
theorem cell_at {w : World} {b : Nat} {cs : Array Value} {T : TypeId} (h : w.heap[b]? = some (.cells cs T (0, 0))) (i : Nat) : w.cell? ⟨b, i, none⟩ = cs[i]? := cell_of_row w b i cs T (0, 0) h
theorem heap_new (w : World) (o : Obj) : (w.alloc o).heap[w.heap.size]? = some o := heap_alloc_new w o
theorem reads_one {w : World} {g : Nat} {u : Value} {T : TypeId} (h : w.heap[g]? = some (.cells #[u] T (0, 0))) : Reads w (g + 1) 1 (some ⟨g, 0, none⟩) 1 [u] := by
  refine ⟨rfl, fun _ => ⟨_, rfl, Nat.lt_succ_self _, fun j y hj => ?_⟩⟩
  rw [add_eq, cell_at h]
  simpa using hj
theorem mem1 {u : Value} (h0 : u.oneCell' = true) : ∀ y ∈ [u], y.oneCell' = true := by
  intro y hy
  rw [List.mem_singleton.1 hy]; exact h0
theorem own_strs {w : World} {B : Nat} {v : Value} {l : List ByteArray} (h : w.ownsRow B 9 1 v l.length (l.map Value.string)) : ∃ A c, v = .slice A l.length c ∧ l.length ≤ c ∧ Strs w A l := by
  rcases h.2 with ⟨rfl, h0⟩ | ⟨g, cap, cur, rfl, hB, hg, h1, _⟩
  · have : l = [] := List.eq_nil_of_length_eq_zero h0
    subst this
    exact ⟨none, 0, rfl, Nat.le_refl _, Reads.none_⟩
  · exact ⟨_, _, rfl, h1, Reads.of_own h⟩
end Go.Proofs.YtmlaolmaopjhbaaGreatDoor.Lg
/- LgSplit, what a claim needs of it (prune.py). -/
namespace Go.Proofs.YtmlaolmaopjhbaaGreatDoor.Lg
open Go.RowKit
set_option linter.unusedVariables false
set_option maxRecDepth 100000
theorem split_one (c : UInt8) : ∀ s : List UInt8, Lib.splitK [c] 0 (Lib.count s [c]) s = splitB c s
  | [] => by rw [Lib.count_one]; rfl
  | b :: r => by
    have ih := split_one c r
    by_cases h : b = c
    · subst h
      have hix : Lib.index (b :: r) [b] = 0 := by rw [Lib.index]; simp [List.isPrefixOf]
      rw [Lib.count_cons_eq, Nat.add_comm 1, Lib.splitK, hix, splitB, if_pos rfl, ← ih]
      simp
    · have hp : ([c] : List UInt8).isPrefixOf (b :: r) = false := by simp [List.isPrefixOf, Ne.symm h]
      have hix : Lib.index (b :: r) [c] = if Lib.index r [c] == -1 then -1 else Lib.index r [c] + 1 := by rw [Lib.index, hp]; simp
      rw [Lib.count_cons_ne b c r h, splitB, if_neg h, ← ih]
      by_cases hm : Lib.index r [c] = -1
      · rw [Lib.count_miss hm]; rfl
      · have hge := Lib.index_ge r [c]
        obtain ⟨j, hj⟩ : ∃ j : Nat, Lib.index r [c] = j := ⟨(Lib.index r [c]).toNat, by omega⟩
        have hc := Lib.count_hit (by simp : [c] ≠ ([] : List UInt8)) hj
        rw [hc, Nat.add_comm 1, Lib.splitK, Lib.splitK]
        have hm1 : (Lib.index r [c] == -1) = false := by simp [hm]
        rw [hm1] at hix ⊢
        have hm2 : (Lib.index (b :: r) [c] == -1) = false := by rw [hix]; simp; omega
        rw [hm2]
        simp only [Bool.false_eq_true, if_false] at hix ⊢
        have e1 : (Lib.index (b :: r) [c]).toNat = j + 1 := by rw [hix, hj]; omega
        have e2 : (Lib.index r [c]).toNat = j := by rw [hj]; rfl
        rw [e1, e2]
        simp
def pieces (c : UInt8) (s : ByteArray) : List ByteArray := (splitB c (tl s)).map bs
theorem map_tl_bs (l : List (List UInt8)) : (l.map bs).map tl = l := by simp [List.map_map, Function.comp_def, tl, bs]
theorem map_bs_tl (l : List ByteArray) : (l.map tl).map bs = l := by
  rw [List.map_map]
  conv => rhs; rw [← List.map_id l]
  rfl
theorem splitB_pieces (c : UInt8) (s : ByteArray) : Lib.splitB ⟨#[c]⟩ 0 (Lib.countB s ⟨#[c]⟩) s = pieces c s := by
  have h := Lib.splitB_data ⟨#[c]⟩ 0 (Lib.countB s ⟨#[c]⟩) s
  have h2 : Lib.countB s ⟨#[c]⟩ = Lib.count (tl s) [c] := rfl
  rw [h2] at h ⊢
  have h3 : (Lib.splitB ⟨#[c]⟩ 0 (Lib.count (tl s) [c]) s).map tl = splitB c (tl s) := by rw [← split_one]; exact h
  rw [pieces, ← h3, map_bs_tl]
theorem pieces_ne (c : UInt8) (s : ByteArray) : pieces c s ≠ [] := by simp [pieces, splitB_ne]
theorem pieces_len (c : UInt8) (s : ByteArray) : (pieces c s).length ≤ s.size + 1 := by
  have := split_len c (tl s)
  rw [tl_len] at this
  simpa [pieces] using this
theorem pieces_count (c : UInt8) (s : ByteArray) : Lib.countB s ⟨#[c]⟩ + 1 = (pieces c s).length := by
  rw [← splitB_pieces, Lib.splitB_all ⟨#[c]⟩ (by show 1 ≤ 1; omega) 0 _ s rfl]
theorem pieces_part (c : UInt8) (s : ByteArray) : ∀ p ∈ pieces c s, p.size ≤ s.size := by
  intro p hp
  obtain ⟨q, hq, rfl⟩ := List.mem_map.1 hp
  have := split_part c (tl s) q hq
  rw [tl_len] at this
  rw [← tl_len, tl_bs]; exact this
theorem Strs.new (w : World) (l : List ByteArray) (t : TypeId) : Strs (w.alloc (.cells (l.map Value.string).toArray t)) (some ⟨w.heap.size, 0, none⟩) l := by
  refine ⟨by simp, fun hn => ⟨_, rfl, by simp, fun j u hu => ?_⟩⟩
  rw [List.getElem?_map] at hu
  obtain ⟨x, hx, rfl⟩ := Option.map_eq_some_iff.1 hu
  have h : (⟨w.heap.size, 0, none⟩ : Addr).add j = ⟨w.heap.size, j, none⟩ := by
    unfold Addr.add; split <;> simp_all
  rw [h]; exact Lib.pieces_cell_at w l t j x hx
theorem split_any (s : ByteArray) (c : UInt8) (m : Int) (w : World) (hs : s.size ≤ 1000000000) (hm : w.cell? ⟨6, 0, none⟩ = some (.int .i64 m)) :
    Calls Tryz.prog 261 #[.string s, .string ⟨#[c]⟩] w fun e w' => e = .returned (.slice (some ⟨w.heap.size, 0, none⟩) (pieces c s).length (pieces c s).length) ∧ w' = w.alloc (.cells ((pieces c s).map Value.string).toArray 9) := by
  refine (Tryz.strings_Split s ⟨#[c]⟩ m w (by omega) hm (by show 1 ≤ 1; omega)).mono ?_
  rintro e w' ⟨h1, h2⟩
  rw [splitB_pieces] at h2
  rw [pieces_count] at h1
  exact ⟨h1, h2⟩
end Go.Proofs.YtmlaolmaopjhbaaGreatDoor.Lg
namespace Go.Proofs.YtmlaolmaopjhbaaGreatDoor.Lg
open Go.RowKit
set_option linter.unusedVariables false
set_option maxRecDepth 100000
theorem l_ne {a : ByteArray} {l : List UInt8} (h : a ≠ bs l) : ¬ a.toList = l := by
  rw [Lib.toList_data]
  exact fun e => h (tl_inj e)
def dots (p : ByteArray) : Bool := (tl p).isEmpty || tl p == [46] || tl p == [46, 46]
def oddTo (p : ByteArray) (j : Nat) : Bool := dots p || !((tl p).take j).all printable
theorem oddTo_zero (p : ByteArray) : oddTo p 0 = dots p := by simp [oddTo]
theorem oddTo_next {p : ByteArray} {j : Nat} (hj : j < p.size) : oddTo p (j + 1) = (oddTo p j || !printable (p[j]'hj)) := by
  simp only [oddTo, all_next hj, Bool.not_and, Bool.or_assoc]
theorem oddTo_end (p : ByteArray) : oddTo p p.size = !partOk (tl p) := by
  simp only [oddTo, take_all, dots, partOk, Bool.not_and, Bool.not_not]
  cases (tl p).all printable <;> cases (tl p).isEmpty <;> cases tl p == [46] <;> cases tl p == [46, 46] <;> rfl
def pathE (s : List UInt8) : Int := if pathOk s = true then 0 else 13
theorem pathE_no {s : ByteArray} (h : s.size < 1 ∨ 48 < s.size) : pathE (tl s) = 13 := by
  have : pathOk (tl s) = false := by
    have e : (decide (1 ≤ s.size) && decide (s.size ≤ 48)) = false := by
      simp only [Bool.and_eq_false_iff, decide_eq_false_iff_not]; omega
    unfold pathOk
    rw [tl_len, e]; rfl
  rw [pathE, this]; rfl
theorem pieces_get {c : UInt8} {s : ByteArray} {k : Nat} (hk : k < (pieces c s).length) : (splitB c (tl s))[k]? = some (tl ((pieces c s)[k]'hk)) := by
  have hk' : k < (splitB c (tl s)).length := by simpa [pieces] using hk
  rw [List.getElem?_eq_getElem hk']
  simp [pieces, tl_bs]
theorem pathE_bad {s : ByteArray} {k : Nat} (hk : k < (pieces 47 s).length) (h : partOk (tl ((pieces 47 s)[k]'hk)) = false) : pathE (tl s) = 13 := by
  have : pathOk (tl s) = false := by
    cases e : pathOk (tl s) with
    | false => rfl
    | true =>
      simp only [pathOk, Bool.and_eq_true, List.all_eq_true] at e
      have := e.2 _ (List.mem_of_getElem? (pieces_get hk))
      rw [h] at this; cases this
  rw [pathE, this]; rfl
theorem pathE_ok {s : ByteArray} (h1 : 1 ≤ s.size) (h2 : s.size ≤ 48) (h : ∀ j (hj : j < (pieces 47 s).length), j < (pieces 47 s).length → partOk (tl ((pieces 47 s)[j]'hj)) = true) : pathE (tl s) = 0 := by
  have : pathOk (tl s) = true := by
    have ha : (splitB 47 (tl s)).all partOk = true := by
      rw [List.all_eq_true]
      intro x hx
      obtain ⟨j, hj⟩ := List.mem_iff_getElem?.1 hx
      obtain ⟨hj', e⟩ := List.getElem?_eq_some_iff.1 hj
      have hj2 : j < (pieces 47 s).length := by simpa [pieces] using hj'
      have := pieces_get hj2
      rw [hj] at this
      injection this with this
      rw [this]
      exact h j hj2 hj2
    rw [pathOk, ha, tl_len]; simp; omega
  rw [pathE, this]; rfl
theorem upto_next {l : List ByteArray} {p : ByteArray → Bool} {k : Nat} (hk : k < l.length) (h : ∀ j (hj : j < l.length), j < k → p l[j] = true) (h2 : p l[k] = true) : ∀ j (hj : j < l.length), j < k + 1 → p l[j] = true := by
  intro j hj hlt
  rcases Nat.lt_or_ge j k with h3 | h3
  · exact h j hj h3
  · obtain rfl : j = k := by omega
    exact h2
theorem dots_false {p : ByteArray} (h1 : p ≠ ⟨#[]⟩) (h2 : p ≠ ⟨#[46]⟩) (h3 : p ≠ ⟨#[46, 46]⟩) : dots p = false := by
  unfold dots
  rw [Bool.or_eq_false_iff, Bool.or_eq_false_iff, beq_eq_false_iff_ne, beq_eq_false_iff_ne]
  refine ⟨⟨?_, fun e => h2 (tl_inj e)⟩, fun e => h3 (tl_inj e)⟩
  cases e : tl p with
  | nil => exact absurd (tl_inj e) h1
  | cons a l => rfl
theorem pr_cases2 (c : UInt8) : (printable c = true ∧ ¬ (c.toNat : Int) ≤ 32 ∧ ¬ (126 : Int) < c.toNat) ∨ (printable c = false ∧ ((c.toNat : Int) ≤ 32 ∨ (¬ (c.toNat : Int) ≤ 32 ∧ (126 : Int) < c.toNat))) := by
  unfold printable
  generalize c.toNat = n
  simp only [Bool.and_eq_true, decide_eq_true_eq, Bool.and_eq_false_iff, decide_eq_false_iff_not]
  omega
set_option maxHeartbeats 4000000 in
theorem ppath_any (s : ByteArray) (m : Int) (w : World) (hs : s.size ≤ 1000000000) (hm : w.cell? ⟨6, 0, none⟩ = some (.int .i64 m)) :
    Calls Tryz.prog 220 #[.string s] w fun e w' => e = .returned (.int .i64 (pathE (tl s))) ∧ Below w.heap.size w w' := by
  by_cases h0 : s.size = 0
  · have HN := Lib.hid (pathE_no (s := s) (.inl (by omega)))
    obtain rfl := empty_of h0
    go_enter Tryz.func220, Tryz.ntmps220
    go_wp2_with (fail)
    go_ret
    exact ⟨ret_int HN.out, Below.refl _ _⟩
  · have hne := some_ne h0
    by_cases h16 : (48 : Int) < (s.size : Int)
    · have HN := Lib.hid (pathE_no (s := s) (.inr (by omega)))
      go_enter Tryz.func220, Tryz.ntmps220
      go_wp2_with (fail)
      go_ret
      exact ⟨ret_int HN.out, Below.refl _ _⟩
    · have OK := Lib.hid (pathE_ok (s := s) (by omega) (by omega))
      have BAD : Hid (∀ k (hk : k < (pieces 47 s).length), partOk (tl ((pieces 47 s)[k]'hk)) = false → pathE (tl s) = 13) := Lib.hid (fun k hk h => pathE_bad hk h)
      have SP := Lib.hid (split_any s 47 m w hs hm)
      have hpl : (pieces 47 s).length ≤ 1000000001 := by have := pieces_len 47 s; omega
      have PS : Hid (∀ k (hk : k < (pieces 47 s).length) p, p = (pieces 47 s)[k]'hk → p.size ≤ 1000000000) := Lib.hid (fun k hk p e => by
        have := pieces_part 47 s _ (List.getElem_mem hk)
        rw [e]; omega)
      have CL := Lib.hid (Strs.new w (pieces 47 s) 9)
      have BW : Hid (Below w.heap.size w (w.alloc (.cells ((pieces 47 s).map Value.string).toArray 9))) := Lib.hid ((Below.refl _ _).alloc (Nat.le_refl _) _)
      go_enter Tryz.func220, Tryz.ntmps220
      go_wp2_with (go_at_call 261; ((with_reducible refine (SP.out).mono ?_); rintro e w1 ⟨rfl, rfl⟩))
      generalize w.alloc (.cells ((pieces 47 s).map Value.string).toArray 9) = W1 at *
      generalize pieces 47 s = P at *
      go_loop [17] (fun i => ∃ k : Nat, i = .int .i64 k ∧ k ≤ P.length ∧ ∀ j (hj : j < P.length), j < k → partOk (tl P[j]) = true) (fun i => P.length - (intOf i).toNat)
      case atStart => exact ⟨0, rfl, by omega, fun j _ h => by omega⟩
      case round =>
        obtain ⟨k, rfl, hk, ha⟩ := hrel
        have HA := Lib.hid ha
        clear ha
        by_cases hlt : k < P.length
        · have hkI : (k : Int) < (P.length : Int) := by omega
          obtain ⟨ad, ead, _, hc⟩ := CL.out.at_ hlt
          injection ead with ead
          subst ead
          have c0 : W1.cell? ⟨w.heap.size, k, none⟩ = some (.string P[k]) := by
            have : (⟨w.heap.size, 0, none⟩ : Addr).add k = ⟨w.heap.size, k, none⟩ := by unfold Addr.add; split <;> simp_all
            rw [← this]; exact hc
          clear hc
          have B1 := Lib.hid (BAD.out k hlt)
          have NX := Lib.hid (upto_next (p := fun p => partOk (tl p)) hlt HA.out)
          obtain ⟨p, ep⟩ : ∃ p, p = P[k] := ⟨_, rfl⟩
          rw [← ep] at c0 B1 NX
          have ON : Hid (∀ j (hj : j < p.size), oddTo p (j + 1) = (oddTo p j || !printable (p[j]'hj))) := Lib.hid (fun j hj => oddTo_next hj)
          have OE := Lib.hid (oddTo_end p)
          have hps : p.size ≤ 1000000000 := PS.out _ hlt _ ep
          clear ep
          have hcase : (dots p = true ∧ (p.toList.isEmpty = true ∨ (p.toList.isEmpty = false ∧ p.toList = [46]) ∨ (p.toList.isEmpty = false ∧ ¬ p.toList = [46] ∧ p.toList = [46, 46]))) ∨ (dots p = false ∧ p.toList.isEmpty = false ∧ ¬ p.toList = [46] ∧ ¬ p.toList = [46, 46]) := by
            by_cases h1 : p = ⟨#[]⟩
            · exact .inl ⟨by rw [h1]; rfl, .inl (by rw [h1, Lib.toList_data]; rfl)⟩
            · have n1 := some_ne (s := p) (fun h => h1 (empty_of h))
              by_cases h2 : p = ⟨#[46]⟩
              · exact .inl ⟨by rw [h2]; rfl, .inr (.inl ⟨n1, by rw [h2, Lib.toList_data]⟩)⟩
              · by_cases h3 : p = ⟨#[46, 46]⟩
                · exact .inl ⟨by rw [h3]; rfl, .inr (.inr ⟨n1, l_ne h2, by rw [h3, Lib.toList_data]⟩)⟩
                · exact .inr ⟨dots_false h1 h2 h3, n1, l_ne h2, l_ne h3⟩
          rcases hcase with ⟨hd, d1 | ⟨d1, d2⟩ | ⟨d1, d2, d3⟩⟩ | ⟨hd, d1, d2, d3⟩
          all_goals
            have DZ := Lib.hid hd
            clear hd
            go_wp2_with (fail)
            go_loop [5, 33] (fun v i => ∃ j : Nat, v = .bool (oddTo p j) ∧ i = .int .i64 j ∧ j ≤ p.size) (fun _ i => p.size - (intOf i).toNat)
            case atStart => exact ⟨0, by first | (rw [oddTo_zero, DZ.out]; done) | (rw [oddTo_zero, DZ.out]; simp [d2, d3]), rfl, by omega⟩
            case round =>
              obtain ⟨j, rfl, rfl, hj⟩ := hrel
              by_cases hjl : j < p.size
              · have hjI : (j : Int) < (p.size : Int) := by omega
                have O1 := Lib.hid (ON.out j hjl)
                cases eo : oddTo p j
                · rcases pr_cases2 (p[j]'hjl) with ⟨hb, g1, g2⟩ | ⟨hb, g⟩
                  · have HB := Lib.hid hb
                    clear hb
                    go_wp2_with (fail)
                    go_round
                    case rel => exact ⟨j + 1, by rw [O1.out, eo, HB.out]; rfl, by go_num, by omega⟩
                    case measure => simp [intOf]; omega
                  · have HB := Lib.hid hb
                    clear hb
                    rcases g with g1 | ⟨g1, g2⟩
                    all_goals
                      go_wp2_with (fail)
                      go_round
                      case rel => exact ⟨j + 1, by rw [O1.out, eo, HB.out]; rfl, by go_num, by omega⟩
                      case measure => simp [intOf]; omega
                · go_wp2_with (fail)
                  go_round
                  case rel => exact ⟨j + 1, by rw [O1.out, eo]; rfl, by go_num, by omega⟩
                  case measure => simp [intOf]; omega
              · obtain rfl : j = p.size := by omega
                cases eo : oddTo p p.size
                · have hp : partOk (tl p) = true := by rw [OE.out] at eo; simpa using eo
                  have NX1 := Lib.hid (NX.out hp)
                  clear hp
                  go_wp2_with (fail)
                  go_round
                  case rel => exact ⟨k + 1, by go_num, by omega, NX1.out⟩
                  case measure => simp [intOf]; omega
                · have hp : partOk (tl p) = false := by rw [OE.out] at eo; simpa using eo
                  have B2 := Lib.hid (B1.out hp)
                  clear hp
                  go_wp2_with (fail)
                  go_ret
                  exact ⟨ret_int B2.out, BW.out⟩
        · obtain rfl : k = P.length := by omega
          go_wp2_with (fail)
          go_ret
          exact ⟨ret_int (OK.out (fun j hj h => HA.out j hj h)), BW.out⟩
def good (l : List UInt8) : Bool := (splitB 47 l).all partOk
theorem split_pre {c : UInt8} {p : List UInt8} (h : c ∉ p) (s : List UInt8) : ∃ hd t, splitB c s = hd :: t ∧ splitB c (p ++ s) = (p ++ hd) :: t := by
  induction p with
  | nil =>
    cases e : splitB c s with
    | nil => exact absurd e (splitB_ne c s)
    | cons a b => exact ⟨a, b, rfl, by simpa using e⟩
  | cons x p ih =>
    obtain ⟨hd, t, h1, h2⟩ := ih (fun e => h (List.mem_cons_of_mem _ e))
    have hx : x ≠ c := fun e => h (by simp [e])
    exact ⟨hd, t, h1, by rw [List.cons_append, splitB, if_neg hx, h2]; rfl⟩
def RInv (s : ByteArray) (a i : Nat) : Prop :=
  a ≤ i ∧ i ≤ s.size + 1 ∧ (i ≤ s.size → good (tl s) = good ((tl s).drop a) ∧ ∀ c ∈ ((tl s).drop a).take (i - a), c ≠ 47 ∧ printable c = true) ∧ (i = s.size + 1 → good (tl s) = true)
theorem RInv.zero (s : ByteArray) : RInv s 0 0 := ⟨by omega, by omega, fun _ => ⟨by simp, by simp⟩, fun h => by omega⟩
theorem drop_at {s : ByteArray} {a i : Nat} (hai : a ≤ i) (hi : i < s.size) : (tl s).drop a = ((tl s).drop a).take (i - a) ++ s[i]'hi :: (tl s).drop (i + 1) := by
  have h1 : ((tl s).drop a).drop (i - a) = (tl s).drop i := by rw [List.drop_drop, Nat.add_sub_cancel' hai]
  have h2 : (tl s).drop i = s[i]'hi :: (tl s).drop (i + 1) := by
    have hl : i < (tl s).length := by rw [tl_len]; exact hi
    rw [List.drop_eq_getElem_cons hl]; first | done | rfl
  conv => lhs; rw [← List.take_append_drop (i - a) ((tl s).drop a), h1, h2]
theorem extract_tl (s : ByteArray) (a i : Nat) : tl (s.extract a i) = ((tl s).drop a).take (i - a) := by
  simp only [tl]; rw [Lib.extract_data]; try simp [List.drop_take]
theorem RInv.plain {s : ByteArray} {a i : Nat} (h : RInv s a i) (hi : i < s.size) (h1 : s[i]'hi ≠ 47) (h2 : printable (s[i]'hi) = true) : RInv s a (i + 1) := by
  obtain ⟨ha, _, hg, _⟩ := h
  obtain ⟨g1, g2⟩ := hg (by omega)
  refine ⟨by omega, by omega, fun _ => ⟨g1, fun c hc => ?_⟩, fun h => by omega⟩
  have e : i + 1 - a = (i - a) + 1 := by omega
  have hl : ((tl s).drop a)[i - a]? = some (s[i]'hi) := by
    rw [List.getElem?_drop, show a + (i - a) = i by omega]; exact tl_get hi
  rw [e, List.take_add_one, hl] at hc
  rcases List.mem_append.1 hc with hc | hc
  · exact g2 c hc
  · have : c = s[i]'hi := by simpa using hc
    rw [this]; exact ⟨h1, h2⟩
theorem RInv.bad {s : ByteArray} {a i : Nat} (h : RInv s a i) (hi : i < s.size) (h1 : s[i]'hi ≠ 47) (h2 : printable (s[i]'hi) = false) : good (tl s) = false := by
  obtain ⟨ha, _, hg, _⟩ := h
  obtain ⟨g1, g2⟩ := hg (by omega)
  rw [g1, drop_at ha hi]
  have hn : (47 : UInt8) ∉ ((tl s).drop a).take (i - a) ++ [s[i]'hi] := by
    intro hm
    rcases List.mem_append.1 hm with hm | hm
    · exact (g2 _ hm).1 rfl
    · exact h1 (List.mem_singleton.1 hm).symm
  obtain ⟨hd, t, _, e⟩ := split_pre hn ((tl s).drop (i + 1))
  rw [List.append_assoc] at e
  simp only [List.singleton_append] at e
  rw [good, e, List.all_cons]
  have : partOk (((tl s).drop a).take (i - a) ++ [s[i]'hi] ++ hd) = false := by
    simp [partOk, h2]
  rw [List.append_assoc] at this
  simp only [List.singleton_append, List.append_assoc] at this ⊢
  rw [this]; rfl
theorem part_dots {p : ByteArray} (h : ∀ c ∈ tl p, c ≠ 47 ∧ printable c = true) : partOk (tl p) = !dots p := by
  have ha : (tl p).all printable = true := List.all_eq_true.2 fun c hc => (h c hc).2
  rw [partOk, ha, dots]
  cases (tl p).isEmpty <;> cases tl p == [46] <;> cases tl p == [46, 46] <;> rfl
theorem RInv.part {s : ByteArray} {a i : Nat} (h : RInv s a i) (hi : i ≤ s.size) (h1 : ∀ hk : i < s.size, s[i]'hk = 47) :
    (dots (s.extract a i) = true → good (tl s) = false) ∧ (dots (s.extract a i) = false → RInv s (i + 1) (i + 1)) := by
  obtain ⟨ha, _, hg, _⟩ := h
  obtain ⟨g1, g2⟩ := hg hi
  have hp := part_dots (p := s.extract a i) (by rw [extract_tl]; exact g2)
  rw [extract_tl] at hp
  rcases Nat.lt_or_ge i s.size with hlt | hge
  · have e := drop_at ha hlt
    rw [h1 hlt] at e
    have e2 : good ((tl s).drop a) = (partOk (((tl s).drop a).take (i - a)) && good ((tl s).drop (i + 1))) := by
      conv => lhs; rw [e, good, split_app (fun hm => (g2 _ hm).1 rfl), List.all_cons]
      rfl
    refine ⟨fun h => by rw [g1, e2, hp, h]; rfl, fun h => ⟨by omega, by omega, fun _ => ⟨by rw [g1, e2, hp, h]; simp, by simp⟩, fun h2 => by omega⟩⟩
  · obtain rfl : i = s.size := by omega
    have e : ((tl s).drop a).take (s.size - a) = (tl s).drop a := List.take_of_length_le (by rw [List.length_drop, tl_len]; exact Nat.le_refl _)
    rw [e] at hp g2
    have e2 : good ((tl s).drop a) = partOk ((tl s).drop a) := by
      rw [good, split_free (fun hm => (g2 _ hm).1 rfl)]; simp
    refine ⟨fun h => by rw [g1, e2, hp, h]; rfl, fun h => ⟨by omega, by omega, fun h2 => by omega, fun _ => ?_⟩⟩
    rw [g1, e2, hp, h]; rfl
end Go.Proofs.YtmlaolmaopjhbaaGreatDoor.Lg
