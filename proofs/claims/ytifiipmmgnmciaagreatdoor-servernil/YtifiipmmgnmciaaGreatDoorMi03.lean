/- Joined by mkmerged.py: LgSpec, LgWords, LgCells, LgText, LgName. -/
import Derived.Lib.ItoaNum
import Derived.Test.YtifiipmmgnmciaaGreatDoorProg
import Derived.WalkKit
import Derived.Lib.Strings
import Derived.Lib.Hide
import Derived.Test.YtifiipmmgnmciaaGreatDoorMi02
import Derived.Deep.RegionWith
import Derived.Laws.ResultCell
import Derived.Laws.Rows
import Derived.Laws.NewBlocks
import Derived.Test.YtifiipmmgnmciaaGreatDoorMi01
/- LgSpec, what a claim needs of it (prune.py). -/
namespace Go.Proofs.YtifiipmmgnmciaaGreatDoor.Lg
set_option linter.unusedVariables false
abbrev B := List UInt8
def splitB (c : UInt8) : B → List B
  | [] => [[]]
  | x :: r => if x = c then [] :: splitB c r else
    match splitB c r with
    | h :: t => (x :: h) :: t
    | [] => [[x]]
theorem splitB_ne (c : UInt8) : ∀ s, splitB c s ≠ []
  | [] => by simp [splitB]
  | x :: r => by
    unfold splitB
    split
    · simp
    · split <;> simp
def joinB (c : UInt8) : List B → B
  | [] => []
  | [x] => x
  | x :: y :: r => x ++ c :: joinB c (y :: r)
theorem joinB_cons {c : UInt8} {x : B} {l : List B} (h : l ≠ []) : joinB c (x :: l) = x ++ c :: joinB c l := by
  cases l with
  | nil => exact absurd rfl h
  | cons y r => rfl
theorem join_split (c : UInt8) : ∀ s, joinB c (splitB c s) = s
  | [] => rfl
  | x :: r => by
    have ih := join_split c r
    unfold splitB
    split
    · next h => rw [joinB_cons (splitB_ne c r), ih, h]; rfl
    · split
      · next h t e =>
        rw [e] at ih
        rw [← ih]
        cases t <;> rfl
      · next e => exact absurd e (splitB_ne c r)
theorem split_len (c : UInt8) : ∀ s, (splitB c s).length ≤ s.length + 1
  | [] => by simp [splitB]
  | x :: r => by
    have ih := split_len c r
    unfold splitB
    split
    · simp; omega
    · split
      · next e => rw [e] at ih; simp at ih ⊢; omega
      · simp
theorem split_part (c : UInt8) : ∀ s, ∀ p ∈ splitB c s, p.length ≤ s.length
  | [], p, h => by simp [splitB] at h; simp [h]
  | x :: r, p, h => by
    have ih := split_part c r
    unfold splitB at h
    split at h
    · rcases List.mem_cons.1 h with rfl | h
      · simp
      · have := ih p h; simp; omega
    · split at h
      · next e =>
        rw [e] at ih
        rcases List.mem_cons.1 h with rfl | h
        · have := ih _ (List.mem_cons_self ..)
          simp; omega
        · have := ih p (List.mem_cons_of_mem _ h); simp; omega
      · next e => exact absurd e (splitB_ne c r)
def printable (c : UInt8) : Bool := decide (33 ≤ c.toNat) && decide (c.toNat ≤ 126)
def partOk (p : B) : Bool := p.all printable && !p.isEmpty && !(p == [46]) && !(p == [46, 46])
def pathOk (s : B) : Bool := decide (1 ≤ s.length) && decide (s.length ≤ 48) && (splitB 47 s).all partOk
def nameByte (c : UInt8) : Bool := c == 45 || c == 95 || (decide (48 ≤ c.toNat) && decide (c.toNat ≤ 57)) || (decide (97 ≤ c.toNat) && decide (c.toNat ≤ 122))
def nameOk (s : B) : Bool := decide (1 ≤ s.length) && decide (s.length ≤ 16) && s.all nameByte
def textOk (s : B) : Bool := decide (1 ≤ s.length) && decide (s.length ≤ 32) && s.all printable
def number : B → Option Nat
  | [c] => if 48 ≤ c.toNat ∧ c.toNat ≤ 57 then some (c.toNat - 48) else none
  | [c, d] => if 49 ≤ c.toNat ∧ c.toNat ≤ 57 ∧ 48 ≤ d.toNat ∧ d.toNat ≤ 57 then some (10 * (c.toNat - 48) + (d.toNat - 48)) else none
  | _ => none
theorem dig_of {c : UInt8} {k : Nat} (h : c.toNat = 48 + k) : UInt8.ofNat (48 + k) = c := by rw [← h]; simp
theorem dec_one {n : Nat} (h : n < 10) : Lib.decDigits n = [UInt8.ofNat (48 + n)] := by rw [Lib.decDigits, dif_pos h]
theorem dec_two {n : Nat} (h : 10 ≤ n) (h2 : n < 100) : Lib.decDigits n = [UInt8.ofNat (48 + n / 10), UInt8.ofNat (48 + n % 10)] := by
  rw [Lib.decDigits, dif_neg (by omega), dec_one (by omega)]; rfl
theorem number_some {s : B} {n : Nat} (h : number s = some n) : n < 100 ∧ Lib.decDigits n = s := by
  match s, h with
  | [c], h =>
    simp only [number] at h
    split at h
    · next hc =>
      injection h with h
      subst h
      exact ⟨by omega, by rw [dec_one (by omega), dig_of (c := c) (by omega)]⟩
    · cases h
  | [c, d], h =>
    simp only [number] at h
    split at h
    · next hc =>
      injection h with h
      subst h
      refine ⟨by omega, ?_⟩
      rw [dec_two (by omega) (by omega), dig_of (c := c) (by omega), dig_of (c := d) (by omega)]
    · cases h
theorem number_dec {n : Nat} (h : n < 100) : number (Lib.decDigits n) = some n := by
  by_cases h10 : n < 10
  · rw [dec_one h10, number]
    have : (UInt8.ofNat (48 + n)).toNat = 48 + n := by rw [UInt8.toNat_ofNat']; omega
    rw [this, if_pos (by omega)]; congr 1; omega
  · rw [dec_two (by omega) h, number]
    have h1 : (UInt8.ofNat (48 + n / 10)).toNat = 48 + n / 10 := by rw [UInt8.toNat_ofNat']; omega
    have h2 : (UInt8.ofNat (48 + n % 10)).toNat = 48 + n % 10 := by rw [UInt8.toNat_ofNat']; omega
    rw [h1, h2, if_pos (by omega)]; congr 1; omega
inductive Stp where
  | mk (op : Int) (args : List B) (n : Int) (block : List Stp)
def Stp.op : Stp → Int | ⟨o, _, _, _⟩ => o
def Stp.args : Stp → List B | ⟨_, a, _, _⟩ => a
def Stp.n : Stp → Int | ⟨_, _, n, _⟩ => n
def Stp.block : Stp → List Stp | ⟨_, _, _, b⟩ => b
def wordsL : List B := [[63], [112, 117, 116], [99, 111, 112, 121], [99, 97, 116], [117, 112, 112, 101, 114], [115, 111, 114, 116], [100, 114, 111, 112], [110, 101, 101, 100], [102, 97, 105, 108], [108, 111, 111, 112], [105, 102]]
def wordOf (op : Int) : B := if 1 ≤ op ∧ op ≤ 10 then wordsL.getD op.toNat [63] else [63]
def stepW : List B → Option (Int × List B × Int)
  | [] => none
  | w :: a =>
    if w = [112, 117, 116] then (if a.length = 2 ∧ (a.take 1).all pathOk = true ∧ (a.drop 1).all textOk = true then some (1, a, 0) else none)
    else if w = [99, 111, 112, 121] then (if a.length = 2 ∧ a.all pathOk = true then some (2, a, 0) else none)
    else if w = [99, 97, 116] then (if 2 ≤ a.length ∧ a.length ≤ 8 ∧ a.all pathOk = true then some (3, a, 0) else none)
    else if w = [117, 112, 112, 101, 114] then (if a.length = 1 ∧ a.all pathOk = true then some (4, a, 0) else none)
    else if w = [115, 111, 114, 116] then (if a.length = 1 ∧ a.all pathOk = true then some (5, a, 0) else none)
    else if w = [100, 114, 111, 112] then (if a.length = 1 ∧ a.all pathOk = true then some (6, a, 0) else none)
    else if w = [110, 101, 101, 100] then (if a.length = 1 ∧ a.all nameOk = true then some (7, a, 0) else none)
    else if w = [102, 97, 105, 108] then (if a.length = 1 ∧ a.all textOk = true then some (8, a, 0) else none)
    else if w = [108, 111, 111, 112] then (match a with | [x] => (match number x with | some k => some (9, [], (k : Int)) | none => none) | _ => none)
    else if w = [105, 102] then (if a.length = 1 ∧ a.all pathOk = true then some (10, a, 0) else none)
    else none
def stepOf (line : B) : Option (Int × List B × Int) := stepW (splitB 32 line)
def endW : B := [101, 110, 100]
def headW (op : Int) (args : List B) (n : Int) : B := joinB 32 (wordOf op :: args) ++ (if op = 9 then 32 :: Lib.itoa n else [])
theorem itoa_nat' (n : Nat) : Lib.itoa (n : Int) = Lib.decDigits n := by
  unfold Lib.itoa
  rw [if_neg (by omega)]
  rfl
theorem ite_or {α : Type} {p : Prop} [Decidable p] {x y z : α} (h : (if p then x else y) = z) : (p ∧ x = z) ∨ (¬ p ∧ y = z) := by
  by_cases hp : p
  · rw [if_pos hp] at h; exact .inl ⟨hp, h⟩
  · rw [if_neg hp] at h; exact .inr ⟨hp, h⟩
theorem stepW_says {w : List B} {op n : Int} {args : List B} (h : stepW w = some (op, args, n)) :
    1 ≤ op ∧ op ≤ 10 ∧ 0 ≤ n ∧ n < 100 ∧ (op ≠ 9 → w = wordOf op :: args ∧ n = 0) ∧ (op = 9 → w = [wordOf op, Lib.itoa n] ∧ args = []) := by
  have fin : ∀ (p : Prop) [Decidable p] (w a : List B) (w0 : B) (k : Int), 1 ≤ k → k ≤ 10 → k ≠ 9 → w0 = wordOf k → w = w0 :: a → (if p then some (k, a, 0) else none) = some (op, args, n) →
      1 ≤ op ∧ op ≤ 10 ∧ 0 ≤ n ∧ n < 100 ∧ (op ≠ 9 → w = wordOf op :: args ∧ n = 0) ∧ (op = 9 → w = [wordOf op, Lib.itoa n] ∧ args = []) := by
    intro p _ w a w0 k h1 h2 h3 h4 h5 h
    rcases ite_or h with ⟨_, h⟩ | ⟨_, h⟩
    · simp only [Option.some.injEq, Prod.mk.injEq] at h
      obtain ⟨rfl, rfl, rfl⟩ := h
      exact ⟨h1, h2, by omega, by omega, fun _ => ⟨by rw [h5, h4], rfl⟩, fun e => absurd e h3⟩
    · cases h
  cases w with
  | nil => cases h
  | cons w a =>
    simp only [stepW] at h
    rcases ite_or h with ⟨rfl, h⟩ | ⟨_, h⟩
    · exact fin _ _ _ _ 1 (by omega) (by omega) (by omega) rfl rfl h
    rcases ite_or h with ⟨rfl, h⟩ | ⟨_, h⟩
    · exact fin _ _ _ _ 2 (by omega) (by omega) (by omega) rfl rfl h
    rcases ite_or h with ⟨rfl, h⟩ | ⟨_, h⟩
    · exact fin _ _ _ _ 3 (by omega) (by omega) (by omega) rfl rfl h
    rcases ite_or h with ⟨rfl, h⟩ | ⟨_, h⟩
    · exact fin _ _ _ _ 4 (by omega) (by omega) (by omega) rfl rfl h
    rcases ite_or h with ⟨rfl, h⟩ | ⟨_, h⟩
    · exact fin _ _ _ _ 5 (by omega) (by omega) (by omega) rfl rfl h
    rcases ite_or h with ⟨rfl, h⟩ | ⟨_, h⟩
    · exact fin _ _ _ _ 6 (by omega) (by omega) (by omega) rfl rfl h
    rcases ite_or h with ⟨rfl, h⟩ | ⟨_, h⟩
    · exact fin _ _ _ _ 7 (by omega) (by omega) (by omega) rfl rfl h
    rcases ite_or h with ⟨rfl, h⟩ | ⟨_, h⟩
    · exact fin _ _ _ _ 8 (by omega) (by omega) (by omega) rfl rfl h
    rcases ite_or h with ⟨rfl, h⟩ | ⟨_, h⟩
    · match a, h with
      | [x], h =>
        cases e : number x with
        | none => simp [e] at h
        | some k =>
          simp only [e] at h
          obtain ⟨rfl, rfl, rfl⟩ := h
          obtain ⟨h1, h2⟩ := number_some e
          refine ⟨by omega, by omega, by omega, by omega, fun e => absurd rfl e, fun _ => ⟨?_, rfl⟩⟩
          rw [itoa_nat', h2]; rfl
    rcases ite_or h with ⟨rfl, h⟩ | ⟨_, h⟩
    · exact fin _ _ _ _ 10 (by omega) (by omega) (by omega) rfl rfl h
    · cases h
theorem stepOf_says {line : B} {op n : Int} {args : List B} (h : stepOf line = some (op, args, n)) : 1 ≤ op ∧ op ≤ 10 ∧ 0 ≤ n ∧ n < 100 ∧ line = headW op args n := by
  obtain ⟨h1, h2, h3, h4, h5, h6⟩ := stepW_says h
  refine ⟨h1, h2, h3, h4, ?_⟩
  have hj := join_split 32 line
  by_cases e : op = 9
  · obtain ⟨h7, rfl⟩ := h6 e
    rw [h7] at hj
    rw [← hj, headW, if_pos e]
    rfl
  · obtain ⟨h7, rfl⟩ := h5 e
    rw [h7] at hj
    rw [← hj, headW, if_neg e, List.append_nil]
inductive Res where
  | ok (out : List Stp) (rest : List B)
  | err (e : Nat)
def blk : Nat → Nat → List Stp → List B → Res
  | 0, _, _, _ => .err 0
  | _ + 1, deep, out, [] => if 0 < deep then .err 21 else .ok out []
  | f + 1, deep, out, line :: rest =>
    if line = endW then (if 0 < deep then .ok out rest else .err 21) else
    match stepOf line with
    | none => .err 20
    | some (op, args, n) =>
      if op = 9 ∨ op = 10 then
        if 4 ≤ deep then .err 22 else
        match blk f (deep + 1) [] rest with
        | .err e => .err e
        | .ok inn rest' => blk f deep (out ++ [⟨op, args, n, inn⟩]) rest'
      else blk f deep (out ++ [⟨op, args, n, []⟩]) rest
theorem blk_le : ∀ f deep out lines o r, blk f deep out lines = .ok o r → r.length ≤ lines.length
  | 0, _, _, _, _, _, h => by cases h
  | f + 1, deep, out, [], o, r, h => by
    unfold blk at h
    split at h
    · cases h
    · cases h; exact Nat.le_refl _
  | f + 1, deep, out, line :: rest, o, r, h => by
    unfold blk at h
    split at h
    · split at h
      · cases h; simp
      · cases h
    · split at h
      · cases h
      · split at h
        · split at h
          · cases h
          · split at h
            · cases h
            · next e =>
              have h1 := blk_le _ _ _ _ _ _ e
              have h2 := blk_le _ _ _ _ _ _ h
              simp; omega
        · have h2 := blk_le _ _ _ _ _ _ h
          simp; omega
theorem blk_fuel : ∀ f g deep out lines, lines.length < f → lines.length < g → blk f deep out lines = blk g deep out lines
  | 0, _, _, _, _, h, _ => absurd h (by omega)
  | _ + 1, 0, _, _, _, _, h => absurd h (by omega)
  | f + 1, g + 1, deep, out, [], _, _ => by rw [blk, blk]
  | f + 1, g + 1, deep, out, line :: rest, h1, h2 => by
    simp only [List.length_cons] at h1 h2
    rw [blk, blk]
    split
    · rfl
    · split
      · rfl
      · split
        · split
          · rfl
          · rw [blk_fuel f g (deep + 1) [] rest (by omega) (by omega)]
            split
            · rfl
            · next e =>
              have h3 := blk_le _ _ _ _ _ _ e
              exact blk_fuel f g deep _ _ (by omega) (by omega)
        · exact blk_fuel f g deep _ rest (by omega) (by omega)
def bk (deep : Nat) (out : List Stp) (lines : List B) : Res := blk (lines.length + 1) deep out lines
theorem bk_le {deep : Nat} {out o : List Stp} {lines r : List B} (h : bk deep out lines = .ok o r) : r.length ≤ lines.length := blk_le _ _ _ _ _ _ h
theorem bk_nil (deep : Nat) (out : List Stp) : bk deep out [] = if 0 < deep then .err 21 else .ok out [] := by rw [bk, blk]
theorem bk_cons (deep : Nat) (out : List Stp) (line : B) (rest : List B) : bk deep out (line :: rest) =
    if line = endW then (if 0 < deep then .ok out rest else .err 21) else
    match stepOf line with
    | none => .err 20
    | some (op, args, n) =>
      if op = 9 ∨ op = 10 then
        if 4 ≤ deep then .err 22 else
        match bk (deep + 1) [] rest with
        | .err e => .err e
        | .ok inn rest' => bk deep (out ++ [⟨op, args, n, inn⟩]) rest'
      else bk deep (out ++ [⟨op, args, n, []⟩]) rest := by
  rw [bk, blk]
  split
  · rfl
  · split
    · rfl
    · split
      · split
        · rfl
        · simp only [List.length_cons, bk]
          split
          · rfl
          · next e =>
            have h3 := blk_le _ _ _ _ _ _ e
            exact blk_fuel _ _ deep _ _ (by omega) (by omega)
      · rfl
def parse (cmd : B) : List Stp × Nat :=
  if 8192 < cmd.length then ([], 15)
  else if cmd = [] then ([], 0)
  else if cmd.getLast? ≠ some 10 then ([], 20)
  else if 64 < (splitB 10 cmd.dropLast).length then ([], 15)
  else match bk 0 [] (splitB 10 cmd.dropLast) with
    | .ok out _ => (out, 0)
    | .err e => ([], e)
def linesOf : List Stp → List B
  | [] => []
  | ⟨op, args, n, b⟩ :: r => headW op args n :: (if op = 9 ∨ op = 10 then linesOf b ++ [endW] else []) ++ linesOf r
def print (l : List Stp) : B := (linesOf l).flatMap fun s => s ++ [10]
end Go.Proofs.YtifiipmmgnmciaaGreatDoor.Lg
/- LgWords, what a claim needs of it (prune.py). -/
namespace Go.Proofs.YtifiipmmgnmciaaGreatDoor.Lg
open Go.RowKit
set_option linter.unusedVariables false
set_option maxRecDepth 100000
abbrev tl (s : ByteArray) : List UInt8 := s.data.toList
theorem tl_inj {a b : ByteArray} (h : tl a = tl b) : a = b := by
  rcases a with ⟨⟨a⟩⟩
  rcases b with ⟨⟨b⟩⟩
  simpa [tl] using h
def bs (l : List UInt8) : ByteArray := ⟨l.toArray⟩
theorem bs_tl (s : ByteArray) : bs (tl s) = s := rfl
theorem tl_bs (l : List UInt8) : tl (bs l) = l := rfl
theorem tl_len (s : ByteArray) : (tl s).length = s.size := (Lib.size_eq s).symm
theorem tl_get {s : ByteArray} {k : Nat} (hk : k < s.size) : (tl s)[k]? = some (s[k]'hk) := by
  rw [List.getElem?_eq_getElem (by rw [tl_len]; exact hk)]
  rfl
theorem take_next {s : ByteArray} {k : Nat} (hk : k < s.size) : (tl s).take (k + 1) = (tl s).take k ++ [s[k]'hk] := by
  rw [List.take_add_one, tl_get hk]; rfl
theorem take_all (s : ByteArray) : (tl s).take s.size = tl s := List.take_of_length_le (by rw [tl_len]; exact Nat.le_refl _)
theorem all_next {s : ByteArray} {p : UInt8 → Bool} {k : Nat} (hk : k < s.size) : ((tl s).take (k + 1)).all p = (((tl s).take k).all p && p (s[k]'hk)) := by
  rw [take_next hk, List.all_append]; simp
theorem ret_bool {a b : Bool} (h : b = a) : Ending.returned (.bool a) = .returned (.bool b) := by rw [h]
theorem ret_int {k : IntKind} {a b : Int} (h : b = a) : Ending.returned (.int k a) = .returned (.int k b) := by rw [h]
theorem empty_of {s : ByteArray} (h : s.size = 0) : s = ⟨#[]⟩ := tl_inj (List.eq_nil_of_length_eq_zero (by rw [tl_len]; exact h))
theorem s_ne {a b : ByteArray} (h : a ≠ b) : (a.toList == b.toList) = false := by
  rw [Lib.toList_data, Lib.toList_data]
  exact beq_eq_false_iff_ne.2 (fun e => h (tl_inj e))
theorem some_ne {s : ByteArray} (h : s.size ≠ 0) : s.toList.isEmpty = false := by
  rw [Lib.toList_data]
  cases e : tl s with
  | nil => exact absurd (by rw [← tl_len, e]; rfl) h
  | cons a l => simp [tl] at e; simp [e]
def Strs (w : World) (A : Option Addr) (l : List ByteArray) : Prop := Reads w w.heap.size 1 A l.length (l.map Value.string)
theorem Strs.below {w w' : World} {A : Option Addr} {l : List ByteArray} (h : Strs w A l) (hb : Below w.heap.size w w') : Strs w' A l := (Reads.below h hb).more hb.size
theorem Strs.at_ {w : World} {A : Option Addr} {l : List ByteArray} (h : Strs w A l) {k : Nat} (hk : k < l.length) : ∃ ad, A = some ad ∧ ad.block < w.heap.size ∧ w.cell? (ad.add k) = some (.string l[k]) := by
  obtain ⟨ad, u, h1, h2, h3, h4⟩ := Reads.at_ h hk
  refine ⟨ad, h1, h2, ?_⟩
  rw [h4]
  simp [hk] at h3
  rw [← h3]
end Go.Proofs.YtifiipmmgnmciaaGreatDoor.Lg
/- LgCells, what a claim needs of it (prune.py). -/
namespace Go.Proofs.YtifiipmmgnmciaaGreatDoor.Lg
open Go.RowKit
set_option linter.unusedVariables false
set_option maxRecDepth 100000
theorem results_cell_row2 {P : Program} {fn : Func} {p u : Tmp} {ty : TypeId} (h : fn.results = #[.cell p ty, .tmp u]) (tmps : Array Value) (w : World) (g : Nat) (t : TypeId) (cs : Array Value) (fr : Nat × Nat) (d : TypeDesc)
    (hp : tmps.getD p undef = .pointer (some ⟨g, 0, none⟩)) (hg : w.heap[g]? = some (.cells cs t fr))
    (hu : P.underlying ty = some d) (hd : (match d with | .struct _ | .array _ _ => true | _ => false) = true) (hi : (P.info? ty).map (·.size) = some cs.size) :
    (results fn tmps).run P w = .ok (.tuple #[.agg cs, tmps.getD u undef]) w := by
  rw [results_cell_tmp h, hp]
  simp [asAddr, run_loadVar_row w g t ty cs fr d hg hu hd hi, Result.andThen]
theorem lt_heap {w : World} {b : Nat} {o : Obj} (h : w.heap[b]? = some o) : b < w.heap.size := (Array.getElem?_eq_some_iff.1 h).1
theorem heap_two {w : World} {A C : Obj} : ((w.alloc A).alloc C).heap[w.heap.size]? = some A := by
  rw [Below.heap_alloc _ _ _ (by simp)]
  exact heap_alloc_new _ _
theorem four {w : World} {g : Nat} {a b c d : Value} {T : TypeId} (h : w.heap[g]? = some (.cells #[a, b, c, d] T (0, 0))) :
    w.cell? ⟨g, 0, none⟩ = some a ∧ w.cell? ⟨g, 1, none⟩ = some b ∧ w.cell? ⟨g, 2, none⟩ = some c ∧ w.cell? ⟨g, 3, none⟩ = some d ∧
    w.frozen? ⟨g, 0, none⟩ = false ∧ w.frozen? ⟨g, 1, none⟩ = false ∧ w.frozen? ⟨g, 2, none⟩ = false ∧ w.frozen? ⟨g, 3, none⟩ = false :=
  ⟨cell_of_row w g 0 _ _ _ h, cell_of_row w g 1 _ _ _ h, cell_of_row w g 2 _ _ _ h, cell_of_row w g 3 _ _ _ h, frozen_of_row w _ 0 _ _ h, frozen_of_row w _ 1 _ _ h, frozen_of_row w _ 2 _ _ h, frozen_of_row w _ 3 _ _ h⟩
theorem set4 {w : World} {g : Nat} {a b c d : Value} {T : TypeId} (h : w.heap[g]? = some (.cells #[a, b, c, d] T (0, 0))) (a' b' c' d' : Value) :
    ((((w.setCell ⟨g, 0, none⟩ a').setCell ⟨g, 1, none⟩ b').setCell ⟨g, 2, none⟩ c').setCell ⟨g, 3, none⟩ d').heap[g]? = some (.cells #[a', b', c', d'] T (0, 0)) := by
  have q0 := heap_setCell_same _ _ 0 _ _ a' h
  have q1 := heap_setCell_same _ _ 1 _ _ b' q0
  have q2 := heap_setCell_same _ _ 2 _ _ c' q1
  exact heap_setCell_same _ _ 3 _ _ d' q2
theorem set4_other (w : World) (g k : Nat) (hk : k ≠ g) (a' b' c' d' : Value) :
    ((((w.setCell ⟨g, 0, none⟩ a').setCell ⟨g, 1, none⟩ b').setCell ⟨g, 2, none⟩ c').setCell ⟨g, 3, none⟩ d').heap[k]? = w.heap[k]? := by
  rw [Below.heap_setCell _ _ _ _ hk, Below.heap_setCell _ _ _ _ hk, Below.heap_setCell _ _ _ _ hk, Below.heap_setCell _ _ _ _ hk]
theorem set4_below {B : Nat} {w0 w : World} (h : Below B w0 w) {g : Nat} (hg : B ≤ g) (a' b' c' d' : Value) :
    Below B w0 ((((w.setCell ⟨g, 0, none⟩ a').setCell ⟨g, 1, none⟩ b').setCell ⟨g, 2, none⟩ c').setCell ⟨g, 3, none⟩ d') :=
  (((h.setCell hg _).setCell hg _).setCell hg _).setCell hg _
theorem infoS : (Tryz.prog.info? 9).map (fun i => (i.zero, i.size, i.bytes)) = some (some (.string ⟨#[]⟩), 1, 16) := by kernel_rfl
theorem info_parts {o : Option TypeInfo} {z : Value} {a b : Nat} (h : o.map (fun i => (i.zero, i.size, i.bytes)) = some (some z, a, b)) : ∃ i, o = some i ∧ i.zero = some z ∧ i.size = a ∧ i.bytes = b := by
  cases o with
  | none => cases h
  | some i =>
    simp only [Option.map_some, Option.some.injEq, Prod.mk.injEq] at h
    exact ⟨i, rfl, h.1, h.2.1, h.2.2⟩
theorem add_eq (g k : Nat) : (⟨g, 0, none⟩ : Addr).add k = ⟨g, k, none⟩ := by
  unfold Addr.add; split <;> simp_all
theorem cell_at {w : World} {b : Nat} {cs : Array Value} {T : TypeId} (h : w.heap[b]? = some (.cells cs T (0, 0))) (i : Nat) : w.cell? ⟨b, i, none⟩ = cs[i]? := cell_of_row w b i cs T (0, 0) h
theorem heap_new (w : World) (o : Obj) : (w.alloc o).heap[w.heap.size]? = some o := heap_alloc_new w o
theorem reads_one {w : World} {g : Nat} {u : Value} {T : TypeId} (h : w.heap[g]? = some (.cells #[u] T (0, 0))) : Reads w (g + 1) 1 (some ⟨g, 0, none⟩) 1 [u] := by
  refine ⟨rfl, fun _ => ⟨_, rfl, Nat.lt_succ_self _, fun j y hj => ?_⟩⟩
  rw [add_eq, cell_at h]
  simpa using hj
theorem mem1 {u : Value} (h0 : u.oneCell' = true) : ∀ y ∈ [u], y.oneCell' = true := by
  intro y hy
  rw [List.mem_singleton.1 hy]; exact h0
end Go.Proofs.YtifiipmmgnmciaaGreatDoor.Lg
/- LgText, what a claim needs of it (prune.py). -/
namespace Go.Proofs.YtifiipmmgnmciaaGreatDoor.Lg
open Go.RowKit
set_option linter.unusedVariables false
set_option maxRecDepth 100000
def okTo (s : ByteArray) (k : Nat) : Bool := decide (1 ≤ s.size) && decide (s.size ≤ 32) && ((tl s).take k).all printable
theorem okTo_zero (s : ByteArray) : okTo s 0 = (decide (1 ≤ s.size) && decide (s.size ≤ 32)) := by simp [okTo]
theorem okTo_next {s : ByteArray} {k : Nat} (hk : k < s.size) : okTo s (k + 1) = (okTo s k && printable (s[k]'hk)) := by simp [okTo, all_next hk, Bool.and_assoc]
theorem okTo_end (s : ByteArray) : okTo s s.size = textOk (tl s) := by simp only [okTo, textOk, take_all, tl_len]
set_option maxHeartbeats 1000000 in
theorem text_any (s : ByteArray) (hs : s.size ≤ 1000000000) (w : World) :
    Calls Tryz.prog 167 #[.string s] w fun e w' => e = .returned (.bool (textOk (tl s))) ∧ w = w' := by
  have FIN := Lib.hid (okTo_end s)
  have NX : Hid (∀ k (hk : k < s.size), okTo s (k + 1) = (okTo s k && printable (s[k]'hk))) := Lib.hid (fun k hk => okTo_next hk)
  by_cases h0 : s.size = 0
  · obtain rfl := empty_of h0
    have : textOk (tl ⟨#[]⟩) = false := rfl
    go_enter Tryz.func167, Tryz.ntmps167
    go_wp2_with (fail)
    go_loop [3, 14] (fun v i => v = .bool false ∧ i = .int .i64 0) (fun _ i => 0)
    case atStart => exact ⟨rfl, rfl⟩
    case round =>
      obtain ⟨rfl, rfl⟩ := hrel
      go_wp2_with (fail)
      go_ret
      exact ⟨ret_bool this, rfl⟩
  · have hne := some_ne h0
    have h1 : 0 < s.size := by omega
    have HZ := Lib.hid (okTo_zero s)
    by_cases h32 : s.size ≤ 32
    · have hle : (s.size : Int) ≤ 32 := by omega
      have Z1 : Hid (okTo s 0 = true) := Lib.hid (by rw [HZ.out]; simp; omega)
      clear h32
      go_enter Tryz.func167, Tryz.ntmps167
      go_wp2_with (fail)
      go_loop [3, 14] (fun v i => ∃ k : Nat, v = .bool (okTo s k) ∧ i = .int .i64 k ∧ k ≤ s.size) (fun _ i => s.size - (intOf i).toNat)
      case atStart => exact ⟨0, by rw [Z1.out], rfl, by omega⟩
      case round =>
        obtain ⟨k, rfl, rfl, hk⟩ := hrel
        by_cases hlt : k < s.size
        · have hkI : (k : Int) < (s.size : Int) := by omega
          have N1 := Lib.hid (NX.out k hlt)
          cases e : okTo s k
          · go_wp2_with (fail)
            go_round
            case rel => exact ⟨k + 1, by rw [N1.out, e]; rfl, by go_num, by omega⟩
            case measure => simp [intOf]; omega
          · by_cases c1 : 33 ≤ (s[k]'hlt).toNat
            · have c2 : (32 : Int) < ((s[k]'hlt).toNat : Int) := by omega
              by_cases c3 : (s[k]'hlt).toNat ≤ 126
              · have c4 : ((s[k]'hlt).toNat : Int) ≤ 126 := by omega
                go_wp2_with (fail)
                go_round
                case rel => exact ⟨k + 1, by rw [N1.out, e]; simp [printable, c1, c3], by go_num, by omega⟩
                case measure => simp [intOf]; omega
              · have c4 : ¬ ((s[k]'hlt).toNat : Int) ≤ 126 := by omega
                go_wp2_with (fail)
                go_round
                case rel => exact ⟨k + 1, by rw [N1.out, e]; simp [printable, c3], by go_num, by omega⟩
                case measure => simp [intOf]; omega
            · have c2 : ¬ (32 : Int) < ((s[k]'hlt).toNat : Int) := by omega
              go_wp2_with (fail)
              go_round
              case rel => exact ⟨k + 1, by rw [N1.out, e]; simp [printable, c1], by go_num, by omega⟩
              case measure => simp [intOf]; omega
        · obtain rfl : k = s.size := by omega
          go_wp2_with (fail)
          go_ret
          exact ⟨ret_bool FIN.out.symm, rfl⟩
    · have hle : ¬ (s.size : Int) ≤ 32 := by omega
      have Z1 : Hid (∀ k, okTo s k = false) := Lib.hid (fun k => by simp [okTo, h32])
      clear h32
      go_enter Tryz.func167, Tryz.ntmps167
      go_wp2_with (fail)
      go_loop [3, 14] (fun v i => ∃ k : Nat, v = .bool false ∧ i = .int .i64 k ∧ k ≤ s.size) (fun _ i => s.size - (intOf i).toNat)
      case atStart => exact ⟨0, rfl, rfl, by omega⟩
      case round =>
        obtain ⟨k, rfl, rfl, hk⟩ := hrel
        by_cases hlt : k < s.size
        · have hkI : (k : Int) < (s.size : Int) := by omega
          go_wp2_with (fail)
          go_round
          case rel => exact ⟨k + 1, rfl, by go_num, by omega⟩
          case measure => simp [intOf]; omega
        · obtain rfl : k = s.size := by omega
          go_wp2_with (fail)
          go_ret
          exact ⟨ret_bool (by rw [← FIN.out, Z1.out]), rfl⟩
end Go.Proofs.YtifiipmmgnmciaaGreatDoor.Lg
/- LgName, what a claim needs of it (prune.py). -/
namespace Go.Proofs.YtifiipmmgnmciaaGreatDoor.Lg
open Go.RowKit
set_option linter.unusedVariables false
set_option maxRecDepth 100000
theorem nb_cases (c : UInt8) :
    (nameByte c = true ∧ ((((c.toNat : Int) != 45) = false) ∨ (((c.toNat : Int) != 45) = true ∧ ((c.toNat : Int) != 95) = false) ∨ (((c.toNat : Int) != 45) = true ∧ ((c.toNat : Int) != 95) = true ∧ ¬ (c.toNat : Int) < 48 ∧ ¬ (57 : Int) < c.toNat)
      ∨ (((c.toNat : Int) != 45) = true ∧ ((c.toNat : Int) != 95) = true ∧ ¬ (c.toNat : Int) < 48 ∧ (57 : Int) < c.toNat ∧ ¬ (c.toNat : Int) < 97 ∧ ¬ (122 : Int) < c.toNat))) ∨
    (nameByte c = false ∧ ((((c.toNat : Int) != 45) = true ∧ ((c.toNat : Int) != 95) = true ∧ (c.toNat : Int) < 48 ∧ (c.toNat : Int) < 97)
      ∨ (((c.toNat : Int) != 45) = true ∧ ((c.toNat : Int) != 95) = true ∧ ¬ (c.toNat : Int) < 48 ∧ (57 : Int) < c.toNat ∧ (c.toNat : Int) < 97)
      ∨ (((c.toNat : Int) != 45) = true ∧ ((c.toNat : Int) != 95) = true ∧ ¬ (c.toNat : Int) < 48 ∧ (57 : Int) < c.toNat ∧ ¬ (c.toNat : Int) < 97 ∧ (122 : Int) < c.toNat))) := by
  have h45 : (c == 45) = decide (c.toNat = 45) := by rw [Bool.eq_iff_iff]; simp [← UInt8.toNat_inj]
  have h95 : (c == 95) = decide (c.toNat = 95) := by rw [Bool.eq_iff_iff]; simp [← UInt8.toNat_inj]
  unfold nameByte
  rw [h45, h95]
  generalize c.toNat = n
  simp only [Bool.or_eq_true, Bool.and_eq_true, decide_eq_true_eq, Bool.or_eq_false_iff, Bool.and_eq_false_iff, decide_eq_false_iff_not, bne_iff_ne, bne_eq_false_iff_eq]
  omega
def nameE (s : List UInt8) : Int := if nameOk s = true then 0 else 14
theorem nameE_no {s : ByteArray} (h : s.size < 1 ∨ 16 < s.size) : nameE (tl s) = 14 := by
  have : nameOk (tl s) = false := by
    have e : (decide (1 ≤ s.size) && decide (s.size ≤ 16)) = false := by
      simp only [Bool.and_eq_false_iff, decide_eq_false_iff_not]; omega
    unfold nameOk
    rw [tl_len, e]; rfl
  rw [nameE, this]; rfl
theorem nameE_bad {s : ByteArray} {k : Nat} (hk : k < s.size) (h : nameByte (s[k]'hk) = false) : nameE (tl s) = 14 := by
  have : nameOk (tl s) = false := by
    cases e : nameOk (tl s) with
    | false => rfl
    | true =>
      simp only [nameOk, Bool.and_eq_true, List.all_eq_true] at e
      have := e.2 (s[k]'hk) (List.mem_of_getElem? (tl_get hk))
      rw [h] at this; cases this
  rw [nameE, this]; rfl
theorem nameE_ok {s : ByteArray} (h1 : 1 ≤ s.size) (h2 : s.size ≤ 16) (h : ((tl s).take s.size).all nameByte = true) : nameE (tl s) = 0 := by
  rw [take_all] at h
  have : nameOk (tl s) = true := by
    rw [nameOk, h, tl_len]; simp; omega
  rw [nameE, this]; rfl
theorem pname_any (s : ByteArray) (hs : s.size ≤ 1000000000) (w : World) :
    Calls Tryz.prog 33 #[.string s] w fun e w' => e = .returned (.int .i64 (nameE (tl s))) ∧ w = w' := by
  by_cases h0 : s.size = 0
  · have HN := Lib.hid (nameE_no (s := s) (.inl (by omega)))
    obtain rfl := empty_of h0
    go_enter Tryz.func33, Tryz.ntmps33
    go_wp2_with (fail)
    go_ret
    exact ⟨ret_int HN.out, rfl⟩
  · have hne := some_ne h0
    by_cases h16 : (16 : Int) < (s.size : Int)
    · have HN := Lib.hid (nameE_no (s := s) (.inr (by omega)))
      go_enter Tryz.func33, Tryz.ntmps33
      go_wp2_with (fail)
      go_ret
      exact ⟨ret_int HN.out, rfl⟩
    · have OK := Lib.hid (nameE_ok (s := s) (by omega) (by omega))
      have BAD : Hid (∀ k (hk : k < s.size), nameByte (s[k]'hk) = false → nameE (tl s) = 14) := Lib.hid (fun k hk h => nameE_bad hk h)
      have NX : Hid (∀ k (hk : k < s.size), ((tl s).take (k + 1)).all nameByte = (((tl s).take k).all nameByte && nameByte (s[k]'hk))) := Lib.hid (fun k hk => all_next hk)
      go_enter Tryz.func33, Tryz.ntmps33
      go_wp2_with (fail)
      go_loop [14] (fun i => ∃ k : Nat, i = .int .i64 k ∧ k ≤ s.size ∧ ((tl s).take k).all nameByte = true) (fun i => s.size - (intOf i).toNat)
      case atStart => exact ⟨0, rfl, by omega, by simp⟩
      case round =>
        obtain ⟨k, rfl, hk, ha⟩ := hrel
        have HA := Lib.hid ha
        clear ha
        by_cases hlt : k < s.size
        · have hkI : (k : Int) < (s.size : Int) := by omega
          have N1 := Lib.hid (NX.out k hlt)
          rcases nb_cases (s[k]'hlt) with ⟨hb, hc⟩ | ⟨hb, hc⟩
          · have HB := Lib.hid hb
            clear hb
            rcases hc with h1 | ⟨h1, h2⟩ | ⟨h1, h2, h3, h4⟩ | ⟨h1, h2, h3, h4, h5, h6⟩
            all_goals
              go_wp2_with (fail)
              go_round
              case rel => exact ⟨k + 1, by go_num, by omega, by rw [N1.out, HA.out, HB.out]; rfl⟩
              case measure => simp [intOf]; omega
          · have HB := Lib.hid (BAD.out k hlt hb)
            clear hb
            rcases hc with ⟨h1, h2, h3, h4⟩ | ⟨h1, h2, h3, h4, h5⟩ | ⟨h1, h2, h3, h4, h5, h6⟩
            all_goals
              go_wp2_with (fail)
              go_ret
              exact ⟨ret_int HB.out, rfl⟩
        · obtain rfl : k = s.size := by omega
          go_wp2_with (fail)
          go_ret
          exact ⟨ret_int (OK.out HA.out), rfl⟩
end Go.Proofs.YtifiipmmgnmciaaGreatDoor.Lg
