/- Joined by mkmerged.py: LgEq, LgStepW, LgStepB, LgRsplit, LgMix. -/
import Derived.Test.YtdidnlkilleljaaGreatDoorMg04
import Derived.Test.YtdidnlkilleljaaGreatDoorMg06
import Derived.Test.YtdidnlkilleljaaGreatDoorMg05
import Derived.Test.YtdidnlkilleljaaGreatDoorMg03
import Derived.Laws.ResultCell
import Derived.Laws.Rows
import Derived.Laws.NewBlocks
import Derived.Test.YtdidnlkilleljaaGreatDoorMgKm
/- LgEq, what a claim needs of it (prune.py). -/
namespace Go.Proofs.YtdidnlkilleljaaGreatDoor.Lg
set_option linter.unusedVariables false
def sameL : List Stp → List Stp → Bool
  | [], [] => true
  | ⟨o, a, n, b⟩ :: r, ⟨o', a', n', b'⟩ :: r' => decide (o = o') && decide (n = n') && decide (a = a') && sameL b b' && sameL r r'
  | [], _ :: _ => false
  | _ :: _, [] => false
theorem sameL_refl : ∀ l, sameL l l = true
  | [] => by rw [sameL]
  | ⟨o, a, n, b⟩ :: r => by rw [sameL, sameL_refl b, sameL_refl r]; simp
theorem sameL_eq : ∀ {l m}, sameL l m = true → l = m
  | [], [], _ => rfl
  | [], _ :: _, h => by rw [sameL] at h; cases h
  | _ :: _, [], h => by rw [sameL] at h; cases h
  | ⟨o, a, n, b⟩ :: r, ⟨o', a', n', b'⟩ :: r', h => by
    rw [sameL] at h
    simp only [Bool.and_eq_true, decide_eq_true_eq] at h
    obtain ⟨⟨⟨⟨rfl, rfl⟩, rfl⟩, h1⟩, h2⟩ := h
    rw [sameL_eq h1, sameL_eq h2]
theorem sameL_len : ∀ {l m}, l.length ≠ m.length → sameL l m = false := by
  intro l m h
  cases e : sameL l m with
  | false => rfl
  | true => exact absurd (by rw [sameL_eq e]) h
def weight : List Stp → Nat
  | [] => 0
  | ⟨_, _, _, b⟩ :: r => 1 + weight b + weight r
def wide : List Stp → Nat
  | [] => 0
  | ⟨_, a, _, b⟩ :: r => a.length + wide b + wide r
theorem len_weight : ∀ l : List Stp, l.length ≤ weight l
  | [] => by simp
  | ⟨_, a, _, b⟩ :: r => by
    have := len_weight r
    simp only [List.length_cons, weight]; omega
theorem wide_at : ∀ {l : List Stp} {k : Nat} (hk : k < l.length), wide (l[k]).block + (l[k]).args.length ≤ wide l
  | ⟨_, a, _, b⟩ :: r, 0, hk => by simp only [wide, List.getElem_cons_zero, Stp.block, Stp.args]; omega
  | ⟨_, a, _, b⟩ :: r, k + 1, hk => by
    have := wide_at (l := r) (k := k) (by simpa using hk)
    simp only [List.getElem_cons_succ, wide]
    omega
theorem join_len (c : UInt8) : ∀ (x : B) (l : List B), l.length ≤ (joinB c (x :: l)).length
  | x, [] => by simp
  | x, y :: r => by
    have := join_len c y r
    rw [joinB]
    simp only [List.length_cons, List.length_append]
    omega
theorem flat_len : ∀ l : List B, (l.flatMap fun s => s ++ [10]).length = (l.map List.length).sum + l.length
  | [] => rfl
  | x :: r => by
    rw [List.flatMap_cons, List.length_append, flat_len r]
    simp; omega
theorem head_len (op : Int) (args : List B) (n : Int) : args.length ≤ (headW op args n).length := by
  have := join_len 32 (wordOf op) args
  rw [headW, List.length_append]
  omega
def plainL : List Stp → Prop
  | [] => True
  | ⟨o, _, _, b⟩ :: r => ((o = 9 ∨ o = 10) ∨ b = []) ∧ plainL b ∧ plainL r
theorem print_len : ∀ {l : List Stp}, plainL l → weight l + wide l ≤ ((linesOf l).map List.length).sum + (linesOf l).length
  | [], _ => by simp [weight, wide]
  | ⟨o, a, n, b⟩ :: r, h => by
    rw [plainL] at h
    have h1 := print_len h.2.1
    have h2 := print_len h.2.2
    have h3 := head_len o a n
    rw [linesOf, weight, wide]
    by_cases ho : o = 9 ∨ o = 10
    · rw [if_pos ho]
      simp only [List.cons_append, List.map_cons, List.sum_cons, List.length_cons, List.map_append, List.sum_append, List.length_append, List.map_nil, List.sum_nil, List.length_nil, Nat.add_zero]
      omega
    · rw [if_neg ho]
      have hb : b = [] := h.1.resolve_left ho
      subst hb
      simp only [weight, wide, List.cons_append, List.nil_append, List.map_cons, List.sum_cons, List.length_cons]
      omega
theorem plain_app : ∀ {a b : List Stp}, plainL a → plainL b → plainL (a ++ b)
  | [], b, _, h => h
  | ⟨o, x, n, k⟩ :: r, b, h, h2 => by
    rw [plainL] at h
    rw [List.cons_append, plainL]
    exact ⟨h.1, h.2.1, plain_app h.2.2 h2⟩
theorem bk_plain : ∀ (k deep : Nat) (out o : List Stp) (lines r : List B), lines.length ≤ k → plainL out → bk deep out lines = .ok o r → plainL o
  | k, deep, out, o, [], r, hk, hp, h => by
    rw [bk_nil] at h
    split at h
    · cases h
    · cases h; exact hp
  | 0, deep, out, o, line :: rest, r, hk, hp, h => absurd hk (by simp)
  | k + 1, deep, out, o, line :: rest, r, hk, hp, h => by
    simp only [List.length_cons] at hk
    rw [bk_cons] at h
    split at h
    · split at h
      · cases h; exact hp
      · cases h
    · split at h
      · cases h
      · next op args n e =>
        split at h
        · next hb =>
          split at h
          · cases h
          · split at h
            · cases h
            · next inn rest' e2 =>
              have hle := bk_le e2
              have h1 := bk_plain k (deep + 1) [] _ rest _ (by omega) (by simp [plainL]) e2
              exact bk_plain k deep _ _ rest' _ (by omega) (plain_app hp (by simp only [plainL]; exact ⟨.inl hb, h1, trivial⟩)) h
        · exact bk_plain k deep _ _ rest _ (by omega) (plain_app hp (by simp only [plainL]; exact ⟨.inr trivial, trivial, trivial⟩)) h
theorem parse_size {cmd : B} {m : List Stp} {e : Nat} (h : parse cmd = (m, e)) : weight m + wide m ≤ cmd.length := by
  by_cases he : e = 0
  · subst he
    have hp : plainL m := by
      rcases parse_ok h with ⟨_, rfl⟩ | ⟨_, _, _, r, hb⟩
      · simp [plainL]
      · exact bk_plain _ _ _ _ _ _ (Nat.le_refl _) (by simp [plainL]) hb
    have h1 := print_len hp
    have h2 := parse_print h
    rw [← flat_len] at h1
    rw [print] at h2
    rw [h2] at h1
    exact h1
  · have := parse_no (cmd := cmd) (by rw [h]; exact he)
    rw [h] at this
    simp only at this
    subst this
    simp [weight, wide]
def sameS (x y : Stp) : Bool := decide (x.op = y.op) && decide (x.n = y.n) && decide (x.args = y.args) && sameL x.block y.block
theorem weight_at : ∀ {l : List Stp} {k : Nat} (hk : k < l.length), weight (l[k]).block < weight l
  | ⟨_, _, _, b⟩ :: r, 0, hk => by simp only [weight, List.getElem_cons_zero, Stp.block]; omega
  | ⟨_, _, _, b⟩ :: r, k + 1, hk => by
    have := weight_at (l := r) (k := k) (by simpa using hk)
    simp only [List.getElem_cons_succ, weight]
    omega
theorem same_iff : ∀ {l m : List Stp}, l.length = m.length → (sameL l m = true ↔ ∀ k (h1 : k < l.length) (h2 : k < m.length), sameS l[k] m[k] = true)
  | [], [], _ => by simp [sameL]
  | [], _ :: _, h => by simp at h
  | _ :: _, [], h => by simp at h
  | ⟨o, a, n, b⟩ :: r, ⟨o', a', n', b'⟩ :: r', h => by
    rw [sameL]
    have ih := same_iff (l := r) (m := r') (by simpa using h)
    constructor
    · intro h1 k h2 h3
      rw [Bool.and_eq_true] at h1
      cases k with
      | zero => exact h1.1
      | succ k => exact ih.1 h1.2 k (by simpa using h2) (by simpa using h3)
    · intro h1
      rw [Bool.and_eq_true]
      exact ⟨h1 0 (by simp) (by simp), ih.2 fun k h2 h3 => h1 (k + 1) (by simp; omega) (by simp; omega)⟩
theorem same_all {l m : List Stp} (hl : l.length = m.length) (h : ∀ k (h1 : k < l.length) (h2 : k < m.length), k < l.length → sameS l[k] m[k] = true) : sameL l m = true :=
  (same_iff hl).2 fun k h1 h2 => h k h1 h2 h1
theorem same_bad {l m : List Stp} {k : Nat} (h1 : k < l.length) (h2 : k < m.length) (h : sameS l[k] m[k] = false) : sameL l m = false := by
  cases e : sameL l m with
  | false => rfl
  | true =>
    have hl : l.length = m.length := by rw [sameL_eq e]
    have := (same_iff hl).1 e k h1 h2
    rw [h] at this; cases this
end Go.Proofs.YtdidnlkilleljaaGreatDoor.Lg
/- LgStepW, what a claim needs of it (prune.py). -/
namespace Go.Proofs.YtdidnlkilleljaaGreatDoor.Lg
set_option linter.unusedVariables false
theorem stepW_cons (x : B) (a : List B) : stepW (x :: a) =
    if x = [112, 117, 116] then (if a.length = 2 ∧ (a.take 1).all pathOk = true ∧ (a.drop 1).all textOk = true then some ((1 : Int), a, (0 : Int)) else none) else
    if x = [99, 111, 112, 121] then (if a.length = 2 ∧ a.all pathOk = true then some ((2 : Int), a, (0 : Int)) else none) else
    if x = [99, 97, 116] then (if 2 ≤ a.length ∧ a.length ≤ 8 ∧ a.all pathOk = true then some ((3 : Int), a, (0 : Int)) else none) else
    if x = [117, 112, 112, 101, 114] then (if a.length = 1 ∧ a.all pathOk = true then some ((4 : Int), a, (0 : Int)) else none) else
    if x = [115, 111, 114, 116] then (if a.length = 1 ∧ a.all pathOk = true then some ((5 : Int), a, (0 : Int)) else none) else
    if x = [100, 114, 111, 112] then (if a.length = 1 ∧ a.all pathOk = true then some ((6 : Int), a, (0 : Int)) else none) else
    if x = [110, 101, 101, 100] then (if a.length = 1 ∧ a.all nameOk = true then some ((7 : Int), a, (0 : Int)) else none) else
    if x = [102, 97, 105, 108] then (if a.length = 1 ∧ a.all textOk = true then some ((8 : Int), a, (0 : Int)) else none) else
    if x = [108, 111, 111, 112] then (match a with | [x] => (match number x with | some k => some ((9 : Int), [], (k : Int)) | none => none) | _ => none) else
    if x = [105, 102] then (if a.length = 1 ∧ a.all pathOk = true then some ((10 : Int), a, (0 : Int)) else none) else
    none := by
  rcases a with _ | ⟨y, _ | ⟨z, t⟩⟩
  · rfl
  · unfold stepW; cases number y <;> rfl
  · rfl
theorem stepW_put (a : List B) : stepW ([112, 117, 116] :: a) = (if a.length = 2 ∧ (a.take 1).all pathOk = true ∧ (a.drop 1).all textOk = true then some ((1 : Int), a, (0 : Int)) else none) := by
  rw [stepW_cons]
  rw [if_pos rfl]
theorem stepW_copy (a : List B) : stepW ([99, 111, 112, 121] :: a) = (if a.length = 2 ∧ a.all pathOk = true then some ((2 : Int), a, (0 : Int)) else none) := by
  rw [stepW_cons]
  rw [if_neg (by decide), if_pos rfl]
theorem stepW_cat (a : List B) : stepW ([99, 97, 116] :: a) = (if 2 ≤ a.length ∧ a.length ≤ 8 ∧ a.all pathOk = true then some ((3 : Int), a, (0 : Int)) else none) := by
  rw [stepW_cons]
  rw [if_neg (by decide), if_neg (by decide), if_pos rfl]
theorem stepW_upper (a : List B) : stepW ([117, 112, 112, 101, 114] :: a) = (if a.length = 1 ∧ a.all pathOk = true then some ((4 : Int), a, (0 : Int)) else none) := by
  rw [stepW_cons]
  rw [if_neg (by decide), if_neg (by decide), if_neg (by decide), if_pos rfl]
theorem stepW_sort (a : List B) : stepW ([115, 111, 114, 116] :: a) = (if a.length = 1 ∧ a.all pathOk = true then some ((5 : Int), a, (0 : Int)) else none) := by
  rw [stepW_cons]
  rw [if_neg (by decide), if_neg (by decide), if_neg (by decide), if_neg (by decide), if_pos rfl]
theorem stepW_drop (a : List B) : stepW ([100, 114, 111, 112] :: a) = (if a.length = 1 ∧ a.all pathOk = true then some ((6 : Int), a, (0 : Int)) else none) := by
  rw [stepW_cons]
  rw [if_neg (by decide), if_neg (by decide), if_neg (by decide), if_neg (by decide), if_neg (by decide), if_pos rfl]
theorem stepW_need (a : List B) : stepW ([110, 101, 101, 100] :: a) = (if a.length = 1 ∧ a.all nameOk = true then some ((7 : Int), a, (0 : Int)) else none) := by
  rw [stepW_cons]
  rw [if_neg (by decide), if_neg (by decide), if_neg (by decide), if_neg (by decide), if_neg (by decide), if_neg (by decide), if_pos rfl]
theorem stepW_fail (a : List B) : stepW ([102, 97, 105, 108] :: a) = (if a.length = 1 ∧ a.all textOk = true then some ((8 : Int), a, (0 : Int)) else none) := by
  rw [stepW_cons]
  rw [if_neg (by decide), if_neg (by decide), if_neg (by decide), if_neg (by decide), if_neg (by decide), if_neg (by decide), if_neg (by decide), if_pos rfl]
theorem stepW_loop (a : List B) : stepW ([108, 111, 111, 112] :: a) = (match a with | [x] => (match number x with | some k => some ((9 : Int), [], (k : Int)) | none => none) | _ => none) := by
  rw [stepW_cons]
  rw [if_neg (by decide), if_neg (by decide), if_neg (by decide), if_neg (by decide), if_neg (by decide), if_neg (by decide), if_neg (by decide), if_neg (by decide), if_pos rfl]
theorem stepW_if (a : List B) : stepW ([105, 102] :: a) = (if a.length = 1 ∧ a.all pathOk = true then some ((10 : Int), a, (0 : Int)) else none) := by
  rw [stepW_cons]
  rw [if_neg (by decide), if_neg (by decide), if_neg (by decide), if_neg (by decide), if_neg (by decide), if_neg (by decide), if_neg (by decide), if_neg (by decide), if_neg (by decide), if_pos rfl]
theorem stepW_no {x : B} (a : List B) (h1 : x ≠ [112, 117, 116]) (h2 : x ≠ [99, 111, 112, 121]) (h3 : x ≠ [99, 97, 116]) (h4 : x ≠ [117, 112, 112, 101, 114]) (h5 : x ≠ [115, 111, 114, 116]) (h6 : x ≠ [100, 114, 111, 112]) (h7 : x ≠ [110, 101, 101, 100]) (h8 : x ≠ [102, 97, 105, 108]) (h9 : x ≠ [108, 111, 111, 112]) (h10 : x ≠ [105, 102]) : stepW (x :: a) = none := by
  rw [stepW_cons]
  rw [if_neg h1, if_neg h2, if_neg h3, if_neg h4, if_neg h5, if_neg h6, if_neg h7, if_neg h8, if_neg h9, if_neg h10]
end Go.Proofs.YtdidnlkilleljaaGreatDoor.Lg
/- LgStepB, what a claim needs of it (prune.py). -/
namespace Go.Proofs.YtdidnlkilleljaaGreatDoor.Lg
open Go.RowKit
set_option linter.unusedVariables false
def StepSays (w' : World) (ok : Nat → Prop) (ws : List B) (e : Ending) : Prop :=
  ∃ (op : Int) (A : Option Addr) (k c : Nat) (n : Int) (g : Bool), e = .returned (.tuple #[.agg #[.int .i64 op, .slice A k c, .int .i64 n, .slice none 0 0], .bool g]) ∧ k ≤ c ∧
    match stepW ws with
    | none => g = false
    | some (o, xs, m) => g = true ∧ op = o ∧ n = m ∧ k = xs.length ∧ Lies w' ok 1 A k (strV xs)
theorem StepSays.bad {w' : World} {ok : Nat → Prop} {ws : List B} (h : stepW ws = none) {op n : Int} {A : Option Addr} {k c : Nat} (hk : k ≤ c) :
    StepSays w' ok ws (.returned (.tuple #[.agg #[.int .i64 op, .slice A k c, .int .i64 n, .slice none 0 0], .bool false])) :=
  ⟨op, A, k, c, n, false, rfl, hk, by rw [h]⟩
theorem StepSays.good {w' : World} {ok : Nat → Prop} {ws : List B} {op n : Int} {xs : List B} (h : stepW ws = some (op, xs, n)) {A : Option Addr} {k c : Nat} (hk : k ≤ c) (hx : k = xs.length) (hl : Lies w' ok 1 A k (strV xs)) :
    StepSays w' ok ws (.returned (.tuple #[.agg #[.int .i64 op, .slice A k c, .int .i64 n, .slice none 0 0], .bool true])) :=
  ⟨op, A, k, c, n, true, rfl, hk, by rw [h]; exact ⟨rfl, rfl, rfl, hx, hl⟩⟩
theorem StepSays.paths {w' : World} {ok : Nat → Prop} {ws : List B} {op : Int} {xs : List B} {lo hi N : Nat} {p : Bool} (h : stepW ws = if lo ≤ N ∧ N ≤ hi ∧ p = true then some (op, xs, 0) else none) {A : Option Addr} (hx : N = xs.length) (hl : Lies w' ok 1 A N (strV xs)) :
    StepSays w' ok ws (.returned (.tuple #[.agg #[.int .i64 op, .slice A N N, .int .i64 0, .slice none 0 0], .bool (decide (lo ≤ N) && decide (N ≤ hi) && p)])) := by
  by_cases hc : lo ≤ N ∧ N ≤ hi ∧ p = true
  · rw [if_pos hc] at h
    rw [decide_eq_true hc.1, decide_eq_true hc.2.1, hc.2.2]
    exact .good h (Nat.le_refl _) hx hl
  · rw [if_neg hc] at h
    have e : (decide (lo ≤ N) && decide (N ≤ hi) && p) = false := by
      by_cases h1 : lo ≤ N
      · by_cases h2 : N ≤ hi
        · cases p with
          | false => simp
          | true => exact absurd ⟨h1, h2, rfl⟩ hc
        · simp [h2]
      · simp [h1]
    rw [e]
    exact .bad h (Nat.le_refl _)
theorem if_one {N K : Nat} {p : Bool} {α : Type} {x y : α} : (if N = K ∧ p = true then x else y) = if K ≤ N ∧ N ≤ K ∧ p = true then x else y := by
  by_cases h : N = K
  · subst h; simp
  · rw [if_neg (fun e => h e.1), if_neg (fun e => h (by omega))]
theorem allP_map (l : List ByteArray) : (l.map tl).all pathOk = allP l := by rw [List.all_map]; rfl
theorem len_map (l : List ByteArray) : (l.map tl).length = l.length := List.length_map ..
theorem strV_tl (l : List ByteArray) : strV (l.map tl) = l.map Value.string := by simp [strV, bs_tl, Function.comp_def]
theorem Strs.tail {w : World} {ad : Addr} {x y : ByteArray} {l : List ByteArray} (h : Strs w (some ad) (x :: y :: l)) : Strs w (some ⟨ad.block, ad.off + 1, none⟩) (y :: l) := by
  have h2 := Reads.cut (k := 1) (cap := (x :: y :: l).length) h (by simp) (Nat.le_refl _)
  rw [if_neg (by simp)] at h2
  exact h2
theorem Strs.head {w : World} {A : Option Addr} {x : ByteArray} {l : List ByteArray} (h : Strs w A (x :: l)) : Strs w A [x] := by
  refine ⟨by simp, fun _ => ?_⟩
  obtain ⟨ad, e, hb, hc⟩ := h.2 (by simp)
  refine ⟨ad, e, hb, fun j u hj => hc j u ?_⟩
  cases j with
  | zero => simpa using hj
  | succ j => simp at hj
theorem Strs.lies {w w' : World} {ad : Addr} {l : List ByteArray} (h : Strs w (some ad) l) (hb : Below w.heap.size w w') : Lies w' (fun b => b = ad.block) 1 (some ad) l.length (strV (l.map tl)) := by
  rw [strV_tl]
  have h2 : Lies w (fun b => b = ad.block) 1 (some ad) l.length (l.map Value.string) := by
    refine ⟨h.1, fun hn => ?_⟩
    obtain ⟨ad', e, _, hc⟩ := h.2 hn
    injection e with e
    subst e
    exact ⟨ad, rfl, rfl, hc⟩
  exact h2.mono (by omega) fun b ho hs => ⟨ho, hb.block b hs⟩
end Go.Proofs.YtdidnlkilleljaaGreatDoor.Lg
/- LgRsplit, what a claim needs of it (prune.py). -/
namespace Go.Proofs.YtdidnlkilleljaaGreatDoor.Lg
open Go.RowKit
set_option linter.unusedVariables false
set_option maxRecDepth 100000
def SInv (s : ByteArray) (c : UInt8) (done : List ByteArray) (a k : Nat) : Prop :=
  a ≤ k ∧ k ≤ s.size ∧ done.length ≤ a ∧ splitB c (tl s) = done.map tl ++ splitB c ((tl s).drop a) ∧ c ∉ ((tl s).drop a).take (k - a)
theorem SInv.zero (s : ByteArray) (c : UInt8) : SInv s c [] 0 0 := ⟨by omega, by omega, by simp, by simp, by simp⟩
theorem SInv.plain {s : ByteArray} {c : UInt8} {done : List ByteArray} {a k : Nat} (h : SInv s c done a k) (hk : k < s.size) (hc : s[k]'hk ≠ c) : SInv s c done a (k + 1) := by
  obtain ⟨h1, h2, h3, h4, h5⟩ := h
  refine ⟨by omega, by omega, h3, h4, fun hm => ?_⟩
  have e : k + 1 - a = (k - a) + 1 := by omega
  have hl : ((tl s).drop a)[k - a]? = some (s[k]'hk) := by
    rw [List.getElem?_drop, show a + (k - a) = k by omega]; exact tl_get hk
  rw [e, List.take_add_one, hl] at hm
  rcases List.mem_append.1 hm with hm | hm
  · exact h5 hm
  · have hm : c = s[k]'hk := by simpa using hm
    exact hc hm.symm
theorem SInv.cut {s : ByteArray} {c : UInt8} {done : List ByteArray} {a k : Nat} (h : SInv s c done a k) (hk : k < s.size) (hc : s[k]'hk = c) : SInv s c (done ++ [s.extract a k]) (k + 1) (k + 1) := by
  obtain ⟨h1, h2, h3, h4, h5⟩ := h
  refine ⟨by omega, by omega, by simp; omega, ?_, by simp⟩
  have e := drop_at h1 hk
  rw [hc] at e
  rw [h4]
  conv => lhs; rw [e, split_app h5]
  rw [List.map_append, List.map_cons, List.map_nil, extract_tl, List.append_assoc]
  rfl
theorem SInv.last {s : ByteArray} {c : UInt8} {done : List ByteArray} {a : Nat} (h : SInv s c done a s.size) : pieces c s = done ++ [s.extract a s.size] := by
  obtain ⟨h1, h2, h3, h4, h5⟩ := h
  have e : ((tl s).drop a).take (s.size - a) = (tl s).drop a := List.take_of_length_le (by rw [List.length_drop, tl_len]; exact Nat.le_refl _)
  rw [e] at h5
  rw [pieces, h4, split_free h5, List.map_append, map_bs_tl, List.map_cons, List.map_nil]
  congr 2
  rw [← bs_tl (s.extract a s.size), extract_tl, e]
set_option maxHeartbeats 1000000 in
theorem rsplit_any (s : ByteArray) (c : UInt8) (w : World) (hs : s.size ≤ 1000000) :
    Calls Tryz.prog 123 #[.string s, .int .u8 c.toNat] w fun e w' => ∃ v, e = .returned v ∧ w'.ownsRow w.heap.size 9 1 v (pieces c s).length ((pieces c s).map Value.string) ∧ Below w.heap.size w w' := by
  obtain ⟨i0, hi, hz0, hz1, hz2⟩ := info_parts infoS
  go_enter Tryz.func123, Tryz.ntmps123
  go_wp2_with (fail)
  go_loopw [5, 6, 7] (fun v x i wr => ∃ (done : List ByteArray) (a k : Nat), x = .int .i64 a ∧ i = .int .i64 k ∧ SInv s c done a k ∧ wr.ownsRow w.heap.size 9 1 v done.length (done.map Value.string) ∧ Below w.heap.size w wr) (fun _ _ i _ => s.size - (intOf i).toNat)
  case atStart => exact ⟨[], 0, 0, rfl, rfl, SInv.zero s c, World.ownsRow_nil _ _ _ _, Below.refl _ _⟩
  case round =>
    obtain ⟨done, a, k, rfl, rfl, hi0, hown, hb⟩ := hrel
    rename World => wr
    have h1 := hi0.1
    have h2 := hi0.2.1
    have h3 := hi0.2.2.1
    have HI := Lib.hid hi0
    clear hi0
    have a0 : (0 : Int) ≤ (a : Int) := by omega
    have aI : (a : Int) ≤ (k : Int) := by omega
    have kI : (k : Int) ≤ (s.size : Int) := by omega
    by_cases hlt : k < s.size
    · have hkI : (k : Int) < (s.size : Int) := by omega
      by_cases hc : s[k]'hlt = c
      · have F := Lib.hid (HI.out.cut hlt hc)
        have g : (((s[k]'hlt).toNat : Int) == (c.toNat : Int)) = true := by rw [hc]; simp
        clear hc
        go_wp2_with (at_builtin; refine wpList_append_any _ rfl (.tmp 19) (.tmp 24) _ rfl w.heap.size 9 i0 _ 1 16 Tryz.underlying24 hi hz0 hz1 hz2 rfl (by omega) _ done.length _ rfl (hown.alloc _) _ (some ⟨wr.heap.size, 0, none⟩) 1 1 [.string (s.extract a k)] rfl (reads_one (heap_alloc_new wr _)) (mem1 rfl) (by simp only [maxLen]; omega) (by omega) (by have := hb.size; simp; omega) ?_; intro v2 w2 hown2 hg2 hat2)
        go_roundw
        case rel =>
          refine ⟨done ++ [s.extract a k], k + 1, k + 1, by go_num, by go_num, F.out, ?_, ?_⟩
          · rw [List.map_append, List.length_append]; exact hown2
          · exact (hb.alloc hb.size _).grown hg2 (by have := hb.size; simp; omega) (fun j hj => (hown.lt j hj).1)
        case measure => simp [intOf]; omega
      · have F := Lib.hid (HI.out.plain hlt hc)
        have g : (((s[k]'hlt).toNat : Int) == (c.toNat : Int)) = false := by
          rw [beq_eq_false_iff_ne]
          intro e
          exact hc (UInt8.toNat_inj.1 (by omega))
        clear hc
        go_wp2_with (fail)
        go_roundw
        case rel => exact ⟨done, a, k + 1, rfl, by go_num, F.out, hown, hb⟩
        case measure => simp [intOf]; omega
    · obtain rfl : k = s.size := by omega
      have F := Lib.hid HI.out.last
      go_wp2_with (at_builtin; refine wpList_append_any _ rfl (.tmp 28) (.tmp 32) _ rfl w.heap.size 9 i0 _ 1 16 Tryz.underlying24 hi hz0 hz1 hz2 rfl (by omega) _ done.length _ rfl (hown.alloc _) _ (some ⟨wr.heap.size, 0, none⟩) 1 1 [.string (s.extract a s.size)] rfl (reads_one (heap_alloc_new wr _)) (mem1 rfl) (by simp only [maxLen]; omega) (by omega) (by have := hb.size; simp; omega) ?_; intro v2 w2 hown2 hg2 hat2)
      go_ret
      refine ⟨_, rfl, ?_, (hb.alloc hb.size _).grown hg2 (by have := hb.size; simp; omega) (fun j hj => (hown.lt j hj).1)⟩
      rw [F.out, List.map_append, List.length_append]; exact hown2
end Go.Proofs.YtdidnlkilleljaaGreatDoor.Lg
/- LgMix, what a claim needs of it (prune.py). -/
namespace Go.Proofs.YtdidnlkilleljaaGreatDoor
open Go
set_option linter.unusedVariables false
section
variable {P : Program} {ops : Array Oper} {Q : Exit → Act → World → Prop} {C : World → Prop}
theorem yieldsIn_of {o : Oper} {v : Value} {a : Act} (h : Yields P ops o v a) : YieldsIn P ops C o v a := by
  rcases h with ⟨hw, h⟩ | h
  · refine .inl ⟨hw, fun w _ => ?_⟩
    unfold Oper.quietAt
    rw [h w]
    exact ⟨rfl, rfl⟩
  · exact .inr h
theorem yields_same {o : Oper} {v : Value} {a a' : Act} (hy : Yields P ops o v a) (he : execOp a'.eval o = execOp a.eval o)
    (hw : Region.wanted o (yielded ops a'.tmps) = Region.wanted o (yielded ops a.tmps)) : Yields P ops o v a' := by
  unfold Yields at *
  rw [he, hw]
  exact hy
theorem qOp_putY {j : Nat} {oi oj : Oper} {v : Value} (hj : ops[j]? = some oj) (hap : oi.apart ops oj = true)
    (hsi : ∀ cs b, oi.op ≠ .select cs b) (hsj : ∀ cs b, oj.op ≠ .select cs b) {K : Act → Prop} {a : Act}
    (hy : Yields P ops oi v a) (h : qOp P ops C j K (a.put oi.dst v)) :
    qOp P ops C j (fun a' => Yields P ops oi v a' ∧ K (a'.put oi.dst v)) a := by
  obtain ⟨h1, h2, h3⟩ := Oper.apart_spec hap
  have keep : ∀ (a : Act), Yields P ops oi v a → ∀ u, Yields P ops oi v (a.put oj.dst u) := fun a hy u =>
    yields_same hy (execOp_put oi hsi a oj.dst u h3) (wanted_put oi a oj.dst u h3)
  unfold qOp at *
  simp only [hj] at *
  rw [wanted_put oj a oi.dst v h1] at h
  split
  · rename_i hw
    simp only [hw, if_true] at h
    obtain ⟨u, hu, hn⟩ := h
    refine ⟨u, fun w hw' => ?_, keep a hy u, by rw [← Act.put_comm a v u h2]; exact hn⟩
    have := hu w hw'
    unfold Oper.quietAt at *
    rwa [execOp_put oj hsj a oi.dst v h1] at this
  · rename_i hw
    simp only [hw] at h
    exact ⟨keep a hy _, by rw [← Act.put_comm a v undef h2]; exact h⟩
theorem wpAnyM_firstY {n i : Nat} {oi : Oper} {v : Value} (hi : ops[i]? = some oi) (hsel : ∀ (j : Nat) (o : Oper) cs b, ops[j]? = some o → o.op ≠ .select cs b)
    (hQ : ∀ c a w, Q (.panic c) (a.put oi.dst v) w → Q (.panic c) a w) (hin : i ≠ n) :
    ∀ (f : Nat) (listed : Array Bool) (a : Act),
      (∀ j oj, ops[j]? = some oj → j ≠ i → listed.getD j true = false → (∀ e ∈ oj.after, Region.binds .any e = true → e.on ≠ i) → oi.apart ops oj = true) →
      i ∈ Region.ready .any ops listed → Yields P ops oi v a →
      wpAnyM P ops Q C n f (listed.setIfInBounds i true) (a.put oi.dst v) → wpAnyM P ops Q C n (f + 1) listed a := by
  intro f
  induction f with
  | zero => intro listed a _ _ _ H; exact H.elim
  | succ f ih =>
    intro listed a hfree hr hy H
    have hun := (mem_ready.1 hr).1
    refine ⟨fun h => (by rw [h] at hr; cases hr), fun j hj => ?_⟩
    obtain ⟨hjun, oj, hoj, hall⟩ := mem_ready.1 hj
    by_cases hji : j = i
    · subst hji
      rw [if_neg hin]
      exact (yieldsIn_of hy).qOp hi H
    have hnot : ∀ e ∈ oj.after, Region.binds .any e = true → e.on ≠ i := fun e he hb heq => by
      have h1 := hall e he hb
      rw [heq, getD_both hun] at h1
      cases h1
    have hap := hfree j oj hoj hji hjun hnot
    have hfree' : ∀ k ok, ops[k]? = some ok → k ≠ i → (listed.setIfInBounds j true).getD k true = false →
        (∀ e ∈ ok.after, Region.binds .any e = true → e.on ≠ i) → oi.apart ops ok = true := fun k ok hk hki hun hno => by
      refine hfree k ok hk hki ?_ hno
      by_cases hjk : j = k
      · subst hjk; exact hjun
      · rw [getD_set_ne true hjk] at hun; exact hun
    have h1 := H.2 j (ready_mono hj hji)
    by_cases hjn : j = n
    · subst hjn
      rw [if_pos rfl] at h1 ⊢
      intro w hw
      have h2 := wpOp_put hoj hap (fun cs b => hsel i oi cs b hi) (fun cs b => hsel j oj cs b hoj) hQ hy (h1 w hw)
      refine wpOp_mono (fun a' w' h3 => wpAny_first hi hsel hQ f _ a' w' hfree' (ready_mono hr (Ne.symm hji)) h3.1 ?_) h2
      rw [Array.setIfInBounds_comm _ _ hji]
      exact h3.2
    · rw [if_neg hjn] at h1 ⊢
      have h2 := qOp_putY hoj hap (fun cs b => hsel i oi cs b hi) (fun cs b => hsel j oj cs b hoj) hy h1
      refine qOp_mono (fun a' h3 => ih (listed.setIfInBounds j true) a' hfree' (ready_mono hr (Ne.symm hji)) h3.1 ?_) h2
      rw [Array.setIfInBounds_comm _ _ hji]
      exact h3.2
def wpQ2 (P : Program) (ops : Array Oper) (C : World → Prop) (m : Nat) (Lq : Act → Prop) : Nat → List Oper → Act → Prop
  | _, [], a => Lq a
  | k, o :: l, a => ∃ v, (if k < m then YieldsIn P ops C o v a else Yields P ops o v a) ∧ wpQ2 P ops C m Lq (k + 1) l (a.put o.dst v)
def wpLate (P : Program) (ops : Array Oper) (Lq : Act → Prop) : List Oper → Act → Prop
  | [], a => Lq a
  | o :: l, a => ∃ v, Yields P ops o v a ∧ wpLate P ops Lq l (a.put o.dst v)
theorem wpQ2_late {m : Nat} {Lq : Act → Prop} : ∀ (l : List Oper) (k : Nat) (a : Act), m ≤ k → wpLate P ops Lq l a → wpQ2 P ops C m Lq k l a
  | [], _, _, _, h => h
  | o :: l, k, a, hk, ⟨v, h1, h2⟩ => ⟨v, by rw [if_neg (by omega)]; exact h1, wpQ2_late l (k + 1) _ (by omega) h2⟩
theorem wpQ2_of {m : Nat} {Lq : Act → Prop} (l2 : List Oper) : ∀ (l1 : List Oper) (k : Nat) (a : Act), k + l1.length = m → (∀ j, j < l1.length → l1[j]? = ops[k + j]?) →
    wpQuiet P ops C (fun a1 => wpLate P ops Lq l2 a1) l1 a → wpQ2 P ops C m Lq k (l1 ++ l2) a
  | [], k, a, hk, _, h => wpQ2_late l2 k a (by simp at hk; omega) h
  | o :: l1, k, a, hk, hl, h => by
    have h0 : ops[k]? = some o := by simpa using (hl 0 (by simp)).symm
    simp only [List.length_cons] at hk
    have hst : qOp P ops C k (wpQuiet P ops C (fun a1 => wpLate P ops Lq l2 a1) l1) a := by unfold qOp; simp only [h0]; exact h
    obtain ⟨v, hy, hK⟩ := yieldsIn_of_qOp h0 hst
    exact ⟨v, by rw [if_pos (by omega)]; exact hy, wpQ2_of l2 l1 (k + 1) _ (by omega) (fun j hj => by have := hl (j + 1) (by simp; omega); simpa [Nat.add_assoc, Nat.add_comm 1 j] using this) hK⟩
def lateB (ops : Array Oper) (m n : Nat) : Bool :=
  Region.noSelect ops && decide (m ≤ n) && decide (n < ops.size) && ((List.range m).all fun i => ((ops[i]?).map mover).getD false || leads ops n n i) && Region.lexHead .any ops (ops.size - n) n 0 (Array.replicate ops.size false)
theorem wpAnyM_lexY {n m g : Nat} {Lq : Act → Prop} (hmn : m ≤ n) (hsel : Region.noSelect ops = true) (hh : ((List.range m).all fun i => ((ops[i]?).map mover).getD false || leads ops n n i) = true)
    (hQ : ∀ c a d v w, Q (.panic c) (a.put d v) w → Q (.panic c) a w) (w0 : World) (hw0 : C w0)
    (hend : ∀ listed a, Region.seqB .any ops (g + 1) n listed = true → Lq a → wpAnyM P ops Q C n (g + 1) listed a) :
    ∀ (l : List Oper) (k : Nat) (listed : Array Bool) (a : Act), Closed ops listed → (∀ j, j < l.length → l[j]? = ops[k + j]?) → k + l.length = n →
    Region.lexHead .any ops (g + 1) l.length k listed = true → wpQ2 P ops C m Lq k l a → wpAnyM P ops Q C n (l.length + (g + 1)) listed a
  | [], k, listed, a, _, _, hk, hB, h => by
    have : k = n := by simpa using hk
    subst this
    rw [show ([] : List Oper).length + (g + 1) = g + 1 by simp]
    exact hend listed a (by simpa [Region.lexHead] using hB) h
  | o :: l, k, listed, a, hcl, hl, hk, hB, h => by
    have h0 : ops[k]? = some o := by simpa using (hl 0 (by simp)).symm
    simp only [List.length_cons, Region.lexHead, Bool.and_eq_true] at hB
    obtain ⟨⟨hr, hf⟩, hB'⟩ := hB
    have hkn : k < n := by simp only [List.length_cons] at hk; omega
    have hr' : k ∈ Region.ready .any ops listed := by simpa using hr
    obtain ⟨v, hy, hK⟩ := h
    rw [show (o :: l).length + (g + 1) = (l.length + (g + 1)) + 1 by simp only [List.length_cons]; omega]
    have hrest := wpAnyM_lexY hmn hsel hh hQ w0 hw0 hend l (k + 1) (listed.setIfInBounds k true) (a.put o.dst v) (hcl.set hr') (fun j hj => by have := hl (j + 1) (by simp; omega); simpa [Nat.add_assoc, Nat.add_comm 1 j] using this) (by simp only [List.length_cons] at hk; omega) hB' hK
    by_cases hkm : k < m
    · rw [if_pos hkm] at hy
      have hk' : leads ops n n k = true ∨ mover o = true := by
        have := List.all_eq_true.1 hh k (List.mem_range.2 hkm)
        simpa [h0, or_comm] using this
      exact wpAnyM_first h0 (Region.noSelect_spec hsel) (fun c a w => hQ c a _ _ w) (by omega) w0 hw0 n hk' (l.length + (g + 1)) listed a hcl (Region.free_spec h0 hf) hr' hy hrest
    · rw [if_neg hkm] at hy
      exact wpAnyM_firstY h0 (Region.noSelect_spec hsel) (fun c a w => hQ c a _ _ w) (by omega) (l.length + (g + 1)) listed a (Region.free_spec h0 hf) hr' hy hrest
theorem wp_region_late {id : Nat} {a : Act} {w : World} {l : List Oper} (m n : Nat) (hm : P.follows .mixedOrders = true) (hB : lateB l.toArray m n = true)
    (hQ : ∀ c a d v w, Q (.panic c) (a.put d v) w → Q (.panic c) a w) (hC : C w.drew)
    (h : wpQuiet P l.toArray C (fun a1 => wpLate P l.toArray (fun a' => ∀ w', C w' → wpList P l.toArray Q (l.drop n) a' w') ((l.take n).drop m) a1) ((l.take n).take m) a) : (Code.region id l.toArray true).wp P Q a w := by
  simp only [lateB, Bool.and_eq_true, decide_eq_true_eq] at hB
  obtain ⟨⟨⟨⟨hsel, hmn⟩, hn⟩, hh⟩, hlex⟩ := hB
  have hn' : n < l.length := by simpa using hn
  have htl : (l.take n).length = n := by simp; omega
  obtain ⟨g, hg⟩ : ∃ g, l.toArray.size - n = g + 1 := ⟨l.toArray.size - n - 1, by simp at hn ⊢; omega⟩
  rw [hg] at hlex
  refine wp_region_any hm (wpAny_of_M (C := C) (n := n) _ _ _ _ hC ?_)
  have hq := wpQ2_of (P := P) (ops := l.toArray) (C := C) (m := m) ((l.take n).drop m) ((l.take n).take m) 0 a (by simp; omega) (fun j hj => by
    have hj' : j < m := by simp at hj; omega
    have hj2 : j < n := by omega
    simp [hj', hj2]) h
  rw [List.take_append_drop] at hq
  have H := wpAnyM_lexY (P := P) (Q := Q) (C := C) (g := g) hmn hsel hh hQ _ hC (fun listed a' hs hL => ?_) (l.take n) 0 _ a (fun j oj _ hl => (by rw [getD_replicate_false] at hl; cases hl)) (fun j hj => by
    have hj' : j < n := by rw [htl] at hj; exact hj
    simp [hj']) (by simpa using htl) (by rw [htl]; exact hlex) hq
  · rw [htl, show n + (g + 1) = l.toArray.size by omega] at H
    exact H
  · have hd : (l.drop n).length = g + 1 := by simp at hg ⊢; omega
    simp only [Region.seqB, Bool.and_eq_true, decide_eq_true_eq] at hs
    refine ⟨fun h0 => (by rw [hs.1] at h0; cases h0), fun i hi => ?_⟩
    rw [hs.1] at hi
    have hin : i = n := by simpa using hi
    subst hin
    rw [if_pos rfl]
    intro w1 hw1
    have hs' : Region.seqB .any l.toArray (l.drop i).length i listed = true := by
      rw [hd]; simp only [Region.seqB, Bool.and_eq_true, decide_eq_true_eq]; exact hs
    have := wpAny_of_seq (P := P) (md := .any) (Q' := Q) (l.drop i) i listed a' w1 (fun j => by simp [List.getElem?_drop]) hs' (hL w1 hw1)
    rw [hd] at this
    exact this.2 i (by rw [hs.1]; simp)
end
end Go.Proofs.YtdidnlkilleljaaGreatDoor
