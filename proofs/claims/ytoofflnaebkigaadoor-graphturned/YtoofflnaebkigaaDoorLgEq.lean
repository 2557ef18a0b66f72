/- When two lists of steps are the same; how many steps there are in all. No program in sight. -/
import Derived.Test.YtoofflnaebkigaaDoorLgLaw
namespace Go.Proofs.YtoofflnaebkigaaDoor.Lg
set_option linter.unusedVariables false
def sameL : List Stp → List Stp → Bool
  | [], [] => true
  | ⟨o, a, n, b⟩ :: r, ⟨o', a', n', b'⟩ :: r' => decide (o = o') && decide (n = n') && decide (a = a') && sameL b b' && sameL r r'
  | [], _ :: _ => false
  | _ :: _, [] => false
theorem sameL_refl : ∀ l, sameL l l = true
  | [] => by rw [sameL]
  | ⟨o, a, n, b⟩ :: r => by rw [sameL, sameL_refl b, sameL_refl r]; simp
theorem sameL_eq : ∀ {l m}, sameL l m = true → l = m
  | [], [], _ => rfl
  | [], _ :: _, h => by rw [sameL] at h; cases h
  | _ :: _, [], h => by rw [sameL] at h; cases h
  | ⟨o, a, n, b⟩ :: r, ⟨o', a', n', b'⟩ :: r', h => by
    rw [sameL] at h
    simp only [Bool.and_eq_true, decide_eq_true_eq] at h
    obtain ⟨⟨⟨⟨rfl, rfl⟩, rfl⟩, h1⟩, h2⟩ := h
    rw [sameL_eq h1, sameL_eq h2]
theorem sameL_len : ∀ {l m}, l.length ≠ m.length → sameL l m = false := by
  intro l m h
  cases e : sameL l m with
  | false => rfl
  | true => exact absurd (by rw [sameL_eq e]) h
/-- how many steps, those of the blocks too -/
def weight : List Stp → Nat
  | [] => 0
  | ⟨_, _, _, b⟩ :: r => 1 + weight b + weight r
/-- how many words behind the steps' own -/
def wide : List Stp → Nat
  | [] => 0
  | ⟨_, a, _, b⟩ :: r => a.length + wide b + wide r
theorem len_weight : ∀ l : List Stp, l.length ≤ weight l
  | [] => by simp
  | ⟨_, a, _, b⟩ :: r => by
    have := len_weight r
    simp only [List.length_cons, weight]; omega
theorem wide_at : ∀ {l : List Stp} {k : Nat} (hk : k < l.length), wide (l[k]).block + (l[k]).args.length ≤ wide l
  | ⟨_, a, _, b⟩ :: r, 0, hk => by simp only [wide, List.getElem_cons_zero, Stp.block, Stp.args]; omega
  | ⟨_, a, _, b⟩ :: r, k + 1, hk => by
    have := wide_at (l := r) (k := k) (by simpa using hk)
    simp only [List.getElem_cons_succ, wide]
    omega
theorem join_len (c : UInt8) : ∀ (x : B) (l : List B), l.length ≤ (joinB c (x :: l)).length
  | x, [] => by simp
  | x, y :: r => by
    have := join_len c y r
    rw [joinB]
    simp only [List.length_cons, List.length_append]
    omega
theorem flat_len : ∀ l : List B, (l.flatMap fun s => s ++ [10]).length = (l.map List.length).sum + l.length
  | [] => rfl
  | x :: r => by
    rw [List.flatMap_cons, List.length_append, flat_len r]
    simp; omega
theorem head_len (op : Int) (args : List B) (n : Int) : args.length ≤ (headW op args n).length := by
  have := join_len 32 (wordOf op) args
  rw [headW, List.length_append]
  omega
/-- only a loop and an 'if' have a block -/
def plainL : List Stp → Prop
  | [] => True
  | ⟨o, _, _, b⟩ :: r => ((o = 9 ∨ o = 10) ∨ b = []) ∧ plainL b ∧ plainL r
theorem print_len : ∀ {l : List Stp}, plainL l → weight l + wide l ≤ ((linesOf l).map List.length).sum + (linesOf l).length
  | [], _ => by simp [weight, wide]
  | ⟨o, a, n, b⟩ :: r, h => by
    rw [plainL] at h
    have h1 := print_len h.2.1
    have h2 := print_len h.2.2
    have h3 := head_len o a n
    rw [linesOf, weight, wide]
    by_cases ho : o = 9 ∨ o = 10
    · rw [if_pos ho]
      simp only [List.cons_append, List.map_cons, List.sum_cons, List.length_cons, List.map_append, List.sum_append, List.length_append, List.map_nil, List.sum_nil, List.length_nil, Nat.add_zero]
      omega
    · rw [if_neg ho]
      have hb : b = [] := h.1.resolve_left ho
      subst hb
      simp only [weight, wide, List.cons_append, List.nil_append, List.map_cons, List.sum_cons, List.length_cons]
      omega
theorem plain_app : ∀ {a b : List Stp}, plainL a → plainL b → plainL (a ++ b)
  | [], b, _, h => h
  | ⟨o, x, n, k⟩ :: r, b, h, h2 => by
    rw [plainL] at h
    rw [List.cons_append, plainL]
    exact ⟨h.1, h.2.1, plain_app h.2.2 h2⟩
theorem bk_plain : ∀ (k deep : Nat) (out o : List Stp) (lines r : List B), lines.length ≤ k → plainL out → bk deep out lines = .ok o r → plainL o
  | k, deep, out, o, [], r, hk, hp, h => by
    rw [bk_nil] at h
    split at h
    · cases h
    · cases h; exact hp
  | 0, deep, out, o, line :: rest, r, hk, hp, h => absurd hk (by simp)
  | k + 1, deep, out, o, line :: rest, r, hk, hp, h => by
    simp only [List.length_cons] at hk
    rw [bk_cons] at h
    split at h
    · split at h
      · cases h; exact hp
      · cases h
    · split at h
      · cases h
      · next op args n e =>
        split at h
        · next hb =>
          split at h
          · cases h
          · split at h
            · cases h
            · next inn rest' e2 =>
              have hle := bk_le e2
              have h1 := bk_plain k (deep + 1) [] _ rest _ (by omega) (by simp [plainL]) e2
              exact bk_plain k deep _ _ rest' _ (by omega) (plain_app hp (by simp only [plainL]; exact ⟨.inl hb, h1, trivial⟩)) h
        · exact bk_plain k deep _ _ rest _ (by omega) (plain_app hp (by simp only [plainL]; exact ⟨.inr trivial, trivial, trivial⟩)) h
/-- how many steps and words a command has -/
theorem parse_size {cmd : B} {m : List Stp} {e : Nat} (h : parse cmd = (m, e)) : weight m + wide m ≤ cmd.length := by
  by_cases he : e = 0
  · subst he
    have hp : plainL m := by
      rcases parse_ok h with ⟨_, rfl⟩ | ⟨_, _, _, r, hb⟩
      · simp [plainL]
      · exact bk_plain _ _ _ _ _ _ (Nat.le_refl _) (by simp [plainL]) hb
    have h1 := print_len hp
    have h2 := parse_print h
    rw [← flat_len] at h1
    rw [print] at h2
    rw [h2] at h1
    exact h1
  · have := parse_no (cmd := cmd) (by rw [h]; exact he)
    rw [h] at this
    simp only at this
    subst this
    simp [weight, wide]
def sameS (x y : Stp) : Bool := decide (x.op = y.op) && decide (x.n = y.n) && decide (x.args = y.args) && sameL x.block y.block
theorem weight_at : ∀ {l : List Stp} {k : Nat} (hk : k < l.length), weight (l[k]).block < weight l
  | ⟨_, _, _, b⟩ :: r, 0, hk => by simp only [weight, List.getElem_cons_zero, Stp.block]; omega
  | ⟨_, _, _, b⟩ :: r, k + 1, hk => by
    have := weight_at (l := r) (k := k) (by simpa using hk)
    simp only [List.getElem_cons_succ, weight]
    omega
theorem same_iff : ∀ {l m : List Stp}, l.length = m.length → (sameL l m = true ↔ ∀ k (h1 : k < l.length) (h2 : k < m.length), sameS l[k] m[k] = true)
  | [], [], _ => by simp [sameL]
  | [], _ :: _, h => by simp at h
  | _ :: _, [], h => by simp at h
  | ⟨o, a, n, b⟩ :: r, ⟨o', a', n', b'⟩ :: r', h => by
    rw [sameL]
    have ih := same_iff (l := r) (m := r') (by simpa using h)
    constructor
    · intro h1 k h2 h3
      rw [Bool.and_eq_true] at h1
      cases k with
      | zero => exact h1.1
      | succ k => exact ih.1 h1.2 k (by simpa using h2) (by simpa using h3)
    · intro h1
      rw [Bool.and_eq_true]
      exact ⟨h1 0 (by simp) (by simp), ih.2 fun k h2 h3 => h1 (k + 1) (by simp; omega) (by simp; omega)⟩
theorem same_all {l m : List Stp} (hl : l.length = m.length) (h : ∀ k (h1 : k < l.length) (h2 : k < m.length), k < l.length → sameS l[k] m[k] = true) : sameL l m = true :=
  (same_iff hl).2 fun k h1 h2 => h k h1 h2 h1
theorem same_bad {l m : List Stp} {k : Nat} (h1 : k < l.length) (h2 : k < m.length) (h : sameS l[k] m[k] = false) : sameL l m = false := by
  cases e : sameL l m with
  | false => rfl
  | true =>
    have hl : l.length = m.length := by rw [sameL_eq e]
    have := (same_iff hl).1 e k h1 h2
    rw [h] at this; cases this
end Go.Proofs.YtoofflnaebkigaaDoor.Lg
