/- Plain laws of commands: what a parse's steps are printed as; two commands, one behind the other. No program in sight. -/
import Derived.Test.YtoofflnaebkigaaDoorLgSpec
namespace Go.Proofs.YtoofflnaebkigaaDoor.Lg
set_option linter.unusedVariables false
theorem lines_app : ∀ a b, linesOf (a ++ b) = linesOf a ++ linesOf b
  | [], b => by simp [linesOf]
  | ⟨op, args, n, bl⟩ :: r, b => by
    rw [List.cons_append, linesOf, linesOf, lines_app r b]
    simp
/-- what a block's lines are -/
theorem bk_lines : ∀ (k deep : Nat) (out o : List Stp) (lines r : List B), lines.length ≤ k → bk deep out lines = .ok o r →
    ∃ l, o = out ++ l ∧ lines = linesOf l ++ (if 0 < deep then endW :: r else []) ∧ (deep = 0 → r = [])
  | k, deep, out, o, [], r, hk, h => by
    rw [bk_nil] at h
    split at h
    · cases h
    · next hd =>
      cases h
      exact ⟨[], by simp, by simp [linesOf, hd], fun _ => rfl⟩
  | 0, deep, out, o, line :: rest, r, hk, h => absurd hk (by simp)
  | k + 1, deep, out, o, line :: rest, r, hk, h => by
    simp only [List.length_cons] at hk
    rw [bk_cons] at h
    split at h
    · next e =>
      split at h
      · next hd =>
        cases h
        exact ⟨[], by simp, by simp [linesOf, hd, e], fun h0 => by omega⟩
      · cases h
    · split at h
      · cases h
      · next op args n e =>
        obtain ⟨_, _, _, _, hl⟩ := stepOf_says e
        split at h
        · next hb =>
          split at h
          · cases h
          · split at h
            · cases h
            · next inn rest' e2 =>
              have hle := bk_le e2
              obtain ⟨l1, h1, h2, _⟩ := bk_lines k (deep + 1) [] _ rest _ (by omega) e2
              obtain ⟨l2, h3, h4, h5⟩ := bk_lines k deep _ _ rest' _ (by omega) h
              have h1 : inn = l1 := by simpa using h1
              subst h1
              refine ⟨⟨op, args, n, inn⟩ :: l2, by simp [h3], ?_, h5⟩
              rw [if_pos (by omega)] at h2
              rw [linesOf, if_pos hb, ← hl, h2, h4]
              simp
        · next hb =>
          obtain ⟨l2, h3, h4, h5⟩ := bk_lines k deep _ _ rest _ (by omega) h
          refine ⟨⟨op, args, n, []⟩ :: l2, by simp [h3], ?_, h5⟩
          rw [linesOf, if_neg hb, ← hl, h4]
          simp
theorem bk_app : ∀ (k deep : Nat) (out o : List Stp) (a r b : List B), a.length ≤ k → bk deep out a = .ok o r → bk deep out (a ++ b) = if 0 < deep then .ok o (r ++ b) else bk deep o b
  | k, deep, out, o, [], r, b, hk, h => by
    rw [bk_nil] at h
    split at h
    · cases h
    · next hd => cases h; rw [if_neg hd]; rfl
  | 0, deep, out, o, line :: rest, r, b, hk, h => absurd hk (by simp)
  | k + 1, deep, out, o, line :: rest, r, b, hk, h => by
    simp only [List.length_cons] at hk
    rw [bk_cons] at h
    rw [List.cons_append, bk_cons]
    split at h
    · next e =>
      split at h
      · next hd => cases h; rw [if_pos e, if_pos hd, if_pos hd]
      · cases h
    · next e0 =>
      rw [if_neg e0]
      split at h
      · cases h
      · next op args n e =>
        split at h
        · next hb =>
          split at h
          · cases h
          · next hd =>
            split at h
            · cases h
            · next inn rest' e2 =>
              have hle := bk_le e2
              have h1 := bk_app k (deep + 1) [] _ rest _ b (by omega) e2
              rw [if_pos (by omega)] at h1
              rw [if_pos hb, if_neg hd, h1]
              exact bk_app k deep _ _ rest' _ b (by omega) h
        · next hb =>
          rw [if_neg hb]
          exact bk_app k deep _ _ rest _ b (by omega) h
theorem bk_err : ∀ (k deep : Nat) (out : List Stp) (lines : List B) (e : Nat), lines.length ≤ k → bk deep out lines = .err e → e ≠ 0
  | k, deep, out, [], e, hk, h => by
    rw [bk_nil] at h
    split at h <;> cases h
    omega
  | 0, deep, out, line :: rest, e, hk, h => absurd hk (by simp)
  | k + 1, deep, out, line :: rest, e, hk, h => by
    simp only [List.length_cons] at hk
    rw [bk_cons] at h
    split at h
    · split at h <;> cases h
      omega
    · split at h
      · cases h; omega
      · split at h
        · split at h
          · cases h; omega
          · split at h
            · next e2 => cases h; exact bk_err k _ _ rest _ (by omega) e2
            · next e2 =>
              have hle := bk_le e2
              exact bk_err k _ _ _ _ (by omega) h
        · exact bk_err k _ _ rest _ (by omega) h
theorem flat_join : ∀ {l : List B}, l ≠ [] → l.flatMap (fun s => s ++ [10]) = joinB 10 l ++ [10]
  | [], h => absurd rfl h
  | [x], _ => by simp [joinB]
  | x :: y :: r, _ => by
    rw [List.flatMap_cons, flat_join (by simp), joinB]
    simp
theorem last_nl {c : B} (h0 : c ≠ []) (h : ¬ c.getLast? ≠ some 10) : c = c.dropLast ++ [10] := by
  have h1 : c.getLast? = some 10 := Classical.byContradiction h
  rw [List.getLast?_eq_some_getLast h0] at h1
  injection h1 with h1
  rw [← h1, List.dropLast_concat_getLast]
/-- what was parsed is printed as it was -/
theorem parse_print {cmd : B} {m : List Stp} (h : parse cmd = (m, 0)) : print m = cmd := by
  unfold parse at h
  rcases ite_or h with ⟨_, h⟩ | ⟨_, h⟩
  · cases h
  rcases ite_or h with ⟨rfl, h⟩ | ⟨h0, h⟩
  · cases h; simp [print, linesOf]
  rcases ite_or h with ⟨_, h⟩ | ⟨hl, h⟩
  · cases h
  rcases ite_or h with ⟨_, h⟩ | ⟨_, h⟩
  · cases h
  cases e : bk 0 [] (splitB 10 cmd.dropLast) with
  | err k => 
    simp only [e, Prod.mk.injEq] at h
    obtain ⟨rfl, rfl⟩ := h
    exact absurd rfl (bk_err _ _ _ _ _ (Nat.le_refl _) e)
  | ok o r =>
    simp only [e, Prod.mk.injEq, and_true] at h
    subst h
    obtain ⟨l, h1, h2, _⟩ := bk_lines _ _ _ _ _ _ (Nat.le_refl _) e
    have h1 : o = l := by simpa using h1
    subst h1
    simp only [Nat.lt_irrefl, if_false, List.append_nil] at h2
    rw [print, ← h2, flat_join (splitB_ne _ _), join_split, ← last_nl h0 hl]
/-- parse, in the words of a right command: empty, or lines that are a block -/
theorem parse_ok {cmd : B} {m : List Stp} (h : parse cmd = (m, 0)) : (cmd = [] ∧ m = []) ∨ (cmd ≠ [] ∧ cmd.length ≤ 8192 ∧ cmd = cmd.dropLast ++ [10] ∧ ∃ r, bk 0 [] (splitB 10 cmd.dropLast) = .ok m r) := by
  unfold parse at h
  rcases ite_or h with ⟨_, h⟩ | ⟨hb, h⟩
  · cases h
  rcases ite_or h with ⟨rfl, h⟩ | ⟨h0, h⟩
  · cases h; exact .inl ⟨rfl, rfl⟩
  rcases ite_or h with ⟨_, h⟩ | ⟨hl, h⟩
  · cases h
  rcases ite_or h with ⟨_, h⟩ | ⟨_, h⟩
  · cases h
  cases e : bk 0 [] (splitB 10 cmd.dropLast) with
  | err k =>
    simp only [e, Prod.mk.injEq] at h
    obtain ⟨rfl, rfl⟩ := h
    exact absurd rfl (bk_err _ _ _ _ _ (Nat.le_refl _) e)
  | ok o r =>
    simp only [e, Prod.mk.injEq, and_true] at h
    subst h
    exact .inr ⟨h0, by omega, last_nl h0 hl, r, rfl⟩
/-- an error has no steps -/
theorem parse_no {cmd : B} (h : (parse cmd).2 ≠ 0) : (parse cmd).1 = [] := by
  rcases hp : parse cmd with ⟨m, e⟩
  rw [hp] at h
  unfold parse at hp
  rcases ite_or hp with ⟨_, hp⟩ | ⟨_, hp⟩
  · cases hp; rfl
  rcases ite_or hp with ⟨_, hp⟩ | ⟨_, hp⟩
  · cases hp; rfl
  rcases ite_or hp with ⟨_, hp⟩ | ⟨_, hp⟩
  · cases hp; rfl
  rcases ite_or hp with ⟨_, hp⟩ | ⟨_, hp⟩
  · cases hp; rfl
  cases e2 : bk 0 [] (splitB 10 cmd.dropLast) with
  | err k => simp only [e2, Prod.mk.injEq] at hp; exact hp.1.symm
  | ok o r => simp only [e2, Prod.mk.injEq] at hp; exact absurd hp.2.symm h
def Res.pre (out : List Stp) : Res → Res
  | .ok o r => .ok (out ++ o) r
  | .err e => .err e
theorem bk_pre : ∀ (k deep : Nat) (out p : List Stp) (lines : List B), lines.length ≤ k → bk deep (out ++ p) lines = (bk deep p lines).pre out
  | k, deep, out, p, [], hk => by
    rw [bk_nil, bk_nil]
    split <;> rfl
  | 0, deep, out, p, line :: rest, hk => absurd hk (by simp)
  | k + 1, deep, out, p, line :: rest, hk => by
    simp only [List.length_cons] at hk
    rw [bk_cons, bk_cons]
    split
    · split <;> rfl
    · split
      · rfl
      · split
        · split
          · rfl
          · split
            · rfl
            · next e2 =>
              have hle := bk_le e2
              rw [List.append_assoc]
              exact bk_pre k deep out _ _ (by omega)
        · rw [List.append_assoc]
          exact bk_pre k deep out _ rest (by omega)
/-- two commands, one behind the other -/
theorem parse_two {a b : B} {x y : List Stp} (ha : parse a = (x, 0)) (hb : parse b = (y, 0)) : parse (a ++ b) = (x ++ y, 0) ∨ parse (a ++ b) = ([], 15) := by
  rcases parse_ok ha with ⟨rfl, rfl⟩ | ⟨a0, al, ad, ra, ae⟩
  · exact .inl hb
  rcases parse_ok hb with ⟨rfl, rfl⟩ | ⟨b0, bl, bd, rb, be⟩
  · rw [List.append_nil, List.append_nil]; exact .inl ha
  have hdrop : (a ++ b).dropLast = a.dropLast ++ 10 :: b.dropLast := by
    rw [List.dropLast_append_of_ne_nil b0]
    conv => lhs; rw [ad]
    simp
  have hlast : (a ++ b).getLast? = some 10 := by
    rw [bd, ← List.append_assoc]; simp
  unfold parse
  split
  · exact .inr rfl
  rw [if_neg (by simp [a0]), if_neg (by simp [hlast])]
  split
  · exact .inr rfl
  left
  rw [hdrop, split_two, bk_app _ 0 [] x _ _ _ (Nat.le_refl _) ae, if_neg (Nat.lt_irrefl _)]
  have := bk_pre _ 0 x [] (splitB 10 b.dropLast) (Nat.le_refl _)
  rw [List.append_nil, be] at this
  rw [this]
  rfl
end Go.Proofs.YtoofflnaebkigaaDoor.Lg
