/- Joined by mkmerged.py: LgLaw, LgMach, LgRow, LgDigits, LgSw, LgText, LgName. -/
import Derived.Test.YtdidnlkilleljaaGreatDoorMf03
import Derived.Test.YtdidnlkilleljaaGreatDoorMfKt
import Derived.Test.YtdidnlkilleljaaGreatDoorMf01
/- LgLaw, what a claim needs of it (prune.py). -/
namespace Go.Proofs.YtdidnlkilleljaaGreatDoor.Lg
set_option linter.unusedVariables false
theorem bk_lines : ∀ (k deep : Nat) (out o : List Stp) (lines r : List B), lines.length ≤ k → bk deep out lines = .ok o r →
    ∃ l, o = out ++ l ∧ lines = linesOf l ++ (if 0 < deep then endW :: r else []) ∧ (deep = 0 → r = [])
  | k, deep, out, o, [], r, hk, h => by
    rw [bk_nil] at h
    split at h
    · cases h
    · next hd =>
      cases h
      exact ⟨[], by simp, by simp [linesOf, hd], fun _ => rfl⟩
  | 0, deep, out, o, line :: rest, r, hk, h => absurd hk (by simp)
  | k + 1, deep, out, o, line :: rest, r, hk, h => by
    simp only [List.length_cons] at hk
    rw [bk_cons] at h
    split at h
    · next e =>
      split at h
      · next hd =>
        cases h
        exact ⟨[], by simp, by simp [linesOf, hd, e], fun h0 => by omega⟩
      · cases h
    · split at h
      · cases h
      · next op args n e =>
        obtain ⟨_, _, _, _, hl⟩ := stepOf_says e
        split at h
        · next hb =>
          split at h
          · cases h
          · split at h
            · cases h
            · next inn rest' e2 =>
              have hle := bk_le e2
              obtain ⟨l1, h1, h2, _⟩ := bk_lines k (deep + 1) [] _ rest _ (by omega) e2
              obtain ⟨l2, h3, h4, h5⟩ := bk_lines k deep _ _ rest' _ (by omega) h
              have h1 : inn = l1 := by simpa using h1
              subst h1
              refine ⟨⟨op, args, n, inn⟩ :: l2, by simp [h3], ?_, h5⟩
              rw [if_pos (by omega)] at h2
              rw [linesOf, if_pos hb, ← hl, h2, h4]
              simp
        · next hb =>
          obtain ⟨l2, h3, h4, h5⟩ := bk_lines k deep _ _ rest _ (by omega) h
          refine ⟨⟨op, args, n, []⟩ :: l2, by simp [h3], ?_, h5⟩
          rw [linesOf, if_neg hb, ← hl, h4]
          simp
theorem bk_err : ∀ (k deep : Nat) (out : List Stp) (lines : List B) (e : Nat), lines.length ≤ k → bk deep out lines = .err e → e ≠ 0
  | k, deep, out, [], e, hk, h => by
    rw [bk_nil] at h
    split at h <;> cases h
    omega
  | 0, deep, out, line :: rest, e, hk, h => absurd hk (by simp)
  | k + 1, deep, out, line :: rest, e, hk, h => by
    simp only [List.length_cons] at hk
    rw [bk_cons] at h
    split at h
    · split at h <;> cases h
      omega
    · split at h
      · cases h; omega
      · split at h
        · split at h
          · cases h; omega
          · split at h
            · next e2 => cases h; exact bk_err k _ _ rest _ (by omega) e2
            · next e2 =>
              have hle := bk_le e2
              exact bk_err k _ _ _ _ (by omega) h
        · exact bk_err k _ _ rest _ (by omega) h
theorem flat_join : ∀ {l : List B}, l ≠ [] → l.flatMap (fun s => s ++ [10]) = joinB 10 l ++ [10]
  | [], h => absurd rfl h
  | [x], _ => by simp [joinB]
  | x :: y :: r, _ => by
    rw [List.flatMap_cons, flat_join (by simp), joinB]
    simp
theorem last_nl {c : B} (h0 : c ≠ []) (h : ¬ c.getLast? ≠ some 10) : c = c.dropLast ++ [10] := by
  have h1 : c.getLast? = some 10 := Classical.byContradiction h
  rw [List.getLast?_eq_some_getLast h0] at h1
  injection h1 with h1
  rw [← h1, List.dropLast_concat_getLast]
theorem parse_print {cmd : B} {m : List Stp} (h : parse cmd = (m, 0)) : print m = cmd := by
  unfold parse at h
  rcases ite_or h with ⟨_, h⟩ | ⟨_, h⟩
  · cases h
  rcases ite_or h with ⟨rfl, h⟩ | ⟨h0, h⟩
  · cases h; simp [print, linesOf]
  rcases ite_or h with ⟨_, h⟩ | ⟨hl, h⟩
  · cases h
  rcases ite_or h with ⟨_, h⟩ | ⟨_, h⟩
  · cases h
  cases e : bk 0 [] (splitB 10 cmd.dropLast) with
  | err k => 
    simp only [e, Prod.mk.injEq] at h
    obtain ⟨rfl, rfl⟩ := h
    exact absurd rfl (bk_err _ _ _ _ _ (Nat.le_refl _) e)
  | ok o r =>
    simp only [e, Prod.mk.injEq, and_true] at h
    subst h
    obtain ⟨l, h1, h2, _⟩ := bk_lines _ _ _ _ _ _ (Nat.le_refl _) e
    have h1 : o = l := by simpa using h1
    subst h1
    simp only [Nat.lt_irrefl, if_false, List.append_nil] at h2
    rw [print, ← h2, flat_join (splitB_ne _ _), join_split, ← last_nl h0 hl]
theorem parse_ok {cmd : B} {m : List Stp} (h : parse cmd = (m, 0)) : (cmd = [] ∧ m = []) ∨ (cmd ≠ [] ∧ cmd.length ≤ 8192 ∧ cmd = cmd.dropLast ++ [10] ∧ ∃ r, bk 0 [] (splitB 10 cmd.dropLast) = .ok m r) := by
  unfold parse at h
  rcases ite_or h with ⟨_, h⟩ | ⟨hb, h⟩
  · cases h
  rcases ite_or h with ⟨rfl, h⟩ | ⟨h0, h⟩
  · cases h; exact .inl ⟨rfl, rfl⟩
  rcases ite_or h with ⟨_, h⟩ | ⟨hl, h⟩
  · cases h
  rcases ite_or h with ⟨_, h⟩ | ⟨_, h⟩
  · cases h
  cases e : bk 0 [] (splitB 10 cmd.dropLast) with
  | err k =>
    simp only [e, Prod.mk.injEq] at h
    obtain ⟨rfl, rfl⟩ := h
    exact absurd rfl (bk_err _ _ _ _ _ (Nat.le_refl _) e)
  | ok o r =>
    simp only [e, Prod.mk.injEq, and_true] at h
    subst h
    exact .inr ⟨h0, by omega, last_nl h0 hl, r, rfl⟩
theorem parse_no {cmd : B} (h : (parse cmd).2 ≠ 0) : (parse cmd).1 = [] := by
  rcases hp : parse cmd with ⟨m, e⟩
  rw [hp] at h
  unfold parse at hp
  rcases ite_or hp with ⟨_, hp⟩ | ⟨_, hp⟩
  · cases hp; rfl
  rcases ite_or hp with ⟨_, hp⟩ | ⟨_, hp⟩
  · cases hp; rfl
  rcases ite_or hp with ⟨_, hp⟩ | ⟨_, hp⟩
  · cases hp; rfl
  rcases ite_or hp with ⟨_, hp⟩ | ⟨_, hp⟩
  · cases hp; rfl
  cases e2 : bk 0 [] (splitB 10 cmd.dropLast) with
  | err k => simp only [e2, Prod.mk.injEq] at hp; exact hp.1.symm
  | ok o r => simp only [e2, Prod.mk.injEq] at hp; exact absurd hp.2.symm h
end Go.Proofs.YtdidnlkilleljaaGreatDoor.Lg
/- LgMach, what a claim needs of it (prune.py). -/
namespace Go.Proofs.YtdidnlkilleljaaGreatDoor.Lg
set_option linter.unusedVariables false
structure Frame where
  op : Int
  args : List B
  n : Int
  out : List Stp
def mach : List Frame → List Stp → List B → Res
  | fs, cur, [] => (match fs with
    | [] => .ok cur []
    | _ :: _ => .err 21)
  | fs, cur, line :: rest =>
    if line = endW then (match fs with
      | [] => .err 21
      | f :: fs => mach fs (f.out ++ [⟨f.op, f.args, f.n, cur⟩]) rest) else
    match stepOf line with
    | none => .err 20
    | some (op, args, n) =>
      if op = 9 ∨ op = 10 then
        if 4 ≤ fs.length then .err 22 else mach (⟨op, args, n, cur⟩ :: fs) [] rest
      else mach fs (cur ++ [⟨op, args, n, []⟩]) rest
def fin : List Frame → Res → Res
  | [], r => r
  | _ :: _, .err e => .err e
  | f :: fs, .ok inn rest => mach fs (f.out ++ [⟨f.op, f.args, f.n, inn⟩]) rest
theorem fin_err (fs : List Frame) (e : Nat) : fin fs (.err e) = .err e := by cases fs <;> rfl
theorem mach_nil (fs : List Frame) (cur : List Stp) : mach fs cur [] = (match fs with
    | [] => .ok cur []
    | _ :: _ => .err 21) := by rw [mach.eq_def]
theorem mach_cons (fs : List Frame) (cur : List Stp) (line : B) (rest : List B) : mach fs cur (line :: rest) =
    if line = endW then (match fs with
      | [] => .err 21
      | f :: fs => mach fs (f.out ++ [⟨f.op, f.args, f.n, cur⟩]) rest) else
    match stepOf line with
    | none => .err 20
    | some (op, args, n) =>
      if op = 9 ∨ op = 10 then
        if 4 ≤ fs.length then .err 22 else mach (⟨op, args, n, cur⟩ :: fs) [] rest
      else mach fs (cur ++ [⟨op, args, n, []⟩]) rest := by rw [mach.eq_def]
theorem mach_fin : ∀ (k : Nat) (fs : List Frame) (cur : List Stp) (lines : List B), lines.length ≤ k → mach fs cur lines = fin fs (bk fs.length cur lines)
  | k, [], cur, [], _ => by rw [bk_nil, mach_nil]; rfl
  | k, f :: fs, cur, [], _ => by rw [bk_nil, mach_nil, if_pos (by simp)]; rfl
  | 0, fs, cur, line :: rest, h => absurd h (by simp)
  | k + 1, fs, cur, line :: rest, h => by
    simp only [List.length_cons] at h
    rw [bk_cons, mach_cons]
    by_cases he : line = endW
    · rw [if_pos he, if_pos he]
      cases fs with
      | nil => simp [fin]
      | cons f fs => simp [fin]
    · rw [if_neg he, if_neg he]
      cases e : stepOf line with
      | none => simp only [fin_err]
      | some x =>
        obtain ⟨op, args, n⟩ := x
        simp only
        by_cases hb : op = 9 ∨ op = 10
        · rw [if_pos hb, if_pos hb]
          by_cases hd : 4 ≤ fs.length
          · rw [if_pos hd, if_pos hd, fin_err]
          · rw [if_neg hd, if_neg hd, mach_fin k _ _ rest (by omega), List.length_cons]
            cases e2 : bk (fs.length + 1) [] rest with
            | err e => rw [fin_err]; simp only [fin_err]
            | ok inn rest' =>
              have hle := bk_le e2
              rw [fin, mach_fin k fs _ rest' (by omega)]
        · rw [if_neg hb, if_neg hb]
          exact mach_fin k fs _ rest (by omega)
theorem mach_bk (lines : List B) : mach [] [] lines = bk 0 [] lines := mach_fin lines.length [] [] lines (Nat.le_refl _)
end Go.Proofs.YtdidnlkilleljaaGreatDoor.Lg
/- LgRow, what a claim needs of it (prune.py). -/
namespace Go.Proofs.YtdidnlkilleljaaGreatDoor.Lg
open Go.RowKit
set_option linter.unusedVariables false
structure BelowX (B x : Nat) (w w' : World) : Prop where
  os : w'.os = w.os
  tape : w'.tape = w.tape
  output : w'.output = w.output
  size : w.heap.size ≤ w'.heap.size
  block : ∀ k, k < B → k ≠ x → w'.heap[k]? = w.heap[k]?
theorem BelowX.of {B x : Nat} {w w' : World} (h : Below B w w') : BelowX B x w w' := ⟨h.os, h.tape, h.output, h.size, fun k hk _ => h.block k hk⟩
theorem BelowX.refl (B x : Nat) (w : World) : BelowX B x w w := .of (Below.refl B w)
theorem BelowX.trans {B x : Nat} {a b c : World} (h : BelowX B x a b) (k : BelowX B x b c) : BelowX B x a c :=
  ⟨k.os.trans h.os, k.tape.trans h.tape, k.output.trans h.output, Nat.le_trans h.size k.size, fun i hi hx => (k.block i hi hx).trans (h.block i hi hx)⟩
theorem BelowX.mono {B B' x : Nat} {w w' : World} (h : BelowX B x w w') (hB : B' ≤ B) : BelowX B' x w w' := ⟨h.os, h.tape, h.output, h.size, fun k hk hx => h.block k (by omega) hx⟩
theorem BelowX.below {B B' x : Nat} {w w' : World} (h : BelowX B x w w') (hB : B' ≤ B) (hx : B' ≤ x) : Below B' w w' := ⟨h.os, h.tape, h.output, h.size, fun k hk => h.block k (by omega) (by omega)⟩
theorem BelowX.drew {B x : Nat} {a w : World} (h : BelowX B x a w) : BelowX B x a w.drew := ⟨h.os, h.tape, h.output, h.size, h.block⟩
theorem BelowX.drewN {B x : Nat} {a w : World} (h : BelowX B x a w) (n : Nat) : BelowX B x a (w.drewN n) := ⟨h.os, h.tape, h.output, h.size, h.block⟩
theorem BelowX.alloc {B x : Nat} {a w : World} (h : BelowX B x a w) (hB : B ≤ w.heap.size) (o : Obj) : BelowX B x a (w.alloc o) := h.trans (.of ((Below.refl _ _).alloc hB o))
theorem BelowX.setCell {B x : Nat} {a w : World} (h : BelowX B x a w) {p : Addr} (hp : B ≤ p.block) (u : Value) : BelowX B x a (w.setCell p u) := h.trans (.of ((Below.refl _ _).setCell hp u))
theorem BelowX.setX {B x : Nat} {a w : World} (h : BelowX B x a w) {p : Addr} (hp : p.block = x) (u : Value) : BelowX B x a (w.setCell p u) :=
  h.trans ⟨rfl, rfl, rfl, by simp [World.setCell], fun k hk hx => Below.heap_setCell _ _ _ _ (by omega)⟩
theorem BelowX.grown {B x : Nat} {a w w' : World} {row : Option Nat} (h : BelowX B x a w) (hg : w.grownBy w' row) (hB : B ≤ w.heap.size) (hr : ∀ k, row = some k → B ≤ k ∨ k = x) : BelowX B x a w' :=
  h.trans ⟨hg.os, hg.tape, hg.output, hg.size, fun k hk hx => hg.block k (by omega) (fun e => by rcases hr k e.symm with h | h <;> omega)⟩
theorem BelowX.cell {B x : Nat} {w w' : World} (h : BelowX B x w w') {p : Addr} (hp : p.block < B) (hx : p.block ≠ x) : w'.cell? p = w.cell? p := World.cell?_of_block (w := w) (h.block p.block hp hx)
def Lies (w : World) (ok : Nat → Prop) (size : Nat) (A : Option Addr) (n : Nat) (xs : List Value) : Prop :=
  xs.length = n * size ∧ (0 < n → ∃ ad, A = some ad ∧ ok ad.block ∧ ∀ j u, xs[j]? = some u → w.cell? (ad.add j) = some u)
theorem Lies.none_ {w : World} {ok : Nat → Prop} {size : Nat} {A : Option Addr} : Lies w ok size A 0 [] := ⟨by simp, fun h => absurd h (by omega)⟩
theorem Lies.mono {w w' : World} {ok ok' : Nat → Prop} {size n : Nat} {A : Option Addr} {xs : List Value} (h : Lies w ok size A n xs) (hs : 0 < size)
    (hk : ∀ b, ok b → b < w.heap.size → ok' b ∧ w'.heap[b]? = w.heap[b]?) : Lies w' ok' size A n xs := by
  refine ⟨h.1, fun hn => ?_⟩
  obtain ⟨ad, rfl, ho, hc⟩ := h.2 hn
  have hl : 0 < xs.length := by rw [h.1]; exact Nat.mul_pos hn hs
  have hb : ad.block < w.heap.size := by
    have := hc 0 _ (List.getElem?_eq_getElem hl)
    have h2 : (ad.add 0).block < w.heap.size := by
      unfold World.cell? at this
      rcases Nat.lt_or_ge (ad.add 0).block w.heap.size with h1 | h1
      · exact h1
      · rw [Array.getElem?_eq_none h1] at this; cases this
    rwa [block_of_add] at h2
  obtain ⟨h1, h2⟩ := hk _ ho hb
  refine ⟨ad, rfl, h1, fun j u hu => ?_⟩
  rw [World.cell?_of_block (w := w) (by rw [block_of_add]; exact h2)]
  exact hc j u hu
theorem Lies.reads {w : World} {ok : Nat → Prop} {size n : Nat} {A : Option Addr} {xs : List Value} (h : Lies w ok size A n xs) (hs : 0 < size) : Reads w w.heap.size size A n xs := by
  have h2 := Lies.mono (w' := w) (ok' := fun b => b < w.heap.size) h hs (fun b _ hb => ⟨hb, rfl⟩)
  exact h2
theorem Lies.of_reads {w : World} {B size n : Nat} {A : Option Addr} {xs : List Value} (h : Reads w B size A n xs) : Lies w (fun b => b < B) size A n xs := h
abbrev strV (l : List B) : List Value := l.map fun s => .string (bs s)
theorem strV_map (l : List B) : strV l = (l.map bs).map Value.string := by simp [strV]
inductive RowAt (w : World) (ok : Nat → Prop) : List Value → List Stp → Prop
  | nil : RowAt w ok [] []
  | cons {op n : Int} {args : List B} {block rest : List Stp} {A B : Option Addr} {k c kb cb : Nat} {bcells cells : List Value} :
      k = args.length → k ≤ c → Lies w ok 1 A k (strV args) → kb = block.length → kb ≤ cb → Lies w ok 4 B kb bcells → RowAt w ok bcells block → RowAt w ok cells rest →
      RowAt w ok (.int .i64 op :: .slice A k c :: .int .i64 n :: .slice B kb cb :: cells) (⟨op, args, n, block⟩ :: rest)
theorem RowAt.mono {w w' : World} {ok ok' : Nat → Prop} {cells : List Value} {l : List Stp} (h : RowAt w ok cells l) (hk : ∀ b, ok b → b < w.heap.size → ok' b ∧ w'.heap[b]? = w.heap[b]?) : RowAt w' ok' cells l := by
  induction h with
  | nil => exact .nil
  | cons h1 h2 h3 h4 h5 h6 _ _ ih1 ih2 => exact .cons h1 h2 (h3.mono (by omega) hk) h4 h5 (h6.mono (by omega) hk) ih1 ih2
theorem RowAt.append {w : World} {ok : Nat → Prop} {c1 c2 : List Value} {l1 l2 : List Stp} (h1 : RowAt w ok c1 l1) (h2 : RowAt w ok c2 l2) : RowAt w ok (c1 ++ c2) (l1 ++ l2) := by
  induction h1 with
  | nil => exact h2
  | cons a1 a2 a3 a4 a5 a6 a7 _ _ ih => exact .cons a1 a2 a3 a4 a5 a6 a7 ih
theorem RowAt.len {w : World} {ok : Nat → Prop} {c : List Value} {l : List Stp} (h : RowAt w ok c l) : c.length = l.length * 4 := by
  induction h with
  | nil => rfl
  | cons a1 a2 a3 a4 a5 a6 a7 _ _ ih => simp only [List.length_cons, ih]; omega
theorem RowAt.one {w : World} {ok : Nat → Prop} {c : List Value} {l : List Stp} (h : RowAt w ok c l) : ∀ u ∈ c, u.oneCell' = true := by
  induction h with
  | nil => simp
  | cons a1 a2 a3 a4 a5 a6 a7 _ _ ih =>
    intro u hu
    simp only [List.mem_cons] at hu
    rcases hu with rfl | rfl | rfl | rfl | hu
    · rfl
    · rfl
    · rfl
    · rfl
    · exact ih u hu
theorem RowAt.at_ {w : World} {ok : Nat → Prop} {cells : List Value} {l : List Stp} (h : RowAt w ok cells l) : ∀ {k : Nat} (hk : k < l.length),
    ∃ A ka ca B kb cb bcells, cells[k * 4]? = some (.int .i64 l[k].op) ∧ cells[k * 4 + 1]? = some (.slice A ka ca) ∧ cells[k * 4 + 2]? = some (.int .i64 l[k].n) ∧ cells[k * 4 + 3]? = some (.slice B kb cb) ∧
      ka = l[k].args.length ∧ ka ≤ ca ∧ Lies w ok 1 A ka (strV l[k].args) ∧ kb = l[k].block.length ∧ kb ≤ cb ∧ Lies w ok 4 B kb bcells ∧ RowAt w ok bcells l[k].block := by
  induction h with
  | nil => intro k hk; simp at hk
  | @cons op n args block rest A B k0 c kb cb bcells cells a1 a2 a3 a4 a5 a6 a7 a8 ih1 ih2 =>
    intro k hk
    cases k with
    | zero => exact ⟨A, k0, c, B, kb, cb, bcells, rfl, rfl, rfl, rfl, a1, a2, a3, a4, a5, a6, a7⟩
    | succ k =>
      obtain ⟨A', ka, ca, B', kb', cb', bc, h1, h2, h3, h4, h5⟩ := ih2 (k := k) (by simpa using hk)
      refine ⟨A', ka, ca, B', kb', cb', bc, ?_, ?_, ?_, ?_, h5⟩
      · rw [show (k + 1) * 4 = k * 4 + 4 by omega]; exact h1
      · rw [show (k + 1) * 4 + 1 = k * 4 + 1 + 4 by omega]; exact h2
      · rw [show (k + 1) * 4 + 2 = k * 4 + 2 + 4 by omega]; exact h3
      · rw [show (k + 1) * 4 + 3 = k * 4 + 3 + 4 by omega]; exact h4
def StepsAt (w : World) (ok : Nat → Prop) (A : Option Addr) (k : Nat) (l : List Stp) : Prop := k = l.length ∧ ∃ cells, Lies w ok 4 A k cells ∧ RowAt w ok cells l
theorem StepsAt.mono {w w' : World} {ok ok' : Nat → Prop} {A : Option Addr} {k : Nat} {l : List Stp} (h : StepsAt w ok A k l) (hk : ∀ b, ok b → b < w.heap.size → ok' b ∧ w'.heap[b]? = w.heap[b]?) : StepsAt w' ok' A k l := by
  obtain ⟨h1, cells, h2, h3⟩ := h
  exact ⟨h1, cells, h2.mono (by omega) hk, h3.mono hk⟩
theorem StepsAt.below {w w' : World} {ok : Nat → Prop} {A : Option Addr} {k : Nat} {l : List Stp} (h : StepsAt w ok A k l) (hb : Below w.heap.size w w') : StepsAt w' ok A k l :=
  h.mono fun b hk hs => ⟨hk, hb.block b hs⟩
theorem StepsAt.at_ {w : World} {ok : Nat → Prop} {A : Option Addr} {l : List Stp} {n : Nat} (h : StepsAt w ok A n l) {k : Nat} (hk : k < l.length) :
    ∃ ad A' ka ca B' kb cb, A = some ad ∧ w.cell? (ad.add (k * 4)) = some (.int .i64 l[k].op) ∧ w.cell? (ad.add (k * 4 + 1)) = some (.slice A' ka ca) ∧ w.cell? (ad.add (k * 4 + 2)) = some (.int .i64 l[k].n) ∧ w.cell? (ad.add (k * 4 + 3)) = some (.slice B' kb cb) ∧
      ka = l[k].args.length ∧ ka ≤ ca ∧ Lies w ok 1 A' ka (strV l[k].args) ∧ kb ≤ cb ∧ StepsAt w ok B' kb l[k].block := by
  obtain ⟨h1, cells, h2, h3⟩ := h
  obtain ⟨ad, rfl, ho, hc⟩ := h2.2 (by omega)
  obtain ⟨A', ka, ca, B', kb, cb, bc, g1, g2, g3, g4, g5, g6, g7, g8, g9, g10, g11⟩ := h3.at_ hk
  exact ⟨ad, A', ka, ca, B', kb, cb, rfl, hc _ _ g1, hc _ _ g2, hc _ _ g3, hc _ _ g4, g5, g6, g7, g9, g8, bc, g10, g11⟩
end Go.Proofs.YtdidnlkilleljaaGreatDoor.Lg
/- LgDigits, what a claim needs of it (prune.py). -/
namespace Go.Proofs.YtdidnlkilleljaaGreatDoor.Lg
open Go.RowKit
set_option linter.unusedVariables false
set_option maxRecDepth 100000
theorem ret_str {a b : ByteArray} (h : a = b) : Ending.returned (.string a) = .returned (.string b) := by rw [h]
theorem bs_size (l : List UInt8) : (bs l).size = l.length := by rw [Lib.size_eq]; rfl
theorem bs_append (a b : List UInt8) : bs a ++ bs b = bs (a ++ b) := by
  apply tl_inj
  simp [tl]
  rfl
theorem nDigits_le {n : Nat} (h : n < 10 ^ 19) : Lib.nDigits n ≤ 19 := by
  rcases Nat.lt_or_ge 19 (Lib.nDigits n) with h2 | h2
  · exfalso
    have key : ∀ k n, n < 10 ^ (k + 1) → Lib.nDigits n ≤ k + 1 := by
      intro k
      induction k with
      | zero => intro n hn; rw [Lib.nDigits_small (by simpa using hn)]; exact Nat.le_refl _
      | succ k ih =>
        intro n hn
        by_cases h10 : n < 10
        · rw [Lib.nDigits_small h10]; omega
        · rw [Lib.nDigits_big h10]
          have := ih (n / 10) (by rw [Nat.pow_succ] at hn; omega)
          omega
    have := key 18 n h
    omega
  · exact h2
theorem dec_len {n : Nat} (h : n < 10 ^ 19) : (Lib.decDigits n).length ≤ 19 := by rw [Lib.decDigits_length]; exact nDigits_le h
end Go.Proofs.YtdidnlkilleljaaGreatDoor.Lg
/- LgSw, what a claim needs of it (prune.py). -/
namespace Go.Proofs.YtdidnlkilleljaaGreatDoor.Lg
open Go.RowKit
set_option linter.unusedVariables false
set_option maxRecDepth 100000
theorem copyCheck_keep (B b : Nat) (bs : List Value) (w : World) (h : Lib.IsBuilder 160 5 B b bs w) :
    Calls Tryz.prog 168 #[.pointer (some ⟨b, 0, none⟩)] w fun e w' => e = .returned (.tuple #[]) ∧ (Lib.BuilderAt 160 5 B b (.pointer (some ⟨b, 0, none⟩)) bs w' ∧ Below B w w') ∧ ∀ k, k ≠ b → w'.heap[k]? = w.heap[k]? := by
  rcases h with h | h
  · refine (copyCheck_fresh b w h.cell0 h.shape h.frozen0).mono ?_
    rintro e w' ⟨rfl, rfl⟩
    exact ⟨rfl, ⟨h.used _, (Below.refl B w).setCell (p := ⟨b, 0, none⟩) h.1 _⟩, fun k hk => Below.heap_setCell w ⟨b, 0, none⟩ _ k hk⟩
  · refine (copyCheck_used b w h.cell0).mono ?_
    rintro e w' ⟨rfl, rfl⟩
    exact ⟨rfl, ⟨h, Below.refl B _⟩, fun _ _ => rfl⟩
set_option maxHeartbeats 2000000 in
theorem WriteString_keep (B b : Nat) (l : List UInt8) (S : ByteArray) (w : World) (h : SbAt B b l w) (hlen : l.length + S.size ≤ 140737488355328) (hBw : B ≤ w.heap.size) :
    Calls Tryz.prog 108 #[.pointer (some ⟨b, 0, none⟩), .string S] w fun e w' => e = .returned (.tuple #[.int .i64 S.size, .nilIface]) ∧ SbAt B b (l ++ S.data.toList) w' ∧ Below B w w' ∧
      ∀ k, k < w.heap.size → k ≠ b → (∀ cs fr, w.heap[k]? ≠ some (.cells cs 5 fr)) → w'.heap[k]? = w.heap[k]? := by
  have hS : (S.size : Int) ≤ 140737488355328 := by omega
  have CK := Lib.hid (copyCheck_keep B b _ _ h)
  clear h
  go_enter Tryz.func108, Tryz.ntmps108
  go_upto_region 2 with (go_at_call 168; ((with_reducible refine (CK.out).mono ?_); rintro e w1 ⟨rfl, ⟨h1, hb1⟩, hk1⟩))
  obtain ⟨hB, v, hbk, hown, hne⟩ := h1
  rw [show (Lib.byteCells l).length = l.length by simp [Lib.byteCells]] at hown
  have c0 : w1.cell? ⟨b, 0, none⟩ = some (.pointer (some ⟨b, 0, none⟩)) := by rw [Lib.cell_of_heap hbk]; rfl
  have c1 : w1.cell? ⟨b, 1, none⟩ = some v := by rw [Lib.cell_of_heap hbk]; rfl
  have hs1 : B ≤ w1.heap.size := Nat.le_trans hBw hb1.size
  have hlt : b < w1.heap.size := lt_heap hbk
  have HK := Lib.hid hk1
  clear hk1
  go_wp2_with (at_builtin; refine append_text rfl (.tmp 12) (.tmp 13) 94 9 rfl B 5 Tryz.underlying94 Tryz.underlying9 (by kernel_rfl) v l.length l rfl hown S rfl hlen hs1 hb1 ?_; intro v' w2 hown2 hb2 hoth; have hbk2 := (hoth b hlt (fun e => hne e.symm)).trans hbk; have d1 : w2.cell? ⟨b, 1, none⟩ = some v := (cell_heap hbk2 1).trans rfl; have f1 : w2.frozen? ⟨b, 1, none⟩ = false := frozen_heap hbk2 1; obtain ⟨p, m, c, rfl⟩ := own_form hown2; have HO := Lib.hid hoth; clear hoth)
  go_ret2
  refine ⟨rfl, Or.inr ?_, ?_, fun k hks hkb hku => ?_⟩
  · refine Lib.BuilderAt.put hB hbk2 ?_ (by decide)
    rw [show (Lib.byteCells (l ++ S.data.toList)).length = l.length + S.size by simp [Lib.byteCells]]
    exact hown2
  · exact hb2.setCell (p := ⟨b, 1, none⟩) hB _
  · rw [Below.heap_setCell _ ⟨b, 1, none⟩ _ k hkb]
    have hk1 := HK.out k hkb
    refine (HO.out k (Nat.lt_of_lt_of_le hks hb1.size) (fun e => ?_)).trans hk1
    rcases hown.2 with ⟨hv, _⟩ | ⟨g, cc, cur, hv, _, hh, _⟩
    · rw [hv] at e; cases e
    · rw [hv] at e
      injection e with e
      simp only at e
      subst e
      exact hku _ _ (hk1.symm.trans hh)
theorem own_later {w w' : World} {B : Nat} {e : TypeId} {size : Nat} {v : Value} {n : Nat} {xs : List Value} (h : w.ownsRow B e size v n xs) (k : Below w.heap.size w w') : w'.ownsRow B e size v n xs := by
  refine ⟨h.1, ?_⟩
  rcases h.2 with h0 | ⟨g, cap, cur, hv, hg, hc, h1, h2, h3, h4⟩
  · exact .inl h0
  · exact .inr ⟨g, cap, cur, hv, hg, heap_below k (lt_heap hc) hc, h1, h2, h3, h4⟩
theorem SbAt.later {w w' : World} {B b : Nat} {l : List UInt8} (h : SbAt B b l w) (k : Below w.heap.size w w') : SbAt B b l w' := by
  rcases h with ⟨hB, v, hb, ho, hn⟩ | ⟨hB, v, hb, ho, hn⟩
  · exact .inl ⟨hB, v, heap_below k (lt_heap hb) hb, own_later ho k, hn⟩
  · exact .inr ⟨hB, v, heap_below k (lt_heap hb) hb, own_later ho k, hn⟩
theorem bstring_any (B b : Nat) (l : List UInt8) (w : World) (h : SbAt B b l w) (hBw : B ≤ w.heap.size) :
    Calls Tryz.prog 111 #[.pointer (some ⟨b, 0, none⟩)] w fun e w' => e = .returned (.string (bs l)) ∧ Below B w w' := Tryz.Builder_String_any B b l w h hBw
def LpAt (w W : World) (bb gw : Nat) (wc : Array Value) (s : List UInt8) : Prop :=
  SbAt w.heap.size bb s W ∧ W.heap[gw]? = some (.cells wc 9 (0, 0)) ∧ Below w.heap.size w W ∧ bb ≠ gw
theorem LpAt.on {w W W' : World} {bb gw : Nat} {wc : Array Value} {s : List UInt8} (h : LpAt w W bb gw wc s) (hb : Below W.heap.size W W') : LpAt w W' bb gw wc s :=
  ⟨SbAt.later h.1 hb, heap_below hb (lt_heap h.2.1) h.2.1, h.2.2.1.trans (hb.mono h.2.2.1.size), h.2.2.2⟩
theorem LpAt.below {w W : World} {bb gw : Nat} {wc : Array Value} {s : List UInt8} (h : LpAt w W bb gw wc s) : Below w.heap.size w W := h.2.2.1
theorem LpAt.write {w W : World} {bb gw : Nat} {wc : Array Value} {s : List UInt8} (h : LpAt w W bb gw wc s) (S : ByteArray) (hl : s.length + S.size ≤ 140737488355328) :
    Calls Tryz.prog 108 #[.pointer (some ⟨bb, 0, none⟩), .string S] W fun e w' => e = .returned (.tuple #[.int .i64 S.size, .nilIface]) ∧ LpAt w w' bb gw wc (s ++ S.data.toList) ∧
      ∀ k cs, k ≠ bb → W.heap[k]? = some (.cells cs 61 (0, 0)) → w'.heap[k]? = some (.cells cs 61 (0, 0)) := by
  refine (WriteString_keep w.heap.size bb s S W h.1 hl h.2.2.1.size).mono ?_
  rintro e w' ⟨rfl, h1, h2, h3⟩
  refine ⟨rfl, ⟨h1, (h3 gw (lt_heap h.2.1) (fun e => h.2.2.2 e.symm) (fun cs fr e => ?_)).trans h.2.1, h.2.2.1.trans h2, h.2.2.2⟩, fun k cs hk hc => (h3 k (lt_heap hc) hk (fun cs fr e => ?_)).trans hc⟩
  · rw [h.2.1] at e
    injection e with e
    injection e with _ e
    exact absurd e (by decide)
  · rw [hc] at e
    injection e with e
    injection e with _ e
    exact absurd e (by decide)
end Go.Proofs.YtdidnlkilleljaaGreatDoor.Lg
/- LgText, what a claim needs of it (prune.py). -/
namespace Go.Proofs.YtdidnlkilleljaaGreatDoor.Lg
open Go.RowKit
set_option linter.unusedVariables false
set_option maxRecDepth 100000
def okTo (s : ByteArray) (k : Nat) : Bool := decide (1 ≤ s.size) && decide (s.size ≤ 32) && ((tl s).take k).all printable
theorem okTo_zero (s : ByteArray) : okTo s 0 = (decide (1 ≤ s.size) && decide (s.size ≤ 32)) := by simp [okTo]
theorem okTo_next {s : ByteArray} {k : Nat} (hk : k < s.size) : okTo s (k + 1) = (okTo s k && printable (s[k]'hk)) := by simp [okTo, all_next hk, Bool.and_assoc]
theorem okTo_end (s : ByteArray) : okTo s s.size = textOk (tl s) := by simp only [okTo, textOk, take_all, tl_len]
set_option maxHeartbeats 1000000 in
theorem text_any (s : ByteArray) (hs : s.size ≤ 1000000000) (w : World) :
    Calls Tryz.prog 143 #[.string s] w fun e w' => e = .returned (.bool (textOk (tl s))) ∧ w = w' := by
  have FIN := Lib.hid (okTo_end s)
  have NX : Hid (∀ k (hk : k < s.size), okTo s (k + 1) = (okTo s k && printable (s[k]'hk))) := Lib.hid (fun k hk => okTo_next hk)
  by_cases h0 : s.size = 0
  · obtain rfl := empty_of h0
    have : textOk (tl ⟨#[]⟩) = false := rfl
    go_enter Tryz.func143, Tryz.ntmps143
    go_wp2_with (fail)
    go_loop [3, 14] (fun v i => v = .bool false ∧ i = .int .i64 0) (fun _ i => 0)
    case atStart => exact ⟨rfl, rfl⟩
    case round =>
      obtain ⟨rfl, rfl⟩ := hrel
      go_wp2_with (fail)
      go_ret
      exact ⟨ret_bool this, rfl⟩
  · have hne := some_ne h0
    have h1 : 0 < s.size := by omega
    have HZ := Lib.hid (okTo_zero s)
    by_cases h32 : s.size ≤ 32
    · have hle : (s.size : Int) ≤ 32 := by omega
      have Z1 : Hid (okTo s 0 = true) := Lib.hid (by rw [HZ.out]; simp; omega)
      clear h32
      go_enter Tryz.func143, Tryz.ntmps143
      go_wp2_with (fail)
      go_loop [3, 14] (fun v i => ∃ k : Nat, v = .bool (okTo s k) ∧ i = .int .i64 k ∧ k ≤ s.size) (fun _ i => s.size - (intOf i).toNat)
      case atStart => exact ⟨0, by rw [Z1.out], rfl, by omega⟩
      case round =>
        obtain ⟨k, rfl, rfl, hk⟩ := hrel
        by_cases hlt : k < s.size
        · have hkI : (k : Int) < (s.size : Int) := by omega
          have N1 := Lib.hid (NX.out k hlt)
          cases e : okTo s k
          · go_wp2_with (fail)
            go_round
            case rel => exact ⟨k + 1, by rw [N1.out, e]; rfl, by go_num, by omega⟩
            case measure => simp [intOf]; omega
          · by_cases c1 : 33 ≤ (s[k]'hlt).toNat
            · have c2 : (32 : Int) < ((s[k]'hlt).toNat : Int) := by omega
              by_cases c3 : (s[k]'hlt).toNat ≤ 126
              · have c4 : ((s[k]'hlt).toNat : Int) ≤ 126 := by omega
                go_wp2_with (fail)
                go_round
                case rel => exact ⟨k + 1, by rw [N1.out, e]; simp [printable, c1, c3], by go_num, by omega⟩
                case measure => simp [intOf]; omega
              · have c4 : ¬ ((s[k]'hlt).toNat : Int) ≤ 126 := by omega
                go_wp2_with (fail)
                go_round
                case rel => exact ⟨k + 1, by rw [N1.out, e]; simp [printable, c3], by go_num, by omega⟩
                case measure => simp [intOf]; omega
            · have c2 : ¬ (32 : Int) < ((s[k]'hlt).toNat : Int) := by omega
              go_wp2_with (fail)
              go_round
              case rel => exact ⟨k + 1, by rw [N1.out, e]; simp [printable, c1], by go_num, by omega⟩
              case measure => simp [intOf]; omega
        · obtain rfl : k = s.size := by omega
          go_wp2_with (fail)
          go_ret
          exact ⟨ret_bool FIN.out.symm, rfl⟩
    · have hle : ¬ (s.size : Int) ≤ 32 := by omega
      have Z1 : Hid (∀ k, okTo s k = false) := Lib.hid (fun k => by simp [okTo, h32])
      clear h32
      go_enter Tryz.func143, Tryz.ntmps143
      go_wp2_with (fail)
      go_loop [3, 14] (fun v i => ∃ k : Nat, v = .bool false ∧ i = .int .i64 k ∧ k ≤ s.size) (fun _ i => s.size - (intOf i).toNat)
      case atStart => exact ⟨0, rfl, rfl, by omega⟩
      case round =>
        obtain ⟨k, rfl, rfl, hk⟩ := hrel
        by_cases hlt : k < s.size
        · have hkI : (k : Int) < (s.size : Int) := by omega
          go_wp2_with (fail)
          go_round
          case rel => exact ⟨k + 1, rfl, by go_num, by omega⟩
          case measure => simp [intOf]; omega
        · obtain rfl : k = s.size := by omega
          go_wp2_with (fail)
          go_ret
          exact ⟨ret_bool (by rw [← FIN.out, Z1.out]), rfl⟩
end Go.Proofs.YtdidnlkilleljaaGreatDoor.Lg
/- LgName, what a claim needs of it (prune.py). -/
namespace Go.Proofs.YtdidnlkilleljaaGreatDoor.Lg
open Go.RowKit
set_option linter.unusedVariables false
set_option maxRecDepth 100000
theorem nb_cases (c : UInt8) :
    (nameByte c = true ∧ ((((c.toNat : Int) != 45) = false) ∨ (((c.toNat : Int) != 45) = true ∧ ((c.toNat : Int) != 95) = false) ∨ (((c.toNat : Int) != 45) = true ∧ ((c.toNat : Int) != 95) = true ∧ ¬ (c.toNat : Int) < 48 ∧ ¬ (57 : Int) < c.toNat)
      ∨ (((c.toNat : Int) != 45) = true ∧ ((c.toNat : Int) != 95) = true ∧ ¬ (c.toNat : Int) < 48 ∧ (57 : Int) < c.toNat ∧ ¬ (c.toNat : Int) < 97 ∧ ¬ (122 : Int) < c.toNat))) ∨
    (nameByte c = false ∧ ((((c.toNat : Int) != 45) = true ∧ ((c.toNat : Int) != 95) = true ∧ (c.toNat : Int) < 48 ∧ (c.toNat : Int) < 97)
      ∨ (((c.toNat : Int) != 45) = true ∧ ((c.toNat : Int) != 95) = true ∧ ¬ (c.toNat : Int) < 48 ∧ (57 : Int) < c.toNat ∧ (c.toNat : Int) < 97)
      ∨ (((c.toNat : Int) != 45) = true ∧ ((c.toNat : Int) != 95) = true ∧ ¬ (c.toNat : Int) < 48 ∧ (57 : Int) < c.toNat ∧ ¬ (c.toNat : Int) < 97 ∧ (122 : Int) < c.toNat))) := by
  have h45 : (c == 45) = decide (c.toNat = 45) := by rw [Bool.eq_iff_iff]; simp [← UInt8.toNat_inj]
  have h95 : (c == 95) = decide (c.toNat = 95) := by rw [Bool.eq_iff_iff]; simp [← UInt8.toNat_inj]
  unfold nameByte
  rw [h45, h95]
  generalize c.toNat = n
  simp only [Bool.or_eq_true, Bool.and_eq_true, decide_eq_true_eq, Bool.or_eq_false_iff, Bool.and_eq_false_iff, decide_eq_false_iff_not, bne_iff_ne, bne_eq_false_iff_eq]
  omega
def nameE (s : List UInt8) : Int := if nameOk s = true then 0 else 14
theorem nameE_no {s : ByteArray} (h : s.size < 1 ∨ 16 < s.size) : nameE (tl s) = 14 := by
  have : nameOk (tl s) = false := by
    have e : (decide (1 ≤ s.size) && decide (s.size ≤ 16)) = false := by
      simp only [Bool.and_eq_false_iff, decide_eq_false_iff_not]; omega
    unfold nameOk
    rw [tl_len, e]; rfl
  rw [nameE, this]; rfl
theorem nameE_bad {s : ByteArray} {k : Nat} (hk : k < s.size) (h : nameByte (s[k]'hk) = false) : nameE (tl s) = 14 := by
  have : nameOk (tl s) = false := by
    cases e : nameOk (tl s) with
    | false => rfl
    | true =>
      simp only [nameOk, Bool.and_eq_true, List.all_eq_true] at e
      have := e.2 (s[k]'hk) (List.mem_of_getElem? (tl_get hk))
      rw [h] at this; cases this
  rw [nameE, this]; rfl
theorem nameE_ok {s : ByteArray} (h1 : 1 ≤ s.size) (h2 : s.size ≤ 16) (h : ((tl s).take s.size).all nameByte = true) : nameE (tl s) = 0 := by
  rw [take_all] at h
  have : nameOk (tl s) = true := by
    rw [nameOk, h, tl_len]; simp; omega
  rw [nameE, this]; rfl
theorem pname_any (s : ByteArray) (hs : s.size ≤ 1000000000) (w : World) :
    Calls Tryz.prog 37 #[.string s] w fun e w' => e = .returned (.int .i64 (nameE (tl s))) ∧ w = w' := by
  by_cases h0 : s.size = 0
  · have HN := Lib.hid (nameE_no (s := s) (.inl (by omega)))
    obtain rfl := empty_of h0
    go_enter Tryz.func37, Tryz.ntmps37
    go_wp2_with (fail)
    go_ret
    exact ⟨ret_int HN.out, rfl⟩
  · have hne := some_ne h0
    by_cases h16 : (16 : Int) < (s.size : Int)
    · have HN := Lib.hid (nameE_no (s := s) (.inr (by omega)))
      go_enter Tryz.func37, Tryz.ntmps37
      go_wp2_with (fail)
      go_ret
      exact ⟨ret_int HN.out, rfl⟩
    · have OK := Lib.hid (nameE_ok (s := s) (by omega) (by omega))
      have BAD : Hid (∀ k (hk : k < s.size), nameByte (s[k]'hk) = false → nameE (tl s) = 14) := Lib.hid (fun k hk h => nameE_bad hk h)
      have NX : Hid (∀ k (hk : k < s.size), ((tl s).take (k + 1)).all nameByte = (((tl s).take k).all nameByte && nameByte (s[k]'hk))) := Lib.hid (fun k hk => all_next hk)
      go_enter Tryz.func37, Tryz.ntmps37
      go_wp2_with (fail)
      go_loop [14] (fun i => ∃ k : Nat, i = .int .i64 k ∧ k ≤ s.size ∧ ((tl s).take k).all nameByte = true) (fun i => s.size - (intOf i).toNat)
      case atStart => exact ⟨0, rfl, by omega, by simp⟩
      case round =>
        obtain ⟨k, rfl, hk, ha⟩ := hrel
        have HA := Lib.hid ha
        clear ha
        by_cases hlt : k < s.size
        · have hkI : (k : Int) < (s.size : Int) := by omega
          have N1 := Lib.hid (NX.out k hlt)
          rcases nb_cases (s[k]'hlt) with ⟨hb, hc⟩ | ⟨hb, hc⟩
          · have HB := Lib.hid hb
            clear hb
            rcases hc with h1 | ⟨h1, h2⟩ | ⟨h1, h2, h3, h4⟩ | ⟨h1, h2, h3, h4, h5, h6⟩
            all_goals
              go_wp2_with (fail)
              go_round
              case rel => exact ⟨k + 1, by go_num, by omega, by rw [N1.out, HA.out, HB.out]; rfl⟩
              case measure => simp [intOf]; omega
          · have HB := Lib.hid (BAD.out k hlt hb)
            clear hb
            rcases hc with ⟨h1, h2, h3, h4⟩ | ⟨h1, h2, h3, h4, h5⟩ | ⟨h1, h2, h3, h4, h5, h6⟩
            all_goals
              go_wp2_with (fail)
              go_ret
              exact ⟨ret_int HB.out, rfl⟩
        · obtain rfl : k = s.size := by omega
          go_wp2_with (fail)
          go_ret
          exact ⟨ret_int (OK.out HA.out), rfl⟩
end Go.Proofs.YtdidnlkilleljaaGreatDoor.Lg
