/- What a step's function answers, and small laws for its walks. -/
import Derived.Test.YtoofflnaebkigaaDoorLgAll
import Derived.Test.YtoofflnaebkigaaDoorLgRow
import Derived.Test.YtoofflnaebkigaaDoorLgStepW
import Derived.Test.YtoofflnaebkigaaDoorLgCells
import Derived.Laws.ResultCell
import Derived.Laws.Rows
import Derived.Laws.NewBlocks
namespace Go.Proofs.YtoofflnaebkigaaDoor.Lg
open Go.RowKit
set_option linter.unusedVariables false
/-- what a step's function answers: a step without its block, and whether it is one -/
def StepSays (w' : World) (ok : Nat → Prop) (ws : List B) (e : Ending) : Prop :=
  ∃ (op : Int) (A : Option Addr) (k c : Nat) (n : Int) (g : Bool), e = .returned (.tuple #[.agg #[.int .i64 op, .slice A k c, .int .i64 n, .slice none 0 0], .bool g]) ∧ k ≤ c ∧
    match stepW ws with
    | none => g = false
    | some (o, xs, m) => g = true ∧ op = o ∧ n = m ∧ k = xs.length ∧ Lies w' ok 1 A k (strV xs)
theorem StepSays.bad {w' : World} {ok : Nat → Prop} {ws : List B} (h : stepW ws = none) {op n : Int} {A : Option Addr} {k c : Nat} (hk : k ≤ c) :
    StepSays w' ok ws (.returned (.tuple #[.agg #[.int .i64 op, .slice A k c, .int .i64 n, .slice none 0 0], .bool false])) :=
  ⟨op, A, k, c, n, false, rfl, hk, by rw [h]⟩
theorem StepSays.good {w' : World} {ok : Nat → Prop} {ws : List B} {op n : Int} {xs : List B} (h : stepW ws = some (op, xs, n)) {A : Option Addr} {k c : Nat} (hk : k ≤ c) (hx : k = xs.length) (hl : Lies w' ok 1 A k (strV xs)) :
    StepSays w' ok ws (.returned (.tuple #[.agg #[.int .i64 op, .slice A k c, .int .i64 n, .slice none 0 0], .bool true])) :=
  ⟨op, A, k, c, n, true, rfl, hk, by rw [h]; exact ⟨rfl, rfl, rfl, hx, hl⟩⟩
/-- words with paths behind them -/
theorem StepSays.paths {w' : World} {ok : Nat → Prop} {ws : List B} {op : Int} {xs : List B} {lo hi N : Nat} {p : Bool} (h : stepW ws = if lo ≤ N ∧ N ≤ hi ∧ p = true then some (op, xs, 0) else none) {A : Option Addr} (hx : N = xs.length) (hl : Lies w' ok 1 A N (strV xs)) :
    StepSays w' ok ws (.returned (.tuple #[.agg #[.int .i64 op, .slice A N N, .int .i64 0, .slice none 0 0], .bool (decide (lo ≤ N) && decide (N ≤ hi) && p)])) := by
  by_cases hc : lo ≤ N ∧ N ≤ hi ∧ p = true
  · rw [if_pos hc] at h
    rw [decide_eq_true hc.1, decide_eq_true hc.2.1, hc.2.2]
    exact .good h (Nat.le_refl _) hx hl
  · rw [if_neg hc] at h
    have e : (decide (lo ≤ N) && decide (N ≤ hi) && p) = false := by
      by_cases h1 : lo ≤ N
      · by_cases h2 : N ≤ hi
        · cases p with
          | false => simp
          | true => exact absurd ⟨h1, h2, rfl⟩ hc
        · simp [h2]
      · simp [h1]
    rw [e]
    exact .bad h (Nat.le_refl _)
theorem if_one {N K : Nat} {p : Bool} {α : Type} {x y : α} : (if N = K ∧ p = true then x else y) = if K ≤ N ∧ N ≤ K ∧ p = true then x else y := by
  by_cases h : N = K
  · subst h; simp
  · rw [if_neg (fun e => h e.1), if_neg (fun e => h (by omega))]
theorem allP_map (l : List ByteArray) : (l.map tl).all pathOk = allP l := by rw [List.all_map]; rfl
theorem len_map (l : List ByteArray) : (l.map tl).length = l.length := List.length_map ..
theorem strV_tl (l : List ByteArray) : strV (l.map tl) = l.map Value.string := by simp [strV, bs_tl, Function.comp_def]
/-- the words behind the first -/
theorem Strs.tail {w : World} {ad : Addr} {x y : ByteArray} {l : List ByteArray} (h : Strs w (some ad) (x :: y :: l)) : Strs w (some ⟨ad.block, ad.off + 1, none⟩) (y :: l) := by
  have h2 := Reads.cut (k := 1) (cap := (x :: y :: l).length) h (by simp) (Nat.le_refl _)
  rw [if_neg (by simp)] at h2
  exact h2
theorem Strs.head {w : World} {A : Option Addr} {x : ByteArray} {l : List ByteArray} (h : Strs w A (x :: l)) : Strs w A [x] := by
  refine ⟨by simp, fun _ => ?_⟩
  obtain ⟨ad, e, hb, hc⟩ := h.2 (by simp)
  refine ⟨ad, e, hb, fun j u hj => hc j u ?_⟩
  cases j with
  | zero => simpa using hj
  | succ j => simp at hj
theorem Strs.lies {w w' : World} {ad : Addr} {l : List ByteArray} (h : Strs w (some ad) l) (hb : Below w.heap.size w w') : Lies w' (fun b => b = ad.block) 1 (some ad) l.length (strV (l.map tl)) := by
  rw [strV_tl]
  have h2 : Lies w (fun b => b = ad.block) 1 (some ad) l.length (l.map Value.string) := by
    refine ⟨h.1, fun hn => ?_⟩
    obtain ⟨ad', e, _, hc⟩ := h.2 hn
    injection e with e
    subst e
    exact ⟨ad, rfl, rfl, hc⟩
  exact h2.mono (by omega) fun b ho hs => ⟨ho, hb.block b hs⟩
end Go.Proofs.YtoofflnaebkigaaDoor.Lg
