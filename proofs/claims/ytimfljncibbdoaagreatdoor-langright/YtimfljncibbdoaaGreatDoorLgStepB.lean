/- What a step's function answers, and small laws for its walks. -/
import Derived.Test.YtimfljncibbdoaaGreatDoorLgAll
import Derived.Test.YtimfljncibbdoaaGreatDoorLgRow
import Derived.Test.YtimfljncibbdoaaGreatDoorLgStepW
import Derived.Laws.ResultCell
import Derived.Laws.Rows
import Derived.Laws.NewBlocks
namespace Go.Proofs.YtimfljncibbdoaaGreatDoor.Lg
open Go.RowKit
set_option linter.unusedVariables false
theorem results_cell_row2 {P : Program} {fn : Func} {p u : Tmp} {ty : TypeId} (h : fn.results = #[.cell p ty, .tmp u]) (tmps : Array Value) (w : World) (g : Nat) (t : TypeId) (cs : Array Value) (fr : Nat × Nat) (d : TypeDesc)
    (hp : tmps.getD p undef = .pointer (some ⟨g, 0, none⟩)) (hg : w.heap[g]? = some (.cells cs t fr))
    (hu : P.underlying ty = some d) (hd : (match d with | .struct _ | .array _ _ => true | _ => false) = true) (hi : (P.info? ty).map (·.size) = some cs.size) :
    (results fn tmps).run P w = .ok (.tuple #[.agg cs, tmps.getD u undef]) w := by
  rw [results_cell_tmp h, hp]
  simp [asAddr, run_loadVar_row w g t ty cs fr d hg hu hd hi, Result.andThen]
theorem heap_two {w : World} {A C : Obj} : ((w.alloc A).alloc C).heap[w.heap.size]? = some A := by
  rw [Below.heap_alloc _ _ _ (by simp)]
  exact heap_alloc_new _ _
/-- what a step's function answers: a step without its block, and whether it is one -/
def StepSays (w' : World) (ok : Nat → Prop) (ws : List B) (e : Ending) : Prop :=
  ∃ (op : Int) (A : Option Addr) (k c : Nat) (n : Int) (g : Bool), e = .returned (.tuple #[.agg #[.int .i64 op, .slice A k c, .int .i64 n, .slice none 0 0], .bool g]) ∧ k ≤ c ∧
    match stepW ws with
    | none => g = false
    | some (o, xs, m) => g = true ∧ op = o ∧ n = m ∧ k = xs.length ∧ Lies w' ok 1 A k (strV xs)
theorem StepSays.bad {w' : World} {ok : Nat → Prop} {ws : List B} (h : stepW ws = none) {op n : Int} {A : Option Addr} {k c : Nat} (hk : k ≤ c) :
    StepSays w' ok ws (.returned (.tuple #[.agg #[.int .i64 op, .slice A k c, .int .i64 n, .slice none 0 0], .bool false])) :=
  ⟨op, A, k, c, n, false, rfl, hk, by rw [h]⟩
theorem StepSays.good {w' : World} {ok : Nat → Prop} {ws : List B} {op n : Int} {xs : List B} (h : stepW ws = some (op, xs, n)) {A : Option Addr} {k c : Nat} (hk : k ≤ c) (hx : k = xs.length) (hl : Lies w' ok 1 A k (strV xs)) :
    StepSays w' ok ws (.returned (.tuple #[.agg #[.int .i64 op, .slice A k c, .int .i64 n, .slice none 0 0], .bool true])) :=
  ⟨op, A, k, c, n, true, rfl, hk, by rw [h]; exact ⟨rfl, rfl, rfl, hx, hl⟩⟩
theorem four {w : World} {g : Nat} {a b c d : Value} {T : TypeId} (h : w.heap[g]? = some (.cells #[a, b, c, d] T (0, 0))) :
    w.cell? ⟨g, 0, none⟩ = some a ∧ w.cell? ⟨g, 1, none⟩ = some b ∧ w.cell? ⟨g, 2, none⟩ = some c ∧ w.cell? ⟨g, 3, none⟩ = some d ∧
    w.frozen? ⟨g, 0, none⟩ = false ∧ w.frozen? ⟨g, 1, none⟩ = false ∧ w.frozen? ⟨g, 2, none⟩ = false ∧ w.frozen? ⟨g, 3, none⟩ = false :=
  ⟨cell_of_row w g 0 _ _ _ h, cell_of_row w g 1 _ _ _ h, cell_of_row w g 2 _ _ _ h, cell_of_row w g 3 _ _ _ h, frozen_of_row w _ 0 _ _ h, frozen_of_row w _ 1 _ _ h, frozen_of_row w _ 2 _ _ h, frozen_of_row w _ 3 _ _ h⟩
theorem set4 {w : World} {g : Nat} {a b c d : Value} {T : TypeId} (h : w.heap[g]? = some (.cells #[a, b, c, d] T (0, 0))) (a' b' c' d' : Value) :
    ((((w.setCell ⟨g, 0, none⟩ a').setCell ⟨g, 1, none⟩ b').setCell ⟨g, 2, none⟩ c').setCell ⟨g, 3, none⟩ d').heap[g]? = some (.cells #[a', b', c', d'] T (0, 0)) := by
  have q0 := heap_setCell_same _ _ 0 _ _ a' h
  have q1 := heap_setCell_same _ _ 1 _ _ b' q0
  have q2 := heap_setCell_same _ _ 2 _ _ c' q1
  exact heap_setCell_same _ _ 3 _ _ d' q2
theorem set4_other (w : World) (g k : Nat) (hk : k ≠ g) (a' b' c' d' : Value) :
    ((((w.setCell ⟨g, 0, none⟩ a').setCell ⟨g, 1, none⟩ b').setCell ⟨g, 2, none⟩ c').setCell ⟨g, 3, none⟩ d').heap[k]? = w.heap[k]? := by
  rw [Below.heap_setCell _ _ _ _ hk, Below.heap_setCell _ _ _ _ hk, Below.heap_setCell _ _ _ _ hk, Below.heap_setCell _ _ _ _ hk]
theorem set4_below {B : Nat} {w0 w : World} (h : Below B w0 w) {g : Nat} (hg : B ≤ g) (a' b' c' d' : Value) :
    Below B w0 ((((w.setCell ⟨g, 0, none⟩ a').setCell ⟨g, 1, none⟩ b').setCell ⟨g, 2, none⟩ c').setCell ⟨g, 3, none⟩ d') :=
  (((h.setCell hg _).setCell hg _).setCell hg _).setCell hg _
/-- words with paths behind them -/
theorem StepSays.paths {w' : World} {ok : Nat → Prop} {ws : List B} {op : Int} {xs : List B} {lo hi N : Nat} {p : Bool} (h : stepW ws = if lo ≤ N ∧ N ≤ hi ∧ p = true then some (op, xs, 0) else none) {A : Option Addr} (hx : N = xs.length) (hl : Lies w' ok 1 A N (strV xs)) :
    StepSays w' ok ws (.returned (.tuple #[.agg #[.int .i64 op, .slice A N N, .int .i64 0, .slice none 0 0], .bool (decide (lo ≤ N) && decide (N ≤ hi) && p)])) := by
  by_cases hc : lo ≤ N ∧ N ≤ hi ∧ p = true
  · rw [if_pos hc] at h
    rw [decide_eq_true hc.1, decide_eq_true hc.2.1, hc.2.2]
    exact .good h (Nat.le_refl _) hx hl
  · rw [if_neg hc] at h
    have e : (decide (lo ≤ N) && decide (N ≤ hi) && p) = false := by
      by_cases h1 : lo ≤ N
      · by_cases h2 : N ≤ hi
        · cases p with
          | false => simp
          | true => exact absurd ⟨h1, h2, rfl⟩ hc
        · simp [h2]
      · simp [h1]
    rw [e]
    exact .bad h (Nat.le_refl _)
theorem if_one {N K : Nat} {p : Bool} {α : Type} {x y : α} : (if N = K ∧ p = true then x else y) = if K ≤ N ∧ N ≤ K ∧ p = true then x else y := by
  by_cases h : N = K
  · subst h; simp
  · rw [if_neg (fun e => h e.1), if_neg (fun e => h (by omega))]
theorem allP_map (l : List ByteArray) : (l.map tl).all pathOk = allP l := by rw [List.all_map]; rfl
theorem len_map (l : List ByteArray) : (l.map tl).length = l.length := List.length_map ..
theorem strV_tl (l : List ByteArray) : strV (l.map tl) = l.map Value.string := by simp [strV, bs_tl, Function.comp_def]
/-- the words behind the first -/
theorem Strs.tail {w : World} {ad : Addr} {x y : ByteArray} {l : List ByteArray} (h : Strs w (some ad) (x :: y :: l)) : Strs w (some ⟨ad.block, ad.off + 1, none⟩) (y :: l) := by
  have h2 := Reads.cut (k := 1) (cap := (x :: y :: l).length) h (by simp) (Nat.le_refl _)
  rw [if_neg (by simp)] at h2
  exact h2
theorem Strs.head {w : World} {A : Option Addr} {x : ByteArray} {l : List ByteArray} (h : Strs w A (x :: l)) : Strs w A [x] := by
  refine ⟨by simp, fun _ => ?_⟩
  obtain ⟨ad, e, hb, hc⟩ := h.2 (by simp)
  refine ⟨ad, e, hb, fun j u hj => hc j u ?_⟩
  cases j with
  | zero => simpa using hj
  | succ j => simp at hj
theorem Strs.lies {w w' : World} {ad : Addr} {l : List ByteArray} (h : Strs w (some ad) l) (hb : Below w.heap.size w w') : Lies w' (fun b => b = ad.block) 1 (some ad) l.length (strV (l.map tl)) := by
  rw [strV_tl]
  have h2 : Lies w (fun b => b = ad.block) 1 (some ad) l.length (l.map Value.string) := by
    refine ⟨h.1, fun hn => ?_⟩
    obtain ⟨ad', e, _, hc⟩ := h.2 hn
    injection e with e
    subst e
    exact ⟨ad, rfl, rfl, hc⟩
  exact h2.mono (by omega) fun b ho hs => ⟨ho, hb.block b hs⟩
end Go.Proofs.YtimfljncibbdoaaGreatDoor.Lg
