/- How steps lie in memory: rows of four cells a step, with rows of texts and of steps below them, in blocks that are allowed. -/
import Derived.Test.YtoofflnaebkigaaDoorLgWords
import Derived.Test.YtoofflnaebkigaaDoorLgMach
namespace Go.Proofs.YtoofflnaebkigaaDoor.Lg
open Go.RowKit
set_option linter.unusedVariables false
/-- below block number B, but for block x, the world is as it was -/
structure BelowX (B x : Nat) (w w' : World) : Prop where
  os : w'.os = w.os
  tape : w'.tape = w.tape
  output : w'.output = w.output
  size : w.heap.size ≤ w'.heap.size
  block : ∀ k, k < B → k ≠ x → w'.heap[k]? = w.heap[k]?
theorem BelowX.of {B x : Nat} {w w' : World} (h : Below B w w') : BelowX B x w w' := ⟨h.os, h.tape, h.output, h.size, fun k hk _ => h.block k hk⟩
theorem BelowX.refl (B x : Nat) (w : World) : BelowX B x w w := .of (Below.refl B w)
theorem BelowX.trans {B x : Nat} {a b c : World} (h : BelowX B x a b) (k : BelowX B x b c) : BelowX B x a c :=
  ⟨k.os.trans h.os, k.tape.trans h.tape, k.output.trans h.output, Nat.le_trans h.size k.size, fun i hi hx => (k.block i hi hx).trans (h.block i hi hx)⟩
theorem BelowX.mono {B B' x : Nat} {w w' : World} (h : BelowX B x w w') (hB : B' ≤ B) : BelowX B' x w w' := ⟨h.os, h.tape, h.output, h.size, fun k hk hx => h.block k (by omega) hx⟩
theorem BelowX.below {B B' x : Nat} {w w' : World} (h : BelowX B x w w') (hB : B' ≤ B) (hx : B' ≤ x) : Below B' w w' := ⟨h.os, h.tape, h.output, h.size, fun k hk => h.block k (by omega) (by omega)⟩
theorem BelowX.drew {B x : Nat} {a w : World} (h : BelowX B x a w) : BelowX B x a w.drew := ⟨h.os, h.tape, h.output, h.size, h.block⟩
theorem BelowX.drewN {B x : Nat} {a w : World} (h : BelowX B x a w) (n : Nat) : BelowX B x a (w.drewN n) := ⟨h.os, h.tape, h.output, h.size, h.block⟩
theorem BelowX.alloc {B x : Nat} {a w : World} (h : BelowX B x a w) (hB : B ≤ w.heap.size) (o : Obj) : BelowX B x a (w.alloc o) := h.trans (.of ((Below.refl _ _).alloc hB o))
theorem BelowX.setCell {B x : Nat} {a w : World} (h : BelowX B x a w) {p : Addr} (hp : B ≤ p.block) (u : Value) : BelowX B x a (w.setCell p u) := h.trans (.of ((Below.refl _ _).setCell hp u))
theorem BelowX.setX {B x : Nat} {a w : World} (h : BelowX B x a w) {p : Addr} (hp : p.block = x) (u : Value) : BelowX B x a (w.setCell p u) :=
  h.trans ⟨rfl, rfl, rfl, by simp [World.setCell], fun k hk hx => Below.heap_setCell _ _ _ _ (by omega)⟩
theorem BelowX.grown {B x : Nat} {a w w' : World} {row : Option Nat} (h : BelowX B x a w) (hg : w.grownBy w' row) (hB : B ≤ w.heap.size) (hr : ∀ k, row = some k → B ≤ k ∨ k = x) : BelowX B x a w' :=
  h.trans ⟨hg.os, hg.tape, hg.output, hg.size, fun k hk hx => hg.block k (by omega) (fun e => by rcases hr k e.symm with h | h <;> omega)⟩
theorem BelowX.cell {B x : Nat} {w w' : World} (h : BelowX B x w w') {p : Addr} (hp : p.block < B) (hx : p.block ≠ x) : w'.cell? p = w.cell? p := World.cell?_of_block (w := w) (h.block p.block hp hx)
/-- n things of 'size' cells at A, in an allowed block -/
def Lies (w : World) (ok : Nat → Prop) (size : Nat) (A : Option Addr) (n : Nat) (xs : List Value) : Prop :=
  xs.length = n * size ∧ (0 < n → ∃ ad, A = some ad ∧ ok ad.block ∧ ∀ j u, xs[j]? = some u → w.cell? (ad.add j) = some u)
theorem Lies.none_ {w : World} {ok : Nat → Prop} {size : Nat} {A : Option Addr} : Lies w ok size A 0 [] := ⟨by simp, fun h => absurd h (by omega)⟩
theorem Lies.mono {w w' : World} {ok ok' : Nat → Prop} {size n : Nat} {A : Option Addr} {xs : List Value} (h : Lies w ok size A n xs) (hs : 0 < size)
    (hk : ∀ b, ok b → b < w.heap.size → ok' b ∧ w'.heap[b]? = w.heap[b]?) : Lies w' ok' size A n xs := by
  refine ⟨h.1, fun hn => ?_⟩
  obtain ⟨ad, rfl, ho, hc⟩ := h.2 hn
  have hl : 0 < xs.length := by rw [h.1]; exact Nat.mul_pos hn hs
  have hb : ad.block < w.heap.size := by
    have := hc 0 _ (List.getElem?_eq_getElem hl)
    have h2 : (ad.add 0).block < w.heap.size := by
      unfold World.cell? at this
      rcases Nat.lt_or_ge (ad.add 0).block w.heap.size with h1 | h1
      · exact h1
      · rw [Array.getElem?_eq_none h1] at this; cases this
    rwa [block_of_add] at h2
  obtain ⟨h1, h2⟩ := hk _ ho hb
  refine ⟨ad, rfl, h1, fun j u hu => ?_⟩
  rw [World.cell?_of_block (w := w) (by rw [block_of_add]; exact h2)]
  exact hc j u hu
theorem Lies.reads {w : World} {ok : Nat → Prop} {size n : Nat} {A : Option Addr} {xs : List Value} (h : Lies w ok size A n xs) (hs : 0 < size) : Reads w w.heap.size size A n xs := by
  have h2 := Lies.mono (w' := w) (ok' := fun b => b < w.heap.size) h hs (fun b _ hb => ⟨hb, rfl⟩)
  exact h2
theorem Lies.of_reads {w : World} {B size n : Nat} {A : Option Addr} {xs : List Value} (h : Reads w B size A n xs) : Lies w (fun b => b < B) size A n xs := h
/-- the texts of a list as values -/
abbrev strV (l : List B) : List Value := l.map fun s => .string (bs s)
theorem strV_map (l : List B) : strV l = (l.map bs).map Value.string := by simp [strV]
inductive RowAt (w : World) (ok : Nat → Prop) : List Value → List Stp → Prop
  | nil : RowAt w ok [] []
  | cons {op n : Int} {args : List B} {block rest : List Stp} {A B : Option Addr} {k c kb cb : Nat} {bcells cells : List Value} :
      k = args.length → k ≤ c → Lies w ok 1 A k (strV args) → kb = block.length → kb ≤ cb → Lies w ok 4 B kb bcells → RowAt w ok bcells block → RowAt w ok cells rest →
      RowAt w ok (.int .i64 op :: .slice A k c :: .int .i64 n :: .slice B kb cb :: cells) (⟨op, args, n, block⟩ :: rest)
theorem RowAt.mono {w w' : World} {ok ok' : Nat → Prop} {cells : List Value} {l : List Stp} (h : RowAt w ok cells l) (hk : ∀ b, ok b → b < w.heap.size → ok' b ∧ w'.heap[b]? = w.heap[b]?) : RowAt w' ok' cells l := by
  induction h with
  | nil => exact .nil
  | cons h1 h2 h3 h4 h5 h6 _ _ ih1 ih2 => exact .cons h1 h2 (h3.mono (by omega) hk) h4 h5 (h6.mono (by omega) hk) ih1 ih2
theorem RowAt.append {w : World} {ok : Nat → Prop} {c1 c2 : List Value} {l1 l2 : List Stp} (h1 : RowAt w ok c1 l1) (h2 : RowAt w ok c2 l2) : RowAt w ok (c1 ++ c2) (l1 ++ l2) := by
  induction h1 with
  | nil => exact h2
  | cons a1 a2 a3 a4 a5 a6 a7 _ _ ih => exact .cons a1 a2 a3 a4 a5 a6 a7 ih
theorem RowAt.len {w : World} {ok : Nat → Prop} {c : List Value} {l : List Stp} (h : RowAt w ok c l) : c.length = l.length * 4 := by
  induction h with
  | nil => rfl
  | cons a1 a2 a3 a4 a5 a6 a7 _ _ ih => simp only [List.length_cons, ih]; omega
theorem RowAt.one {w : World} {ok : Nat → Prop} {c : List Value} {l : List Stp} (h : RowAt w ok c l) : ∀ u ∈ c, u.oneCell' = true := by
  induction h with
  | nil => simp
  | cons a1 a2 a3 a4 a5 a6 a7 _ _ ih =>
    intro u hu
    simp only [List.mem_cons] at hu
    rcases hu with rfl | rfl | rfl | rfl | hu
    · rfl
    · rfl
    · rfl
    · rfl
    · exact ih u hu
/-- the k-th step of a row -/
theorem RowAt.at_ {w : World} {ok : Nat → Prop} {cells : List Value} {l : List Stp} (h : RowAt w ok cells l) : ∀ {k : Nat} (hk : k < l.length),
    ∃ A ka ca B kb cb bcells, cells[k * 4]? = some (.int .i64 l[k].op) ∧ cells[k * 4 + 1]? = some (.slice A ka ca) ∧ cells[k * 4 + 2]? = some (.int .i64 l[k].n) ∧ cells[k * 4 + 3]? = some (.slice B kb cb) ∧
      ka = l[k].args.length ∧ ka ≤ ca ∧ Lies w ok 1 A ka (strV l[k].args) ∧ kb = l[k].block.length ∧ kb ≤ cb ∧ Lies w ok 4 B kb bcells ∧ RowAt w ok bcells l[k].block := by
  induction h with
  | nil => intro k hk; simp at hk
  | @cons op n args block rest A B k0 c kb cb bcells cells a1 a2 a3 a4 a5 a6 a7 a8 ih1 ih2 =>
    intro k hk
    cases k with
    | zero => exact ⟨A, k0, c, B, kb, cb, bcells, rfl, rfl, rfl, rfl, a1, a2, a3, a4, a5, a6, a7⟩
    | succ k =>
      obtain ⟨A', ka, ca, B', kb', cb', bc, h1, h2, h3, h4, h5⟩ := ih2 (k := k) (by simpa using hk)
      refine ⟨A', ka, ca, B', kb', cb', bc, ?_, ?_, ?_, ?_, h5⟩
      · rw [show (k + 1) * 4 = k * 4 + 4 by omega]; exact h1
      · rw [show (k + 1) * 4 + 1 = k * 4 + 1 + 4 by omega]; exact h2
      · rw [show (k + 1) * 4 + 2 = k * 4 + 2 + 4 by omega]; exact h3
      · rw [show (k + 1) * 4 + 3 = k * 4 + 3 + 4 by omega]; exact h4
/-- a slice of steps -/
def StepsAt (w : World) (ok : Nat → Prop) (A : Option Addr) (k : Nat) (l : List Stp) : Prop := k = l.length ∧ ∃ cells, Lies w ok 4 A k cells ∧ RowAt w ok cells l
theorem StepsAt.mono {w w' : World} {ok ok' : Nat → Prop} {A : Option Addr} {k : Nat} {l : List Stp} (h : StepsAt w ok A k l) (hk : ∀ b, ok b → b < w.heap.size → ok' b ∧ w'.heap[b]? = w.heap[b]?) : StepsAt w' ok' A k l := by
  obtain ⟨h1, cells, h2, h3⟩ := h
  exact ⟨h1, cells, h2.mono (by omega) hk, h3.mono hk⟩
theorem StepsAt.below {w w' : World} {ok : Nat → Prop} {A : Option Addr} {k : Nat} {l : List Stp} (h : StepsAt w ok A k l) (hb : Below w.heap.size w w') : StepsAt w' ok A k l :=
  h.mono fun b hk hs => ⟨hk, hb.block b hs⟩
/-- a step's cells in a slice of steps -/
theorem StepsAt.at_ {w : World} {ok : Nat → Prop} {A : Option Addr} {l : List Stp} {n : Nat} (h : StepsAt w ok A n l) {k : Nat} (hk : k < l.length) :
    ∃ ad A' ka ca B' kb cb, A = some ad ∧ w.cell? (ad.add (k * 4)) = some (.int .i64 l[k].op) ∧ w.cell? (ad.add (k * 4 + 1)) = some (.slice A' ka ca) ∧ w.cell? (ad.add (k * 4 + 2)) = some (.int .i64 l[k].n) ∧ w.cell? (ad.add (k * 4 + 3)) = some (.slice B' kb cb) ∧
      ka = l[k].args.length ∧ ka ≤ ca ∧ Lies w ok 1 A' ka (strV l[k].args) ∧ kb ≤ cb ∧ StepsAt w ok B' kb l[k].block := by
  obtain ⟨h1, cells, h2, h3⟩ := h
  obtain ⟨ad, rfl, ho, hc⟩ := h2.2 (by omega)
  obtain ⟨A', ka, ca, B', kb, cb, bc, g1, g2, g3, g4, g5, g6, g7, g8, g9, g10, g11⟩ := h3.at_ hk
  exact ⟨ad, A', ka, ca, B', kb, cb, rfl, hc _ _ g1, hc _ _ g2, hc _ _ g3, hc _ _ g4, g5, g6, g7, g9, g8, bc, g10, g11⟩
end Go.Proofs.YtoofflnaebkigaaDoor.Lg
