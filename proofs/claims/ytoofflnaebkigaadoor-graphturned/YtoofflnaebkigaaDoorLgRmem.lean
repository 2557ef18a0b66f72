/- How the reference's Parse keeps its open blocks: a row of heads, a row of slices, each slot's steps in a range of blocks of their own. -/
import Derived.Test.YtoofflnaebkigaaDoorLgBlockB
namespace Go.Proofs.YtoofflnaebkigaaDoor.Lg
open Go.RowKit
set_option linter.unusedVariables false
/-- the steps of a slot: its row and its trees lie from b on, below b', and nothing of theirs is in X -/
def Slot (w : World) (b b' : Nat) (X : Nat → Prop) (v : Value) (out : List Stp) : Prop :=
  ∃ cells, w.ownsRow b 59 4 v out.length cells ∧ RowAt w (fun x => b ≤ x ∧ x < b' ∧ some x ≠ v.ownBlock ∧ ¬ X x) cells out ∧ ∀ g, v.ownBlock = some g → g < b' ∧ ¬ X g
theorem Slot.none_ (w : World) (b b' : Nat) (X : Nat → Prop) : Slot w b b' X (.slice none 0 0) [] :=
  ⟨[], World.ownsRow_nil _ _ _ _, .nil, fun g h => by cases h⟩
theorem Slot.keep {w w' : World} {b b' b2 : Nat} {X X' : Nat → Prop} {v : Value} {out : List Stp} (h : Slot w b b' X v out) (hb : b' ≤ b2)
    (hk : ∀ x, b ≤ x → x < b' → x < w.heap.size → ¬ X x → ¬ X' x ∧ w'.heap[x]? = w.heap[x]?) : Slot w' b b2 X' v out := by
  obtain ⟨cells, h1, h2, h3⟩ := h
  refine ⟨cells, ?_, h2.mono fun x hx hs => ?_, fun g hg => ?_⟩
  · refine ⟨h1.1, ?_⟩
    rcases h1.2 with h4 | ⟨g, cap, cur, hv, hB, hg, r⟩
    · exact .inl h4
    · have h5 := h3 g (by rw [hv]; rfl)
      exact .inr ⟨g, cap, cur, hv, hB, ((hk g hB h5.1 (lt_of_block hg) h5.2).2).trans hg, r⟩
  · have := hk x hx.1 hx.2.1 hs hx.2.2.2
    exact ⟨⟨hx.1, by have := hx.2.1; omega, hx.2.2.1, this.1⟩, this.2⟩
  · have h5 := own_block h1 hg
    have h6 := h3 g hg
    exact ⟨by omega, (hk g h5.1 h6.1 h5.2 h6.2).1⟩
/-- the frames (the innermost first) below block b: the cells of their heads, and their slots' slices, both the outermost first -/
inductive Fr (w : World) (X : Nat → Prop) (B0 : Nat) : Nat → List Frame → List Value → List Value → Prop
  | nil {b : Nat} : B0 ≤ b → Fr w X B0 b [] [] []
  | cons {b b' : Nat} {f : Frame} {fs : List Frame} {hc vs : List Value} {v : Value} {A : Option Addr} {k c : Nat} :
      Fr w X B0 b fs hc vs → b ≤ b' → Slot w b b' X v f.out → k = f.args.length → k ≤ c → Lies w (fun x => b ≤ x ∧ x < b' ∧ some x ≠ v.ownBlock ∧ ¬ X x) 1 A k (strV f.args) →
      Fr w X B0 b' (f :: fs) (hc ++ [.int .i64 f.op, .slice A k c, .int .i64 f.n, .slice none 0 0]) (vs ++ [v])
theorem Fr.keep {w w' : World} {X X' : Nat → Prop} {B0 b : Nat} {fs : List Frame} {hc vs : List Value} (h : Fr w X B0 b fs hc vs)
    (hk : ∀ x, x < b → x < w.heap.size → ¬ X x → ¬ X' x ∧ w'.heap[x]? = w.heap[x]?) : Fr w' X' B0 b fs hc vs := by
  induction h with
  | nil h => exact .nil h
  | cons h1 hb hs h3 h4 h5 ih =>
    refine .cons (ih fun x hx => hk x (by omega)) hb (hs.keep (Nat.le_refl _) fun x _ hx => hk x hx) h3 h4 (h5.mono (by omega) fun x hx hlt => ?_)
    have := hk x hx.2.1 hlt hx.2.2.2
    exact ⟨⟨hx.1, hx.2.1, hx.2.2.1, this.1⟩, this.2⟩
theorem Fr.len {w : World} {X : Nat → Prop} {B0 b : Nat} {fs : List Frame} {hc vs : List Value} (h : Fr w X B0 b fs hc vs) : hc.length = fs.length * 4 ∧ vs.length = fs.length := by
  induction h with
  | nil h => exact ⟨rfl, rfl⟩
  | cons h1 hb hs h3 h4 h5 ih => simp only [List.length_append, List.length_cons, List.length_nil]; omega
theorem Fr.up {w : World} {X : Nat → Prop} {B0 b b2 : Nat} {fs : List Frame} {hc vs : List Value} (h : Fr w X B0 b fs hc vs) (hb : b ≤ b2) : Fr w X B0 b2 fs hc vs := by
  cases h with
  | nil h => exact .nil (Nat.le_trans h hb)
  | cons h1 h2 hs h3 h4 h5 =>
    exact .cons h1 (Nat.le_trans h2 hb) (hs.keep hb fun x _ _ _ hx => ⟨hx, rfl⟩) h3 h4 (h5.mono (by omega) fun x hx _ => ⟨⟨hx.1, by have := hx.2.1; omega, hx.2.2⟩, rfl⟩)
/-- the innermost frame taken apart -/
theorem Fr.inv {w : World} {X : Nat → Prop} {B0 b' : Nat} {f : Frame} {fs : List Frame} {hc vs : List Value} (h : Fr w X B0 b' (f :: fs) hc vs) :
    ∃ b hc' vs' v A k c, hc = hc' ++ [.int .i64 f.op, .slice A k c, .int .i64 f.n, .slice none 0 0] ∧ vs = vs' ++ [v] ∧ Fr w X B0 b fs hc' vs' ∧ b ≤ b' ∧ Slot w b b' X v f.out ∧ k = f.args.length ∧ k ≤ c ∧ Lies w (fun x => b ≤ x ∧ x < b' ∧ some x ≠ v.ownBlock ∧ ¬ X x) 1 A k (strV f.args) := by
  cases h with
  | cons h1 h2 h3 h4 h5 h6 => exact ⟨_, _, _, _, _, _, _, rfl, rfl, h1, h2, h3, h4, h5, h6⟩
theorem Fr.base {w : World} {X : Nat → Prop} {B0 b : Nat} {fs : List Frame} {hc vs : List Value} (h : Fr w X B0 b fs hc vs) : B0 ≤ b := by
  induction h with
  | nil h => exact h
  | cons h1 h2 h3 h4 h5 h6 ih => omega
/-- the first n elements of a row of the call's own -/
theorem own_take {w : World} {B g cap n m : Nat} {e : TypeId} {size : Nat} {xs : List Value} (h : w.ownsRow B e size (.slice (some ⟨g, 0, none⟩) n cap) n xs) (hm : m ≤ n) :
    w.ownsRow B e size (.slice (some ⟨g, 0, none⟩) m cap) m (xs.take (m * size)) := by
  refine ⟨by rw [List.length_take, h.1]; exact Nat.min_eq_left (Nat.mul_le_mul_right _ hm), ?_⟩
  rcases h.2 with ⟨h1, _⟩ | ⟨g', cap', cur, hv, hB, hh, h1, h2, h3, h4⟩
  · cases h1
  · injection hv with hA _ hc
    injection hA with hA
    injection hA with hA _ _
    subst hA
    subst hc
    refine .inr ⟨g, cap, cur, rfl, hB, hh, by omega, h2, h3, ?_⟩
    rw [← h4, List.take_take]
    rw [Nat.min_eq_left (Nat.mul_le_mul_right _ hm)]
/-- the rows' own blocks -/
def own2 (h k : Value) : Nat → Prop := fun x => some x = h.ownBlock ∨ some x = k.ownBlock
/-- the allowed blocks of a slot -/
abbrev okS (b b' : Nat) (X : Nat → Prop) (v : Value) : Nat → Prop := fun x => b ≤ x ∧ x < b' ∧ some x ≠ v.ownBlock ∧ ¬ X x
/-- a step is laid behind a slot's steps: nothing but the slot's row was written, or new memory -/
theorem slot_push {w w2 : World} {b b' : Nat} {X X' : Nat → Prop} {v v2 : Value} {cells : List Value} {out : List Stp} {op n : Int} {A Bk : Option Addr} {k c kb cb : Nat} {args : List Lg.B} {inn : List Stp}
    (hr : RowAt w (okS b b' X v) cells out) (hb : b' ≤ w.heap.size) (hs : w.heap.size ≤ w2.heap.size)
    (hown : w2.ownsRow b 59 4 v2 (out.length + 1) (cells ++ [.int .i64 op, .slice A k c, .int .i64 n, .slice Bk kb cb]))
    (hsame : ∀ x, b ≤ x → x < w.heap.size → some x ≠ v.ownBlock → ¬ X x → ¬ X' x ∧ w2.heap[x]? = w.heap[x]?)
    (hat : ∀ g, v2.ownBlock = some g → (v.ownBlock = some g ∨ w.heap.size ≤ g) ∧ ¬ X' g)
    (hk : k = args.length) (hc : k ≤ c) (ha : Lies w (okS b w.heap.size X v) 1 A k (strV args)) (hkb : kb ≤ cb) (hin : StepsAt w (okS b w.heap.size X v) Bk kb inn) :
    Slot w2 b w2.heap.size X' v2 (out ++ [⟨op, args, n, inn⟩]) := by
  obtain ⟨h1, bc, h2, h3⟩ := hin
  have hr2 : RowAt w (okS b w.heap.size X v) cells out := hr.mono fun x hx _ => ⟨⟨hx.1, by have := hx.2.1; omega, hx.2.2⟩, rfl⟩
  have h := hr2.append (RowAt.cons (op := op) (n := n) hk hc ha h1 hkb h2 h3 .nil)
  refine ⟨_, by rw [List.length_append]; exact hown, h.mono fun x hx hlt => ?_, fun g hg => ⟨(own_block hown hg).2, (hat g hg).2⟩⟩
  obtain ⟨g1, g2⟩ := hsame x hx.1 hlt hx.2.2.1 hx.2.2.2
  refine ⟨⟨hx.1, by omega, fun e => ?_, g1⟩, g2⟩
  rcases (hat x e.symm).1 with h5 | h5
  · exact hx.2.2.1 h5.symm
  · omega
/-- a slot's steps, handed on as a block -/
theorem Slot.steps {w : World} {b b' : Nat} {X : Nat → Prop} {v : Value} {out : List Stp} (h : Slot w b b' X v out) : ∃ A k c, v = .slice A k c ∧ k ≤ c ∧ StepsAt w (fun x => b ≤ x ∧ x < b' ∧ ¬ X x) A k out := by
  obtain ⟨cells, ho, hr, hx⟩ := h
  have hr2 := hr.mono (w' := w) (ok' := fun x => b ≤ x ∧ x < b' ∧ ¬ X x) (fun x h _ => ⟨⟨h.1, h.2.1, h.2.2.2⟩, rfl⟩)
  rcases ho.2 with ⟨rfl, h0⟩ | ⟨g, cap, cur, rfl, hB, hg, h1, h2, h3, h4⟩
  · have : out = [] := List.eq_nil_of_length_eq_zero h0
    subst this
    cases hr2
    exact ⟨none, 0, 0, rfl, Nat.le_refl _, rfl, [], Lies.none_, .nil⟩
  · have h5 := hx g rfl
    refine ⟨_, _, _, rfl, h1, rfl, cells, ⟨ho.1, fun _ => ⟨_, rfl, ⟨hB, h5.1, h5.2⟩, fun j u hu => ?_⟩⟩, hr2⟩
    exact ho.cells (g := g) rfl j u hu
/-- the last element of a row stands where it stands -/
theorem set_four {xs : List Value} {a b c d a' b' c' d' : Value} {n : Nat} (hn : xs.length = n * 4) :
    ((((xs ++ [a, b, c, d]).set (n * 4) a').set (n * 4 + 1) b').set (n * 4 + 2) c').set (n * 4 + 3) d' = xs ++ [a', b', c', d'] := by
  rw [← hn]
  simp
end Go.Proofs.YtoofflnaebkigaaDoor.Lg
