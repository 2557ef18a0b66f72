/- Joined by mkmerged.py: KgFiles, TgMore, OpenArgs. -/
import Derived.Test.YtdidnlkilleljaaGreatDoorMf17
import Derived.Test.YtdidnlkilleljaaGreatDoorMf02
import Derived.Deep.Slices
import Derived.Deep.Fields
import Derived.ReadAgain
import Derived.ChangeBears
import Derived.SliceStrings
import Derived.ChangeMaps5
/- KgFiles, what a claim needs of it (prune.py). -/
namespace Go.Proofs.YtdidnlkilleljaaGreatDoor
open Go.RowKit
set_option linter.unusedVariables false
set_option maxRecDepth 100000
def Fl.b (f : Fl) : List UInt8 := fileB (tl f.p) (tl f.d)
structure Fl.Ok (f : Fl) : Prop where
  p : f.p.size ≤ 200
  d : f.d.size ≤ 3000
structure Fl.Ok60 (f : Fl) : Prop where
  p : f.p.size ≤ 60
  d : f.d.size ≤ 3000
theorem Fl.Ok60.ok {f : Fl} (h : f.Ok60) : f.Ok := ⟨by have := h.p; omega, h.d⟩
def FlAt (w : World) (ad : Addr) (f : Fl) : Prop := w.cell? ad = some (.string f.p) ∧ w.cell? (ad.add 1) = some (.string f.d)
def Fls (w : World) (B : Nat) (A : Option Addr) (l : List Fl) : Prop := 0 < l.length → ∃ ad, A = some ad ∧ ad.block < B ∧ ∀ k (h : k < l.length), FlAt w (ad.add (k * 2)) l[k]
theorem Fls.below {w w' : World} {B : Nat} {A : Option Addr} {l : List Fl} (h : Fls w B A l) (hb : Below B w w') : Fls w' B A l := fun hl => by
  obtain ⟨ad, e, h1, h2⟩ := h hl
  refine ⟨ad, e, h1, fun k hk => ?_⟩
  obtain ⟨c0, c1⟩ := h2 k hk
  have h3 : (ad.add (k * 2)).block < B := by rw [block_of_add]; exact h1
  exact ⟨(hb.cell h3).trans c0, (hb.cell (by rw [block_of_add]; exact h3)).trans c1⟩
theorem Fls.more {w : World} {B B' : Nat} {A : Option Addr} {l : List Fl} (h : Fls w B A l) (hB : B ≤ B') : Fls w B' A l := fun hl => by
  obtain ⟨ad, e, h1, h2⟩ := h hl
  exact ⟨ad, e, by omega, h2⟩
end Go.Proofs.YtdidnlkilleljaaGreatDoor
/- TgMore, what a claim needs of it (prune.py). -/
namespace Go.Proofs.YtdidnlkilleljaaGreatDoor
open Go.RowKit
set_option linter.unusedVariables false
set_option maxRecDepth 100000
def Tg.Fit (t : Tg) : Prop := t.n.size ≤ maxLen ∧ t.c.size ≤ maxLen ∧ t.ds.length ≤ maxLen ∧ t.ss.length ≤ maxLen
def Fl.Fit (f : Fl) : Prop := f.p.size ≤ maxLen ∧ f.d.size ≤ maxLen
theorem Tgs.more {w : World} {B B' : Nat} {A : Option Addr} {l : List Tg} (h : Tgs w B A l) (hB : B ≤ B') : Tgs w B' A l := fun hl => by
  obtain ⟨ad, e, h1, h2⟩ := h hl
  refine ⟨ad, e, by omega, fun k hk => ?_⟩
  obtain ⟨Ad, cd, As, cs, c0, c1, c2, c3, c4, c5⟩ := h2 k hk
  exact ⟨Ad, cd, As, cs, c0, c1, c2, c3, c4.more hB, c5.more hB⟩
theorem Fls.none_ (w : World) (B : Nat) (A : Option Addr) : Fls w B A [] := fun h => absurd h (by simp)
theorem Tgs.none_ (w : World) (B : Nat) (A : Option Addr) : Tgs w B A [] := fun h => absurd h (by simp)
theorem mem_upto {α : Type} {l : List α} {Q : α → Prop} {k : Nat} (hk : k < l.length) (h : ∀ j (hj : j < l.length), j < k → Q l[j]) (h1 : Q l[k]) : ∀ j (hj : j < l.length), j < k + 1 → Q l[j] := by
  intro j hj hlt
  rcases Nat.lt_or_ge j k with h2 | h2
  · exact h j hj h2
  · obtain rfl : j = k := by omega
    exact h1
theorem mem_all {α : Type} {l : List α} {Q : α → Prop} (h : ∀ j (hj : j < l.length), j < l.length → Q l[j]) : ∀ x ∈ l, Q x := by
  intro x hx
  obtain ⟨j, hj, rfl⟩ := List.mem_iff_getElem.1 hx
  exact h j hj hj
end Go.Proofs.YtdidnlkilleljaaGreatDoor
/- OpenArgs, what a claim needs of it (prune.py). -/
namespace Go.Proofs.YtdidnlkilleljaaGreatDoor
open Go.ChangeShapes Go.WideShapes Go.Deep Go.RowKit Go.ChangeMaps
set_option linter.unusedVariables false
set_option maxRecDepth 100000
section
variable {H : Type} {enc : TypeId × Value → H} {W : World}
theorem open_strs {n : Nat} {v : Value} {y : DataW H × List MemPlace} (h : DataW.trod enc Tryz.prog W 0 (fun _ => true) true n 24 [v] = some y) :
    ∃ A ss c, v = .slice A (List.length ss) c ∧ Strs W W.heap.size A ss ∧ ss.length ≤ maxLen ∧ (∀ s ∈ ss, s.size ≤ maxLen) ∧ ss.length ≤ c := by
  rcases open_strings Tryz.underlying24 Tryz.underlying9 (by kernel_rfl) h with ⟨h0, _⟩ | ⟨a, len, cap, ss, hcs, hb, hl, hm, hlen, hx, hc, hs⟩
  · refine ⟨none, [], 0, by injection h0, Reads.none_, by simp, (fun s hs => by cases hs), by simp⟩
  · have hlen' : ss.length = cap := by simpa using hlen
    have hvv : v = .slice (some a) len cap := by injection hcs
    refine ⟨some a, ss.take len, cap, ?_, ⟨by simp, fun h0 => ⟨a, rfl, ?_, fun j u hu => ?_⟩⟩, by simp; omega, fun s h => hs s (List.mem_of_mem_take h), by simp; omega⟩
    · rw [List.length_take, Nat.min_eq_left (by omega)]; exact hvv
    · have hh := lt_of_cell (hc 0 (by simp at h0; omega))
      rw [block_of_add] at hh
      exact hh
    · simp only [List.getElem?_map, Option.map_eq_some_iff] at hu
      obtain ⟨x, hx1, rfl⟩ := hu
      rw [List.getElem?_take] at hx1
      split at hx1
      · obtain ⟨hj, he⟩ := List.getElem?_eq_some_iff.1 hx1
        rw [hc j hj, List.getD_eq_getElem?_getD, hx1]
        rfl
      · cases hx1
theorem open_files {r : Reach} {b0 : Nat} {v : Value} {d : DataW H} {p : List MemPlace} (hv : Value.okWide Tryz.prog W r b0 23 v) (h : DataW.Trod enc Tryz.prog W 0 (fun _ => true) true 23 v d p) :
    ∃ A l c, v = .slice A (List.length l) c ∧ Fls W W.heap.size A l ∧ l.length ≤ 9223372036854775807 ∧ ∀ f ∈ l, Fl.Fit f := by
  obtain ⟨a0, len0, cap0, rfl⟩ := okWide_slice Tryz.underlying23 hv
  obtain ⟨fuel, hf⟩ := h
  rcases open_slice_fields Tryz.underlying23 Tryz.underlying49 (by kernel_rfl) (by kernel_rfl) hf with ⟨h0, _⟩ | ⟨a, len, cap, m, D, Pl, hcs, hb, hl, hm, hmm, hx, hi⟩
  · simp only [Value.cells] at h0
    refine ⟨none, [], 0, by injection h0, fun h => absurd h (by simp), by decide, fun f hf => by cases hf⟩
  · simp only [Value.cells] at hcs
    have hvv : Value.slice a0 len0 cap0 = .slice (some a) len cap := by injection hcs
    have hmc : m = cap := by simpa using hmm
    subst hmc
    have key : ∀ i, i < len → ∃ f : Fl, FlAt W (a.add (i * 2)) f ∧ f.Fit := fun i hil => by
      obtain ⟨ys, n, _, _, _, hj⟩ := hi i (by omega)
      obtain ⟨v0, y0, c0, _, t0⟩ := hj 0 _ rfl
      obtain ⟨v1, y1, c1, _, t1⟩ := hj 1 _ rfl
      obtain ⟨s0, e0, _, z0⟩ := DataW.trod_string Tryz.underlying9 t0
      obtain ⟨s1, e1, _, z1⟩ := DataW.trod_string Tryz.underlying9 t1
      refine ⟨⟨s0, s1⟩, ⟨?_, ?_⟩, z0, z1⟩
      · have : v0 = .string s0 := by injection e0
        rw [← this]; exact c0
      · have : v1 = .string s1 := by injection e1
        rw [Go.Deep.add_add, ← this]; exact c1
    obtain ⟨l, hll, hq⟩ := list_of (Q := fun i f => FlAt W (a.add (i * 2)) f ∧ Fl.Fit f) len key
    refine ⟨some a, l, m, by rw [hll]; exact hvv, fun h0 => ⟨a, rfl, ?_, fun k hk => (hq k hk).1⟩, by rw [hll]; unfold maxLen at hm; omega, fun f hf => ?_⟩
    · have := lt_of_cell (hq 0 h0).1.1
      rw [block_of_add] at this
      exact this
    · obtain ⟨j, hj, rfl⟩ := List.mem_iff_getElem.1 hf
      exact (hq j hj).2
theorem open_targets {r : Reach} {b0 : Nat} {v : Value} {d : DataW H} {p : List MemPlace} (hv : Value.okWide Tryz.prog W r b0 39 v) (h : DataW.Trod enc Tryz.prog W 0 (fun _ => true) true 39 v d p) :
    ∃ A l c, v = .slice A (List.length l) c ∧ Tgs W W.heap.size A l ∧ l.length ≤ 9223372036854775807 ∧ ∀ t ∈ l, Tg.Fit t := by
  obtain ⟨a0, len0, cap0, rfl⟩ := okWide_slice Tryz.underlying39 hv
  obtain ⟨fuel, hf⟩ := h
  rcases open_slice_fields Tryz.underlying39 Tryz.underlying47 (by kernel_rfl) (by kernel_rfl) hf with ⟨h0, _⟩ | ⟨a, len, cap, m, D, Pl, hcs, hb, hl, hm, hmm, hx, hi⟩
  · simp only [Value.cells] at h0
    refine ⟨none, [], 0, by injection h0, fun h => absurd h (by simp), by decide, fun f hf => by cases hf⟩
  · simp only [Value.cells] at hcs
    have hvv : Value.slice a0 len0 cap0 = .slice (some a) len cap := by injection hcs
    have hmc : m = cap := by simpa using hmm
    subst hmc
    have key : ∀ i, i < len → ∃ t : Tg, TgAt W W.heap.size (a.add (i * 4)) t ∧ t.Fit := fun i hil => by
      obtain ⟨ys, n, _, _, _, hj⟩ := hi i (by omega)
      obtain ⟨v0, y0, c0, _, t0⟩ := hj 0 _ rfl
      obtain ⟨v1, y1, c1, _, t1⟩ := hj 1 _ rfl
      obtain ⟨v2, y2, c2, _, t2⟩ := hj 2 _ rfl
      obtain ⟨v3, y3, c3, _, t3⟩ := hj 3 _ rfl
      obtain ⟨s0, e0, _, z0⟩ := DataW.trod_string Tryz.underlying9 t0
      obtain ⟨s1, e1, _, z1⟩ := DataW.trod_string Tryz.underlying9 t1
      obtain ⟨A2, l2, k2, rfl, r2, q2, _⟩ := open_strs t2
      obtain ⟨A3, l3, k3, rfl, r3, q3, _⟩ := open_strs t3
      refine ⟨⟨s0, s1, l2, l3⟩, ⟨A2, k2, A3, k3, ?_, ?_, ?_, ?_, r2, r3⟩, z0, z1, q2, q3⟩
      · have : v0 = .string s0 := by injection e0
        rw [← this]; exact c0
      · have : v1 = .string s1 := by injection e1
        rw [Go.Deep.add_add, ← this]; exact c1
      · rw [Go.Deep.add_add]; exact c2
      · rw [Go.Deep.add_add]; exact c3
    obtain ⟨l, hll, hq⟩ := list_of (Q := fun i f => TgAt W W.heap.size (a.add (i * 4)) f ∧ Tg.Fit f) len key
    refine ⟨some a, l, m, by rw [hll]; exact hvv, fun h0 => ⟨a, rfl, ?_, fun k hk => (hq k hk).1⟩, by rw [hll]; unfold maxLen at hm; omega, fun f hf => ?_⟩
    · obtain ⟨_, _, _, _, g0, _⟩ := (hq 0 h0).1
      have := lt_of_cell g0
      rw [block_of_add] at this
      exact this
    · obtain ⟨j, hj, rfl⟩ := List.mem_iff_getElem.1 hf
      exact (hq j hj).2
end
end Go.Proofs.YtdidnlkilleljaaGreatDoor
