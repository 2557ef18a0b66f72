/- An argument of targets, opened. -/
import Derived.Test.YtoofflnaebkigaaDoorOpenBase
import Derived.Test.YtoofflnaebkigaaDoorGrLaws
namespace Go.Proofs.YtoofflnaebkigaaDoor.Gr
open Go.ChangeShapes Go.WideShapes Go.Deep Go.RowKit Go.ChangeMaps
open Lg (Strs tl)
set_option linter.unusedVariables false
set_option maxRecDepth 100000
section
variable {H : Type} {enc : TypeId × Value → H} {W : World}
theorem open_strs {n : Nat} {v : Value} {y : DataW H × List MemPlace} (h : DataW.trod enc Tryd.prog W 0 (fun _ => true) true n 28 [v] = some y) :
    ∃ A ss c, v = .slice A (List.length ss) c ∧ Strs W A ss ∧ ss.length ≤ maxLen ∧ (∀ s ∈ ss, s.size ≤ maxLen) ∧ ss.length ≤ c := by
  rcases open_strings Tryd.underlying28 Tryd.underlying9 (by kernel_rfl) h with ⟨h0, _⟩ | ⟨a, len, cap, ss, hcs, hb, hl, hm, hlen, hx, hc, hs⟩
  · refine ⟨none, [], 0, by injection h0, Reads.none_, by simp, (fun s hs => by cases hs), by simp⟩
  · have hlen' : ss.length = cap := by simpa using hlen
    have hvv : v = .slice (some a) len cap := by injection hcs
    refine ⟨some a, ss.take len, cap, ?_, ⟨by simp, fun h0 => ⟨a, rfl, ?_, fun j u hu => ?_⟩⟩, by simp; omega, fun s h => hs s (List.mem_of_mem_take h), by simp; omega⟩
    · rw [List.length_take, Nat.min_eq_left (by omega)]; exact hvv
    · have hh := lt_of_cell (hc 0 (by simp at h0; omega))
      rw [block_of_add] at hh
      exact hh
    · simp only [List.getElem?_map, Option.map_eq_some_iff] at hu
      obtain ⟨x, hx1, rfl⟩ := hu
      rw [List.getElem?_take] at hx1
      split at hx1
      · obtain ⟨hj, he⟩ := List.getElem?_eq_some_iff.1 hx1
        rw [hc j hj, List.getD_eq_getElem?_getD, hx1]
        rfl
      · cases hx1
/-- one target, and that its lists have the room that they say -/
def OneAt (W : World) (ad : Addr) (t : Tg) : Prop :=
  TgAt W ad t ∧ (t.n.size ≤ maxLen ∧ t.c.size ≤ maxLen ∧ t.ds.length ≤ maxLen ∧ t.ss.length ≤ maxLen) ∧ (∀ A' n c, W.cell? (ad.add 2) = some (.slice A' n c) → n ≤ c) ∧ (∀ A' n c, W.cell? (ad.add 3) = some (.slice A' n c) → n ≤ c)
theorem open_targets {r : Go.Reach} {b0 : Nat} {v : Value} {d : DataW H} {p : List MemPlace} (hv : Value.okWide Tryd.prog W r b0 22 v) (h : DataW.Trod enc Tryd.prog W 0 (fun _ => true) true 22 v d p) :
    ∃ A l c, v = .slice A (List.length l) c ∧ Came W A l c := by
  obtain ⟨a0, len0, cap0, rfl⟩ := okWide_slice Tryd.underlying22 hv
  obtain ⟨fuel, hf⟩ := h
  rcases open_slice_fields Tryd.underlying22 Tryd.underlying35 (by kernel_rfl) (by kernel_rfl) hf with ⟨h0, _⟩ | ⟨a, len, cap, m, D, Pl, hcs, hb, hl, hm, hmm, hx, hi⟩
  · simp only [Value.cells] at h0
    refine ⟨none, [], 0, by injection h0, Tgs.none_ _ _, fun ad e k hk => absurd hk (by simp), by simp, by decide, (fun t ht => by cases ht)⟩
  · simp only [Value.cells] at hcs
    have hvv : Value.slice a0 len0 cap0 = .slice (some a) len cap := by injection hcs
    have hmc : m = cap := by simpa using hmm
    subst hmc
    have key : ∀ i, i < len → ∃ t : Tg, OneAt W (a.add (i * 4)) t := fun i hil => by
      obtain ⟨ys, n, _, _, _, hj⟩ := hi i (by omega)
      obtain ⟨v0, y0, c0, _, t0⟩ := hj 0 _ rfl
      obtain ⟨v1, y1, c1, _, t1⟩ := hj 1 _ rfl
      obtain ⟨v2, y2, c2, _, t2⟩ := hj 2 _ rfl
      obtain ⟨v3, y3, c3, _, t3⟩ := hj 3 _ rfl
      obtain ⟨s0, e0, _, z0⟩ := DataW.trod_string Tryd.underlying9 t0
      obtain ⟨s1, e1, _, z1⟩ := DataW.trod_string Tryd.underlying9 t1
      obtain ⟨A2, l2, k2, rfl, r2, q2, _, b2⟩ := open_strs t2
      obtain ⟨A3, l3, k3, rfl, r3, q3, _, b3⟩ := open_strs t3
      have g2 : W.cell? ((a.add (i * 4)).add 2) = some (.slice A2 l2.length k2) := by rw [Go.Deep.add_add]; exact c2
      have g3 : W.cell? ((a.add (i * 4)).add 3) = some (.slice A3 l3.length k3) := by rw [Go.Deep.add_add]; exact c3
      refine ⟨⟨s0, s1, l2, l3⟩, ⟨A2, k2, A3, k3, ?_, ?_, g2, g3, r2, r3⟩, ⟨z0, z1, q2, q3⟩, fun A' n c h => ?_, fun A' n c h => ?_⟩
      · have : v0 = .string s0 := by injection e0
        rw [← this]; exact c0
      · have : v1 = .string s1 := by injection e1
        rw [Go.Deep.add_add, ← this]; exact c1
      · rw [g2] at h; injection h with h; injection h with _ h1 h2; omega
      · rw [g3] at h; injection h with h; injection h with _ h1 h2; omega
    obtain ⟨l, hll, hq⟩ := list_of (Q := fun i f => OneAt W (a.add (i * 4)) f) len key
    refine ⟨some a, l, m, by rw [hll]; exact hvv, fun h0 => ⟨a, rfl, ?_, fun k hk => (hq k hk).1⟩, fun ad e k hk => ?_, by rw [hll]; exact hl, by rw [hll]; unfold maxLen at hm; omega, fun f hf => ?_⟩
    · obtain ⟨_, _, _, _, g0, _⟩ := (hq 0 h0).1
      have := lt_of_cell g0
      rw [block_of_add] at this
      exact this
    · injection e with e; subst e
      exact ⟨(hq k hk).2.2.1, (hq k hk).2.2.2⟩
    · obtain ⟨j, hj, rfl⟩ := List.mem_iff_getElem.1 hf
      exact (hq j hj).2.1
end
end Go.Proofs.YtoofflnaebkigaaDoor.Gr
