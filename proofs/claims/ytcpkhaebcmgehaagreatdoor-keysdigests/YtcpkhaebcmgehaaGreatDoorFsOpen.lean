/- The arguments of ch 04's laws, opened: rows of files, of entries, of texts. -/
import Derived.Test.YtcpkhaebcmgehaaGreatDoorFsMem
import Derived.Test.YtcpkhaebcmgehaaGreatDoorRk
import Derived.Deep.Slices
import Derived.Deep.Fields
import Derived.ReadAgain
import Derived.ChangeBears
import Derived.SliceStrings
import Derived.ChangeMaps5
namespace Go.Proofs.YtcpkhaebcmgehaaGreatDoor.Fs
open Go.ChangeShapes Go.WideShapes Go.Deep Go.RowKit Go.ChangeMaps
set_option linter.unusedVariables false
set_option maxRecDepth 100000
theorem flat_at {α : Type} {f : α → List Value} {s : Nat} (hf : ∀ x, (f x).length = s) : ∀ {l : List α} {j : Nat} {u : Value}, (l.flatMap f)[j]? = some u → ∃ k, ∃ (hk : k < l.length), ∃ r, r < s ∧ j = k * s + r ∧ (f l[k])[r]? = some u
  | [], j, u, h => by simp at h
  | a :: l, j, u, h => by
    rw [List.flatMap_cons] at h
    rcases Nat.lt_or_ge j s with hj | hj
    · rw [List.getElem?_append_left (by rw [hf]; exact hj)] at h
      exact ⟨0, by simp, j, hj, by omega, h⟩
    · rw [List.getElem?_append_right (by rw [hf]; exact hj), hf] at h
      obtain ⟨k, hk, r, hr, e, h2⟩ := flat_at hf h
      exact ⟨k + 1, by simpa using hk, r, hr, by rw [Nat.succ_mul]; omega, h2⟩
theorem fls_mk {w : World} {a : Addr} {l : List Fl} (hb : a.block < w.heap.size) (h : ∀ k (hk : k < l.length), w.cell? (a.add (k * 2)) = some (.string l[k].p) ∧ w.cell? (a.add (k * 2 + 1)) = some (.string l[k].d)) : Fls w (some a) l := by
  refine ⟨fc_len l, fun _ => ⟨a, rfl, hb, fun j u hu => ?_⟩⟩
  obtain ⟨k, hk, r, hr, rfl, h2⟩ := flat_at (s := 2) (fun x => rfl) hu
  obtain ⟨c0, c1⟩ := h k hk
  rcases (show r = 0 ∨ r = 1 by omega) with rfl | rfl
  · injection h2 with h2; subst h2; exact c0
  · injection h2 with h2; subst h2; exact c1
theorem ens_mk {w : World} {a : Addr} {l : List En} (hb : a.block < w.heap.size) (h : ∀ k (hk : k < l.length), w.cell? (a.add (k * 3)) = some (.string (bs l[k].n)) ∧ w.cell? (a.add (k * 3 + 1)) = some (.bool l[k].dir) ∧ w.cell? (a.add (k * 3 + 2)) = some (.string (bs l[k].g))) : Ens w (some a) l := by
  refine ⟨ec_len l, fun _ => ⟨a, rfl, hb, fun j u hu => ?_⟩⟩
  obtain ⟨k, hk, r, hr, rfl, h2⟩ := flat_at (s := 3) (fun x => rfl) hu
  obtain ⟨c0, c1, c2⟩ := h k hk
  rcases (show r = 0 ∨ r = 1 ∨ r = 2 by omega) with rfl | rfl | rfl
  · injection h2 with h2; subst h2; exact c0
  · injection h2 with h2; subst h2; exact c1
  · injection h2 with h2; subst h2; exact c2
def FitF (f : Fl) : Prop := f.p.size ≤ maxLen ∧ f.d.size ≤ maxLen
def FitE (x : En) : Prop := x.n.length ≤ maxLen ∧ x.g.length ≤ maxLen
section
variable {H : Type} {enc : TypeId × Value → H} {W : World}
theorem files_of {v : Value} {fuel : Nat} {x : DataW H × List MemPlace} (hf : DataW.trod enc Tryz.prog W 0 (fun _ => true) true fuel 22 [v] = some x) :
    ∃ A l c, v = .slice A (List.length l) c ∧ Fls W A l ∧ l.length ≤ maxLen ∧ (∀ f ∈ l, FitF f) ∧ l.length ≤ c := by
  rcases open_slice_fields Tryz.underlying22 Tryz.underlying71 (by kernel_rfl) (by kernel_rfl) hf with ⟨h0, _⟩ | ⟨a, len, cap, m, D, Pl, hcs, hb, hl, hm, hmm, hx, hi⟩
  · refine ⟨none, [], 0, by injection h0, Reads.none_, by decide, fun f hf => (by cases hf), Nat.zero_le _⟩
  · have hvv : v = .slice (some a) len cap := by injection hcs
    have hmc : m = cap := by simpa using hmm
    subst hmc
    have key : ∀ i, i < len → ∃ f : Fl, (W.cell? (a.add (i * 2)) = some (.string f.p) ∧ W.cell? (a.add (i * 2 + 1)) = some (.string f.d)) ∧ FitF f := fun i hil => by
      obtain ⟨ys, n, _, _, _, hj⟩ := hi i (by omega)
      obtain ⟨v0, y0, c0, _, t0⟩ := hj 0 _ rfl
      obtain ⟨v1, y1, c1, _, t1⟩ := hj 1 _ rfl
      obtain ⟨s0, e0, _, z0⟩ := DataW.trod_string Tryz.underlying9 t0
      obtain ⟨s1, e1, _, z1⟩ := DataW.trod_string Tryz.underlying9 t1
      refine ⟨⟨s0, s1⟩, ⟨?_, ?_⟩, z0, z1⟩
      · have : v0 = .string s0 := by injection e0
        rw [← this]; exact c0
      · have : v1 = .string s1 := by injection e1
        rw [← this]; exact c1
    obtain ⟨l, hll, hq⟩ := list_of (Q := fun i f => (W.cell? (a.add (i * 2)) = some (.string f.p) ∧ W.cell? (a.add (i * 2 + 1)) = some (.string f.d)) ∧ FitF f) len key
    have hfit : ∀ f ∈ l, FitF f := fun f hf => by
      obtain ⟨j, hj, rfl⟩ := List.mem_iff_getElem.1 hf
      exact (hq j hj).2
    by_cases h0 : 0 < l.length
    · refine ⟨some a, l, m, by rw [hll]; exact hvv, fls_mk ?_ (fun k hk => (hq k hk).1), by rw [hll]; omega, hfit, by omega⟩
      have := lt_of_cell (hq 0 h0).1.1
      rw [block_of_add] at this
      exact this
    · obtain rfl : l = [] := List.eq_nil_of_length_eq_zero (by omega)
      exact ⟨some a, [], m, by rw [hll]; exact hvv, ⟨rfl, fun h => absurd h (by simp)⟩, by decide, fun f hf => (by cases hf), Nat.zero_le _⟩
theorem open_files {r : Reach} {b0 : Nat} {v : Value} {d : DataW H} {p : List MemPlace} (hv : Value.okWide Tryz.prog W r b0 22 v) (h : DataW.Trod enc Tryz.prog W 0 (fun _ => true) true 22 v d p) :
    ∃ A l c, v = .slice A (List.length l) c ∧ Fls W A l ∧ l.length ≤ maxLen ∧ (∀ f ∈ l, FitF f) ∧ l.length ≤ c := by
  obtain ⟨a0, len0, cap0, rfl⟩ := okWide_slice Tryz.underlying22 hv
  obtain ⟨fuel, hf⟩ := h
  exact files_of hf
theorem open_entries {r : Reach} {b0 : Nat} {v : Value} {d : DataW H} {p : List MemPlace} (hv : Value.okWide Tryz.prog W r b0 81 v) (h : DataW.Trod enc Tryz.prog W 0 (fun _ => true) true 81 v d p) :
    ∃ A l c, v = .slice A (List.length l) c ∧ Ens W A l ∧ l.length ≤ maxLen ∧ ∀ f ∈ l, FitE f := by
  obtain ⟨a0, len0, cap0, rfl⟩ := okWide_slice Tryz.underlying81 hv
  obtain ⟨fuel, hf⟩ := h
  rcases open_slice_fields Tryz.underlying81 Tryz.underlying86 (by kernel_rfl) (by kernel_rfl) hf with ⟨h0, _⟩ | ⟨a, len, cap, m, D, Pl, hcs, hb, hl, hm, hmm, hx, hi⟩
  · simp only [Value.cells] at h0
    refine ⟨none, [], 0, by injection h0, Reads.none_, by decide, fun f hf => (by cases hf)⟩
  · simp only [Value.cells] at hcs
    have hvv : Value.slice a0 len0 cap0 = .slice (some a) len cap := by injection hcs
    have hmc : m = cap := by simpa using hmm
    subst hmc
    have key : ∀ i, i < len → ∃ f : En, (W.cell? (a.add (i * 3)) = some (.string (bs f.n)) ∧ W.cell? (a.add (i * 3 + 1)) = some (.bool f.dir) ∧ W.cell? (a.add (i * 3 + 2)) = some (.string (bs f.g))) ∧ FitE f := fun i hil => by
      obtain ⟨ys, n, _, _, _, hj⟩ := hi i (by omega)
      obtain ⟨v0, y0, c0, _, t0⟩ := hj 0 _ rfl
      obtain ⟨v1, y1, c1, _, t1⟩ := hj 1 _ rfl
      obtain ⟨v2, y2, c2, _, t2⟩ := hj 2 _ rfl
      obtain ⟨s0, e0, _, z0⟩ := DataW.trod_string Tryz.underlying9 t0
      obtain ⟨s1, e1, _⟩ := DataW.trod_bool Tryz.underlying4 t1
      obtain ⟨s2, e2, _, z2⟩ := DataW.trod_string Tryz.underlying9 t2
      refine ⟨⟨tl s0, s1, tl s2⟩, ⟨?_, ?_, ?_⟩, by rw [tl_len]; exact z0, by rw [tl_len]; exact z2⟩
      · have : v0 = .string s0 := by injection e0
        rw [show bs (tl s0) = s0 from rfl, ← this]; exact c0
      · have : v1 = .bool s1 := by injection e1
        rw [← this]; exact c1
      · have : v2 = .string s2 := by injection e2
        rw [show bs (tl s2) = s2 from rfl, ← this]; exact c2
    obtain ⟨l, hll, hq⟩ := list_of (Q := fun i (f : En) => (W.cell? (a.add (i * 3)) = some (.string (bs f.n)) ∧ W.cell? (a.add (i * 3 + 1)) = some (.bool f.dir) ∧ W.cell? (a.add (i * 3 + 2)) = some (.string (bs f.g))) ∧ FitE f) len key
    have hfit : ∀ f ∈ l, FitE f := fun f hf => by
      obtain ⟨j, hj, rfl⟩ := List.mem_iff_getElem.1 hf
      exact (hq j hj).2
    by_cases h0 : 0 < l.length
    · refine ⟨some a, l, m, by rw [hll]; exact hvv, ens_mk ?_ (fun k hk => (hq k hk).1), by rw [hll]; omega, hfit⟩
      have := lt_of_cell (hq 0 h0).1.1
      rw [block_of_add] at this
      exact this
    · obtain rfl : l = [] := List.eq_nil_of_length_eq_zero (by omega)
      exact ⟨some a, [], m, by rw [hll]; exact hvv, ⟨rfl, fun h => absurd h (by simp)⟩, by decide, fun f hf => (by cases hf)⟩
end
end Go.Proofs.YtcpkhaebcmgehaaGreatDoor.Fs
