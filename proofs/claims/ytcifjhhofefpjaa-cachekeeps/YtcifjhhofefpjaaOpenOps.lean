/- The cache laws' argument, a slice of calls, opened. -/
import Derived.Test.YtcifjhhofefpjaaOpenBase
import Derived.Test.YtcifjhhofefpjaaCaPlaysLaw
namespace Go.Proofs.Ytcifjhhofefpjaa
open Go.ChangeShapes Go.WideShapes Go.Deep Go.RowKit Go.ChangeMaps
set_option linter.unusedVariables false
set_option maxRecDepth 100000
theorem blk_add (a : Addr) (n : Nat) : (a.add n).block = a.block := by unfold Addr.add; split <;> rfl
theorem open_ops {H : Type} {enc : TypeId × Value → H} {W : World} {r : Reach} {b0 : Nat} {v : Value} {d : DataW H} {p : List MemPlace} (hv : Value.okWide Try.prog W r b0 32 v) (h : DataW.Trod enc Try.prog W 0 (fun _ => true) true 32 v d p) :
    ∃ A l c, v = .slice A (List.length l) c ∧ Cr.OpsAt W W.heap.size A l ∧ l.length ≤ maxLen ∧ ∀ x ∈ l, x.k.size ≤ maxLen := by
  obtain ⟨a0, len0, cap0, rfl⟩ := okWide_slice Try.underlying32 hv
  obtain ⟨fuel, hf⟩ := h
  rcases open_slice_fields Try.underlying32 Try.underlying37 (by kernel_rfl) (by kernel_rfl) hf with ⟨h0, _⟩ | ⟨a, len, cap, m, D, Pl, hcs, hb, hl, hm, hmm, hx, hi⟩
  · simp only [Value.cells] at h0
    refine ⟨none, [], 0, by injection h0, fun h => absurd h (by simp), by simp, fun f hf => by cases hf⟩
  · simp only [Value.cells] at hcs
    have hvv : Value.slice a0 len0 cap0 = .slice (some a) len cap := by injection hcs
    have hmc : m = cap := by simpa using hmm
    subst hmc
    have key : ∀ i, i < len → ∃ x : Cr.Opn, (W.cell? (a.add (i * 3)) = some (.int .i64 x.a) ∧ W.cell? ⟨(a.add (i * 3)).block, (a.add (i * 3)).off + 1, none⟩ = some (.string x.k) ∧ W.cell? ⟨(a.add (i * 3)).block, (a.add (i * 3)).off + 2, none⟩ = some (.int .i64 x.n)) ∧ x.k.size ≤ maxLen := fun i hil => by
      obtain ⟨ys, n, _, _, _, hj⟩ := hi i (by omega)
      obtain ⟨v0, y0, c0, _, t0⟩ := hj 0 _ rfl
      obtain ⟨v1, y1, c1, _, t1⟩ := hj 1 _ rfl
      obtain ⟨v2, y2, c2, _, t2⟩ := hj 2 _ rfl
      obtain ⟨s0, e0, _, z0⟩ := DataW.trod_int Try.underlying3 t0
      obtain ⟨s1, e1, _, z1⟩ := DataW.trod_string Try.underlying9 t1
      obtain ⟨s2, e2, _, z2⟩ := DataW.trod_int Try.underlying3 t2
      refine ⟨⟨s0, s1, s2⟩, ⟨?_, ?_, ?_⟩, z1⟩
      · have : v0 = .int .i64 s0 := by injection e0
        rw [← this]; exact c0
      · have : v1 = .string s1 := by injection e1
        have c := c1
        rw [← Go.Deep.add_add] at c
        rw [← this]
        simpa [Addr.add] using c
      · have : v2 = .int .i64 s2 := by injection e2
        have c := c2
        rw [← Go.Deep.add_add] at c
        rw [← this]
        simpa [Addr.add] using c
    obtain ⟨l, hll, hq⟩ := list_of len key
    refine ⟨some a, l, m, by rw [hll]; exact hvv, fun h0 => ⟨a, rfl, ?_, fun k hk => (hq k hk).1⟩, by rw [hll]; omega, fun f hf => ?_⟩
    · have := lt_of_cell (hq 0 h0).1.1
      rw [blk_add] at this
      exact this
    · obtain ⟨j, hj, rfl⟩ := List.mem_iff_getElem.1 hf
      exact (hq j hj).2
namespace Cr
theorem plays_law (most : Int) (A : Option Addr) (l : List Opn) (cap : Nat) (w : World) (hl : l.length ≤ maxLen) (hks : ∀ x ∈ l, x.k.size ≤ maxLen) (hO : OpsAt w w.heap.size A l) :
    Calls Try.prog 4 #[.int .i64 most, .slice A l.length cap] w fun e w' => e = .returned (.bool true) ∧ Below w.heap.size w w' := by
  by_cases h : most < 1 ∨ 1000 < most
  · exact plays_bad most _ w h
  · obtain ⟨n, rfl⟩ := Int.eq_ofNat_of_zero_le (a := most) (by omega)
    exact plays_good n A l cap w (by omega) (by omega) hl hks hO
end Cr
end Go.Proofs.Ytcifjhhofefpjaa
