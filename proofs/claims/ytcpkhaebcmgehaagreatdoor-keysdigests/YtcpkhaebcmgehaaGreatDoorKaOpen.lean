/- An action that comes in, opened. -/
import Derived.Test.YtcpkhaebcmgehaaGreatDoorKaLaw
import Derived.Test.YtcpkhaebcmgehaaGreatDoorFsOpen
import Derived.Test.YtcpkhaebcmgehaaGreatDoorOpenArgs
import Derived.Lib.SmallJoins
namespace Go.Proofs.YtcpkhaebcmgehaaGreatDoor
open Go.ChangeShapes Go.WideShapes Go.Deep Go.RowKit Go.ChangeMaps
set_option linter.unusedVariables false
set_option maxRecDepth 100000
theorem open_action {H : Type} {enc : TypeId × Value → H} {W : World} {r : Reach} {b0 : Nat} {v : Value} {d : DataW H} {p : List MemPlace} (hv : Value.okWide Tryz.prog W r b0 25 v) (h : DataW.Trod enc Tryz.prog W 0 (fun _ => true) true 25 v d p) :
    ∃ c F fs d N ns m n, v = .agg #[.string c, .slice F (List.length fs) d, .slice N (List.length ns) m, .int .i64 n] ∧ -9223372036854775808 ≤ n ∧ n ≤ 9223372036854775807 ∧ c.size ≤ maxLen ∧ fs.length ≤ maxLen ∧ fs.length ≤ d ∧ (∀ f ∈ fs, f.p.size ≤ maxLen ∧ f.d.size ≤ maxLen) ∧ ns.length ≤ maxLen ∧ Fs.Fls W F fs ∧ Strs W W.heap.size N ns := by
  obtain ⟨v0, v1, v2, v3, y0, y1, y2, y3, n, rfl, _, _, t0, t1, t2, t3⟩ := Joins.open_agg4 Tryz.underlying25 (by kernel_rfl) (by kernel_rfl) hv h
  obtain ⟨s0, e0, _, z0⟩ := DataW.trod_string Tryz.underlying9 t0
  obtain ⟨F, fs, c1, rfl, hF, hl, hz, hc⟩ := Fs.files_of t1
  obtain ⟨N, ns, c2, rfl, hN, hn, _⟩ := open_strs t2
  obtain ⟨k, e3, _, hw⟩ := DataW.trod_int Tryz.underlying3 t3
  have h0 : v0 = .string s0 := by injection e0
  have h3 : v3 = .int .i64 k := by injection e3
  subst h0 h3
  have hk : -9223372036854775808 ≤ k ∧ k ≤ 9223372036854775807 := by
    have hw' : (decide (IntKind.i64.min ≤ k) && decide (k ≤ IntKind.i64.max)) = true := hw
    simp only [Bool.and_eq_true, decide_eq_true_eq] at hw'
    exact hw'
  exact ⟨s0, F, fs, c1, N, ns, c2, k, rfl, hk.1, hk.2, z0, hl, hc, hz, hn, hF, hN⟩
end Go.Proofs.YtcpkhaebcmgehaaGreatDoor
