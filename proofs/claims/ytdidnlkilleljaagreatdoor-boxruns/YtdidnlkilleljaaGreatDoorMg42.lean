/- Joined by mkmerged.py: BxOpen. -/
import Derived.Test.YtdidnlkilleljaaGreatDoorMg40
import Derived.Test.YtdidnlkilleljaaGreatDoorMg26
import Derived.Test.YtdidnlkilleljaaGreatDoorMg41
import Derived.Test.YtdidnlkilleljaaGreatDoorMg18
import Derived.Lib.SmallJoins
/- BxOpen, what a claim needs of it (prune.py). -/
namespace Go.Proofs.YtdidnlkilleljaaGreatDoor.Bx
open Go.ChangeShapes Go.WideShapes Go.Deep Go.RowKit Go.ChangeMaps
open Lg (strV StepsAt Stp numL map_tl_bs)
open Fs (Fls B)
set_option linter.unusedVariables false
set_option maxRecDepth 100000
theorem open_baction {H : Type} {enc : TypeId × Value → H} {W : World} {r : Reach} {b0 : Nat} {v : Value} {d : DataW H} {p : List MemPlace} (hv : Value.okWide Tryz.prog W r b0 26 v) (h : DataW.Trod enc Tryz.prog W 0 (fun _ => true) true 26 v d p) (hE : Lg.Env W) :
    ∃ l L m mc fs F fcc names N nn nc fuel, v = .agg #[.slice L m mc, .slice F (List.length fs) fcc, .slice N nn nc, .int .i64 fuel] ∧ Came W l L m mc fs F fcc names N nn nc (fun _ => True) := by
  obtain ⟨v0, v1, v2, v3, y0, y1, y2, y3, n, rfl, _, _, t0, t1, t2, t3⟩ := Joins.open_agg4 Tryz.underlying26 (by kernel_rfl) (by kernel_rfl) hv h
  obtain ⟨L, m, mc, l, rfl, hm, hL, hn⟩ := Lg.open_stepsD _ y0.1 y0.2 n _ (Nat.le_refl _) t0
  obtain ⟨F, fs, c1, rfl, hF, hl, hz, hc⟩ := Fs.files_of t1
  obtain ⟨N, ns, c2, rfl, hN, hns, _⟩ := open_strs t2
  obtain ⟨k, e3, _, _⟩ := DataW.trod_int Tryz.underlying3 t3
  have h3 : v3 = .int .i64 k := by injection e3
  subst h3
  have hs : ns.map Value.string = strV (ns.map tl) := by
    rw [strV, List.map_map]; rfl
  refine ⟨l, L, m, mc, fs, F, c1, ns.map tl, N, ns.length, c2, k, rfl, ⟨hE, hL, hn, hF, hc, hl, hz, ?_, (List.length_map ..).symm, hns⟩⟩
  rw [← hs]
  exact hN
end Go.Proofs.YtdidnlkilleljaaGreatDoor.Bx
