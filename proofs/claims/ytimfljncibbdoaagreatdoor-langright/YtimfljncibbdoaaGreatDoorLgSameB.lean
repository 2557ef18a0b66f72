/- Small laws for the walks of Same. -/
import Derived.Test.YtimfljncibbdoaaGreatDoorLgRow
import Derived.Test.YtimfljncibbdoaaGreatDoorLgEq
import Derived.Test.YtimfljncibbdoaaGreatDoorKm
import Derived.Deep.QuietTactic
import Derived.BigQuiet
namespace Go.Proofs.YtimfljncibbdoaaGreatDoor.Lg
open Go.RowKit
set_option linter.unusedVariables false
set_option maxRecDepth 100000
theorem Lies.dn {w : World} {ok : Nat → Prop} {size n : Nat} {A : Option Addr} {xs : List Value} (h : Lies w ok size A n xs) (m : Nat) : Lies (w.drewN m) ok size A n xs := h
theorem RowAt.dn {w : World} {ok : Nat → Prop} {c : List Value} {l : List Stp} (h : RowAt w ok c l) (m : Nat) : RowAt (w.drewN m) ok c l := by
  induction h with
  | nil => exact .nil
  | cons h1 h2 h3 h4 h5 h6 _ _ ih1 ih2 => exact .cons h1 h2 h3 h4 h5 h6 ih1 ih2
theorem StepsAt.dn {w : World} {ok : Nat → Prop} {A : Option Addr} {n : Nat} {l : List Stp} (h : StepsAt w ok A n l) (m : Nat) : StepsAt (w.drewN m) ok A n l := by
  obtain ⟨h1, cells, h2, h3⟩ := h
  exact ⟨h1, cells, h2, h3.dn m⟩
theorem Lies.text {w : World} {ok : Nat → Prop} {A : Option Addr} {l : List B} {n : Nat} (h : Lies w ok 1 A n (strV l)) (hn : n = l.length) {k : Nat} (hk : k < l.length) : ∃ ad, A = some ad ∧ w.cell? (ad.add k) = some (.string (bs l[k])) := by
  obtain ⟨ad, rfl, _, hc⟩ := h.2 (by omega)
  exact ⟨ad, rfl, hc k _ (by rw [List.getElem?_map, List.getElem?_eq_getElem hk]; rfl)⟩
theorem bs_inj {a b : List UInt8} (h : bs a = bs b) : a = b := by
  have := congrArg tl h
  rwa [tl_bs, tl_bs] at this
theorem list_eq {a b : List B} (hl : a.length = b.length) (h : ∀ k (h1 : k < a.length) (h2 : k < b.length), k < a.length → a[k] = b[k]) : a = b :=
  List.ext_getElem hl fun k h1 h2 => h k h1 h2 h1
theorem args_bad {x y : Stp} {k : Nat} (h1 : k < x.args.length) (h2 : k < y.args.length) (h : x.args[k] ≠ y.args[k]) : sameS x y = false := by
  have : x.args ≠ y.args := fun e => h (by simp only [e])
  simp [sameS, this]
theorem sameS_of {x y : Stp} (h1 : x.op = y.op) (h2 : x.n = y.n) (h3 : x.args = y.args) (h4 : sameL x.block y.block = true) : sameS x y = true := by
  simp [sameS, h1, h2, h3, h4]
end Go.Proofs.YtimfljncibbdoaaGreatDoor.Lg
