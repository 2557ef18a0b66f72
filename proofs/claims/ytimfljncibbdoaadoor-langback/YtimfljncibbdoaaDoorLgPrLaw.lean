/- The walk of the law of Print against the document's answer. -/
import Derived.Test.YtimfljncibbdoaaDoorLgPrint
import Derived.Test.YtimfljncibbdoaaDoorLgSmall
import Derived.Test.YtimfljncibbdoaaDoorLgAwake
namespace Go.Proofs.YtimfljncibbdoaaDoor.Lg
open Go.RowKit
set_option linter.unusedVariables false
set_option maxRecDepth 100000
theorem smallTop_any (l : List Stp) (A : Option Addr) (n cp : Nat) (W : World) (ok : Nat → Prop) (hr : StepsAt W ok A n l) :
    Calls Tryd.prog 11 #[.slice A n cp] W fun e W' => ∃ b, e = .returned (.bool b) ∧ Below W.heap.size W W' ∧ (b = true → weight l ≤ 300 ∧ smallL l) := by
  have hr1 : StepsAt (W.alloc (.cells #[.int .i64 (300 : Int)] 3)) (fun b => b ≠ W.heap.size) A n l := hr.mono (fun b _ hs => ⟨by omega, Below.heap_alloc _ _ _ hs⟩)
  have IH : Hid (Calls Tryd.prog 22 #[.slice A n cp, .pointer (some ⟨W.heap.size, 0, none⟩), .int .i64 60] (W.alloc (.cells #[.int .i64 300] 3)) fun e W' => SmSays (W.alloc (.cells #[.int .i64 (300 : Int)] 3)) W' W.heap.size 300 l e) := Lib.hid (small_any 60 (Nat.le_refl _) l A n cp _ W.heap.size 300 hr1 (heap_alloc_new W _) (Nat.le_refl _))
  clear hr hr1
  go_enter Tryd.func11, Tryd.ntmps11
  go_wp2_with (go_at_call 22; (with_reducible refine (IH.out).mono ?_); rintro e w4 ⟨bv, rfl, hb4, hres⟩; have HRES := Lib.hid hres; clear hres)
  go_ret
  refine ⟨bv, rfl, (((Below.refl _ _).alloc (Nat.le_refl _) _).trans (hb4.below (by simp) (Nat.le_refl _))), fun h => ?_⟩
  obtain ⟨k, _, hw, hs⟩ := HRES.out h
  exact ⟨by omega, hs⟩
set_option maxHeartbeats 2000000 in
theorem langprint_walk (l : List Stp) (A : Option Addr) (n cp : Nat) (w : World) (ok : Nat → Prop) (hr : StepsAt w ok A n l) (hn : numL l) (hE : Env w) :
    Calls Tryd.prog 5 #[.slice A n cp] w fun e w' => e = .returned (.bool true) ∧ Below w.heap.size w w' := by
  have AW := Lib.hid awake_any
  have EV := Lib.hid (fun W (h : Below w.heap.size w W) => hE.below h)
  have SR := Lib.hid (fun W (h : Below w.heap.size w W) => hr.below h)
  have SM := Lib.hid (smallTop_any l A n cp w ok hr)
  have HN := Lib.hid hn
  clear hE hr hn
  go_enter Tryd.func5, Tryd.ntmps5
  go_wp2_with (first
    | (go_at_call 11; (with_reducible refine (SM.out).mono ?_); go_loud (rintro e w1 ⟨bv, rfl, b1, hs⟩; have HS := Lib.hid hs; clear hs; rcases bv with _ | _))
    | (go_at_call 12; go_loud ((with_reducible refine (print_any _ l (Nat.le_refl _) HN.out (by have h1 := HS.out (by simp); have := print_small h1.2 HN.out; omega) A n cp w1 ok (EV.out _ b1) (SR.out _ b1)).mono ?_); rintro e w2 ⟨rfl, b2⟩; have b02 := b1.trans (b2.mono b1.size)))
    | (go_at_call 13; (with_reducible refine (rprint_any _ l (Nat.le_refl _) HN.out (by have h1 := HS.out (by simp); have := print_small h1.2 HN.out; omega) A n cp w2 ok (SR.out _ b02)).mono ?_); rintro e w3 ⟨rfl, b3⟩; have b03 := b02.trans (b3.mono b02.size))
    | (go_at_call 7; first
      | ((with_reducible refine (AW.out _ (EV.out _ b03)).mono ?_); rintro e w7 ⟨rfl, b7⟩; have b07 := b03.trans (b7.mono b03.size))
      | ((with_reducible refine (AW.out _ (EV.out _ b1)).mono ?_); rintro e w7 ⟨rfl, b7⟩; have b07 := b1.trans (b7.mono b1.size))))
  all_goals
    go_ret
    exact ⟨rfl, b07⟩
theorem langprint_law (A : Option Addr) (n cp : Nat) (l : List Stp) {w : World} (hr : StepsAt w (fun _ => True) A n l) (hn : numL l) (W : World) (hE : Env w) : Calls Tryd.prog 5 #[.slice A n cp] w fun e w' => e = .returned (.bool true) ∧ Below w.heap.size w w' := langprint_walk l A n cp w _ hr hn hE
end Go.Proofs.YtimfljncibbdoaaDoor.Lg
