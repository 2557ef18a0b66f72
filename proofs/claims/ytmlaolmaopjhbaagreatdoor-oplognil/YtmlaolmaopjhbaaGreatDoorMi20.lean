/- Joined by mkmerged.py: BxHas. -/
import Derived.Test.YtmlaolmaopjhbaaGreatDoorMi18
import Derived.Test.YtmlaolmaopjhbaaGreatDoorMi19
import Derived.Test.YtmlaolmaopjhbaaGreatDoorMi05
/- BxHas, what a claim needs of it (prune.py). -/
namespace Go.Proofs.YtmlaolmaopjhbaaGreatDoor.Bx
open Go.RowKit
open Lg (Lies strV)
open Fs (B idx NoneTo idx_hit idx_miss idx_any)
set_option linter.unusedVariables false
set_option maxRecDepth 100000
theorem index_any (A : Option Addr) (l : List B) (c : Nat) (q : B) (w : World) (hr : Reads w w.heap.size 1 A l.length (strV l)) (hl : l.length ≤ 1000000000) :
    Calls Tryz.prog 138 #[.slice A l.length c, .string (bs q)] w fun e w' => e = .returned (.int .i64 (idx (fun x => decide (x = q)) l)) ∧ w = w' := by
  have RD := Lib.hid hr
  clear hr
  go_enter Tryz.func138, Tryz.ntmps138
  go_wp2_with (fail)
  go_loop [8] (fun i => ∃ k : Nat, i = .int .i64 k ∧ k ≤ l.length ∧ Hid (NoneTo (fun x => decide (x = q)) l k)) (fun i => l.length - (intOf i).toNat)
  case atStart => exact ⟨0, rfl, by omega, Lib.hid (NoneTo.zero _ _)⟩
  case round =>
    obtain ⟨k, rfl, hk, HN⟩ := hrel
    by_cases hlt : k < l.length
    · have hkI : (k : Int) < (l.length : Int) := by omega
      obtain ⟨ad, u, rfl, had, hue, c1⟩ := RD.out.at_ hlt
      have hue' : u = .string (bs l[k]) := by
        rw [List.getElem?_map, List.getElem?_eq_getElem hlt] at hue
        exact (Option.some.inj hue).symm
      subst hue'
      clear hue
      by_cases h : l[k] = q
      · have F := Lib.hid (idx_hit hlt HN.out (decide_eq_true h))
        have g : ((bs q).toList == (bs l[k]).toList) = true := by rw [h]; simp
        have g2 : ((bs l[k]).toList == (bs q).toList) = true := by rw [h]; simp
        clear h
        generalize bs l[k] = x at *
        go_wp2_with (fail)
        go_ret
        exact ⟨Lg.ret_int F.out, rfl⟩
      · have F := Lib.hid (HN.out.next hlt (decide_eq_false h))
        have g : ((bs l[k]).toList == (bs q).toList) = false := Lg.s_ne (fun e => h (by have := congrArg tl e; exact this))
        have g2 : ((bs q).toList == (bs l[k]).toList) = false := Lg.s_ne (fun e => h (by have := congrArg tl e; exact this.symm))
        clear h
        generalize bs l[k] = x at *
        go_wp2_with (fail)
        go_round
        case rel => exact ⟨k + 1, by go_num, by omega, F⟩
        case measure => simp [intOf]; omega
    · obtain rfl : k = l.length := by omega
      have F := Lib.hid (idx_miss HN.out)
      go_wp2_with (fail)
      go_ret
      exact ⟨Lg.ret_int F.out, rfl⟩
theorem any_mem (l : List B) (q : B) : (l.any fun x => decide (x = q)) = decide (q ∈ l) := by
  rw [Bool.eq_iff_iff]
  simp
theorem contains_any (A : Option Addr) (l : List B) (c : Nat) (q : B) (w : World) (hr : Reads w w.heap.size 1 A l.length (strV l)) (hl : l.length ≤ 1000000000) :
    Calls Tryz.prog 66 #[.slice A l.length c, .string (bs q)] w fun e w' => e = .returned (.bool (decide (q ∈ l))) ∧ w = w' := by
  have IX := Lib.hid (index_any A l c q w hr hl)
  have F := Lib.hid ((idx_any (fun x => decide (x = q)) l).trans (any_mem l q))
  generalize idx (fun x => decide (x = q)) l = r at *
  clear hr
  go_enter Tryz.func66, Tryz.ntmps66
  go_wp2_with (go_at_call 138; (with_reducible refine (IX.out).mono ?_); rintro e w1 ⟨rfl, rfl⟩)
  go_ret
  exact ⟨by rw [← F.out]; rfl, rfl⟩
end Go.Proofs.YtmlaolmaopjhbaaGreatDoor.Bx
