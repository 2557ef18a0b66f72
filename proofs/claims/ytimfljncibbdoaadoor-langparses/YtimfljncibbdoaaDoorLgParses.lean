/- The walk of the law of Parse against the document's answer. -/
import Derived.Test.YtimfljncibbdoaaDoorLgLines
import Derived.Test.YtimfljncibbdoaaDoorLgRp
namespace Go.Proofs.YtimfljncibbdoaaDoor.Lg
open Go.RowKit
set_option linter.unusedVariables false
set_option maxRecDepth 100000
theorem rparse_of {cmd : ByteArray} {m : List Stp} {k : Nat} (h : parse (tl cmd) = (m, k)) (w : World) :
    Calls Tryd.prog 9 #[.string cmd] w fun e w' => (∃ A n c, e = .returned (.tuple #[.slice A n c, .int .i64 k]) ∧ n ≤ c ∧ StepsAt w' (fun _ => True) A n m) ∧ Below w.heap.size w w' := by
  refine (rparse_any cmd w).mono ?_
  rintro e w' ⟨⟨A, n, c, h1, h2, h3⟩, hb⟩
  rw [h] at h1 h3
  exact ⟨⟨A, n, c, h1, h2, h3⟩, hb⟩
set_option maxHeartbeats 1000000 in
theorem parses_walk (cmd : ByteArray) (w : World) (hE : Env w) : Calls Tryd.prog 3 #[.string cmd] w fun e w' => e = .returned (.bool true) ∧ Below w.heap.size w w' := by
  have AW := Lib.hid awake_any
  have EV := Lib.hid (fun W (h : Below w.heap.size w W) => hE.below h)
  clear hE
  by_cases ha : 20000 < cmd.size
  · have haI : (20000 : Int) < (cmd.size : Int) := by omega
    go_enter Tryd.func3, Tryd.ntmps3
    go_wp2_with (go_at_call 7; (with_reducible refine (AW.out _ (EV.out _ (Below.refl _ _))).mono ?_); rintro e w1 ⟨rfl, b1⟩)
    go_ret
    exact ⟨rfl, b1⟩
  have haI : ¬ (20000 : Int) < (cmd.size : Int) := by omega
  rcases pa : parse (tl cmd) with ⟨x, ea⟩
  have PA := Lib.hid (parse_of pa (by omega))
  have PB := Lib.hid (rparse_of pa)
  have LA := Lib.hid (parse_len pa)
  have HS : Hid (cmd.size ≤ 20000) := Lib.hid (by omega)
  clear pa ha
  go_enter Tryd.func3, Tryd.ntmps3
  go_wp2_with (fail)
  refine (PA.out w (EV.out _ (Below.refl _ _))).mono ?_
  rintro e w1 ⟨⟨A1, n1, c1, rfl, _, s1⟩, b1⟩
  go_wp2_with (fail)
  refine (PB.out w1).mono ?_
  rintro e w2 ⟨⟨A2, n2, c2, rfl, _, s2⟩, b2⟩
  have b02 := b1.trans (b2.mono b1.size)
  have SE := Lib.hid (sameE x (by have := LA.out.2.1; have := HS.out; omega) (by have := LA.out.2.2; have := HS.out; omega) A1 A2 n1 n2 c1 c2 w2 _ _ (s1.below b2) s2)
  clear s1 s2 LA
  go_wp2_with (first
    | (go_at_call 10; (with_reducible refine (SE.out).mono ?_); rintro e w6 ⟨rfl, b6⟩; have b06 := b02.trans (b6.mono b02.size))
    | (go_at_call 7; (with_reducible refine (AW.out _ (EV.out _ b06)).mono ?_); rintro e w7 ⟨rfl, b7⟩))
  go_ret
  exact ⟨rfl, b06.trans (b7.mono b06.size)⟩
theorem parses_law {p : Prop} (a : ByteArray) (_ : p) (w : World) (hE : Env w) : Calls Tryd.prog 3 #[.string a] w fun e w' => e = .returned (.bool true) ∧ Below w.heap.size w w' := parses_walk a w hE
end Go.Proofs.YtimfljncibbdoaaDoor.Lg
