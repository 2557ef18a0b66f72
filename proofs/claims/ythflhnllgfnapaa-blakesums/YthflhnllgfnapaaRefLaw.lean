/- The walk of BlakeSums. -/
import Derived.Test.YthflhnllgfnapaaBlkLaw
import Derived.Test.YthflhnllgfnapaaRefSum
namespace Go.Proofs.Ythflhnllgfnapaa
open Go.RowKit Blk
set_option linter.unusedVariables false
theorem bsums_walk (a : ByteArray) (ha : a.size ≤ maxLen) (w : World) :
    Calls Try.prog 3 #[.string a] w fun e w' => e = .returned (.bool true) ∧ Below w.heap.size w w' := by
  unfold maxLen at ha
  by_cases h1 : 100000 < a.size
  · have i1 : (100000 : Int) < (a.size : Int) := by omega
    go_enter Try.func3, Try.ntmps3
    go_wp2_with (go_at_call 9; ((with_reducible refine (awake_any _).mono ?_); rintro e w1 ⟨rfl, hb1⟩))
    go_ret
    exact ⟨rfl, hb1⟩
  · have wx := sum_any a (by omega)
    have rx := refsum_any a (by omega)
    generalize (⟨(sum a.data.toList).toArray⟩ : ByteArray) = X at *
    have WX := Lib.hid wx
    have RX := Lib.hid rx
    clear wx rx
    have i1 : ¬ (100000 : Int) < (a.size : Int) := by omega
    go_enter Try.func3, Try.ntmps3
    go_wp2_with (first | (go_at_call 7; ((with_reducible refine (WX.out _).mono ?_); rintro e w1 ⟨rfl, hb1⟩)) | (go_at_call 8; ((with_reducible refine (RX.out _).mono ?_); rintro e w2 ⟨rfl, hb2⟩)) | (go_at_call 9; ((with_reducible refine (awake_any _).mono ?_); rintro e w4 ⟨rfl, hb4⟩)))
    go_ret
    have z1 := hb1.size
    have z2 := hb2.size
    exact ⟨rfl, hb1.trans ((hb2.mono (by omega)).trans (hb4.mono (by omega)))⟩
end Go.Proofs.Ythflhnllgfnapaa
