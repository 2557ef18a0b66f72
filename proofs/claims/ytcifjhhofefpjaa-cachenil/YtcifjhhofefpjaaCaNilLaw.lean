/- The law CacheNil, walked. -/
import Derived.Test.YtcifjhhofefpjaaCaAwake
namespace Go.Proofs.Ytcifjhhofefpjaa.Ca
open Go.RowKit Go.Maps Go.Shelf
set_option linter.unusedVariables false
set_option maxRecDepth 100000
theorem nil_law (key : ByteArray) (w : World) : Calls Try.prog 6 #[.string key] w fun e w' => e = .returned (.bool true) ∧ Below w.heap.size w w' := by
  go_enter Try.func6, Try.ntmps6
  go_wp2_with (first
    | (go_at_call 13; ((with_reducible refine (I.get_nil _ _).mono ?_); rintro e w' ⟨rfl, rfl⟩))
    | (go_at_call 9; ((with_reducible refine (I.put_nil _ 1 _).mono ?_); rintro e w1 ⟨rfl, b1⟩))
    | (go_at_call 15; ((with_reducible refine (I.pin_nil _ _).mono ?_); rintro e w' ⟨rfl, rfl⟩))
    | (go_at_call 17; ((with_reducible refine (I.unpin_nil _ _).mono ?_); rintro e w' ⟨rfl, rfl⟩))
    | (go_at_call 19; ((with_reducible refine (I.drop_nil _ _).mono ?_); rintro e w' ⟨rfl, rfl⟩))
    | (go_at_call 10; ((with_reducible refine (I.keys_nil _).mono ?_); rintro e w2 ⟨rfl, b2⟩))
    | (go_at_call 7; ((with_reducible refine (awake_any _).mono ?_); rintro e w3 ⟨rfl, b3⟩)))
  go_ret
  exact ⟨rfl, (b1.trans (b2.mono b1.size)).trans (b3.mono (b1.trans (b2.mono b1.size)).size)⟩
end Go.Proofs.Ytcifjhhofefpjaa.Ca
