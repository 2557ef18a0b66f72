/- The walk of TreeDigests. -/
import Derived.Test.YtglenhlhkgjnbaaGreatDoorFsFew
import Derived.Test.YtglenhlhkgjnbaaGreatDoorFsCheck
namespace Go.Proofs.YtglenhlhkgjnbaaGreatDoor.Fs
open Go.RowKit
set_option linter.unusedVariables false
set_option maxRecDepth 100000
set_option maxHeartbeats 2000000 in
theorem digests_walk (A : Option Addr) (l : List Fl) (c : Nat) (w : World) (hE : Env w) (hr : Fls w A l) (hlc : l.length ≤ c) (hl : l.length ≤ maxLen) (hz : ∀ f ∈ l, f.p.size ≤ maxLen ∧ f.d.size ≤ maxLen) :
    Calls Tryz.prog 7 #[.slice A l.length c] w (Yes w) := by
  have CH := Lib.hid (pcheck_any A l c w hE hr hl hz)
  have AW : Hid (∀ W, Below w.heap.size w W → Calls Tryz.prog 14 #[] W fun e w' => e = .returned (.bool true) ∧ Below W.heap.size W w') := Lib.hid fun W hW => awake_any W (hE.below hW)
  by_cases hc : checkE l = 0
  · have hsm : Small l := ⟨by have := (check_small hc).1; omega, fun f hf => by have := (check_small hc).2 f hf; omega⟩
    have HR : Hid (∀ W, Below w.heap.size w W → Reads W w.heap.size 2 A l.length (fc l)) := Lib.hid fun W hW => hr.below hW
    have DI : Hid (∀ W, Below w.heap.size w W → Calls Tryz.prog 16 #[.slice A l.length c, .string ⟨#[]⟩] W (EntsSay (dir l) W)) := Lib.hid fun W hW => by
      have := pdir_any A l c [] (by simp) W (hE.below hW) ((hr.below hW).more hW.size) hsm
      rw [at_nil] at this
      exact this
    have hby := dir_bytes hsm
    have EN : Hid (∀ A c W, Below w.heap.size w W → Ens W A (dir l) → Calls Tryz.prog 21 #[.slice A (dir l).length c] W fun e w' => e = .returned (.tuple #[.string (bs (bytesE (dir l))), .int .i64 0]) ∧ Below W.heap.size W w') := Lib.hid fun A c W hW hr => by
      have := pencode_any A (dir l) c W (hE.below hW) hr (by omega)
      unfold EncSays at this
      rw [encode_yes (rightB_true.2 (dir_right (check_ok hc)))] at this
      exact this
    have DG : Hid (∀ W, Below w.heap.size w W → Calls Tryz.prog 18 #[.slice A l.length c] W fun e w' => e = .returned (.string (bs (Blk.sum (bytesE (dir l))))) ∧ Below W.heap.size W w') := Lib.hid fun W hW => pdigest_any A l c W (hE.below hW) ((hr.below hW).more hW.size) hsm
    have SU : Hid (∀ W, Calls Tryz.prog 29 #[.string (bs (bytesE (dir l)))] W fun e w' => e = .returned (.string (bs (Blk.sum (bytesE (dir l))))) ∧ Below W.heap.size W w') := Lib.hid fun W => sum_any _ (by rw [bs_len]; omega) W
    rw [hc] at CH
    clear hE hr hc hsm hz hby
    generalize Blk.sum (bytesE (dir l)) = g at *
    generalize bytesE (dir l) = t at *
    generalize dir l = m at *
    go_enter Tryz.func7, Tryz.ntmps7
    go_wp2_with (first
      | (go_at_call 28; (with_reducible refine (CH.out).mono ?_); rintro e w1 ⟨rfl, hb1⟩)
      | (go_at_call 16; (with_reducible refine (DI.out _ hb1).mono ?_); rintro e w2 ⟨⟨A2, c2, rfl, hr2⟩, hb2⟩; have b2 := hb1.trans (hb2.mono hb1.size); have E2 := Lib.hid (EN.out A2 c2 w2 b2 hr2); clear hr2)
      | (go_at_call 21; (with_reducible refine (E2.out).mono ?_); rintro e w3 ⟨rfl, hb3⟩; have b3 := b2.trans (hb3.mono b2.size))
      | (go_at_call 18; (with_reducible refine (DG.out _ b3).mono ?_); rintro e w4 ⟨rfl, hb4⟩; have b4 := b3.trans (hb4.mono b3.size))
      | (go_at_call 29; (with_reducible refine (SU.out _).mono ?_); rintro e w5 ⟨rfl, hb5⟩; have b5 := b4.trans (hb5.mono b4.size))
      | (go_at_call 14; ((with_reducible refine (AW.out _ b5).mono ?_); rintro e w8 ⟨rfl, hb8⟩)))
    go_ret
    exact ⟨rfl, b5.trans (hb8.mono b5.size)⟩
  · have n1 : (checkE l != 0) = true := by simpa using hc
    clear hE hr hc hz
    generalize checkE l = ce at *
    go_enter Tryz.func7, Tryz.ntmps7
    go_wp2_with (first
      | (go_at_call 28; (with_reducible refine (CH.out).mono ?_); rintro e w1 ⟨rfl, hb1⟩)
      | (go_at_call 14; ((with_reducible refine (AW.out _ hb1).mono ?_); rintro e w8 ⟨rfl, hb8⟩)))
    go_ret
    exact ⟨rfl, hb1.trans (hb8.mono hb1.size)⟩
end Go.Proofs.YtglenhlhkgjnbaaGreatDoor.Fs
