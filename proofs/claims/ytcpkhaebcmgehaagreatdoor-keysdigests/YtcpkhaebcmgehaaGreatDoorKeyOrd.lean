/- The contract of the reference's Order. -/
import Derived.Test.YtcpkhaebcmgehaaGreatDoorKOrd
import Derived.Test.YtcpkhaebcmgehaaGreatDoorRgGraph
import Derived.Test.YtcpkhaebcmgehaaGreatDoorRefSum
namespace Go.Proofs.YtcpkhaebcmgehaaGreatDoor
open Go.RowKit
set_option linter.unusedVariables false
set_option maxRecDepth 100000
set_option maxHeartbeats 2000000 in
theorem rorder_any (A F : Option Addr) (l : List Tg) (fs : List Fl) (c d : Nat) (g : ByteArray) (hg : g.size ≤ 100) (h1 : l.length ≤ 20) (h2 : ∀ t ∈ l, t.Ok) (h3 : fs.length ≤ 60) (h4 : ∀ f ∈ fs, f.Ok) (w : World) (hr : Tgs w w.heap.size A l) (hq : Fls w w.heap.size F fs) :
    Calls Tryz.prog 18 #[.slice A l.length c, .slice F fs.length d, .string g] w fun e w' => e = .returned (.string (orderB l fs g)) ∧ Below w.heap.size w w' := by
  have KG := Lib.hid (rgraph_any A l c h1 h2 w hr)
  have KF : Hid (∀ W, Below w.heap.size w W → Calls Tryz.prog 47 #[.slice F fs.length d] W fun e w' => e = .returned (.string (bs (Pk.list (fs.map Fl.b)))) ∧ Below W.heap.size W w') := Lib.hid (fun W hW => rfiles_any F fs d h3 h4 W ((hq.below hW).more hW.size))
  have TX : Hid (∀ W, Calls Tryz.prog 39 #[.string g] W fun e w' => e = .returned (.string (bs (Pk.text (tl g)))) ∧ Below W.heap.size W w') := Lib.hid (fun W => reftext_any g (by omega) W)
  have OB : Hid (orderB l fs g = bs (Blk.sum (tl (bs (Pk.list (l.map Tg.b)) ++ bs (Pk.list (fs.map Fl.b)) ++ bs (Pk.text (tl g)))))) := Lib.hid rfl
  have x1 := glist_le h1 h2
  have x2 := flist_le h3 h4
  have x3 := textlen_le g (by omega)
  generalize bs (Pk.list (l.map Tg.b)) = X at *
  generalize bs (Pk.list (fs.map Fl.b)) = Y at *
  generalize bs (Pk.text (tl g)) = Z at *
  generalize orderB l fs g = R at *
  have hXY : X.size + Y.size ≤ 9223372036854775807 := by omega
  have hXYZ : X.size + Y.size + Z.size ≤ 9223372036854775807 := by omega
  have hXYZ' : (X ++ Y).size + Z.size ≤ 9223372036854775807 := by rw [ByteArray.size_append]; omega
  have SM : Hid (∀ W, Calls Tryz.prog 38 #[.string (X ++ Y ++ Z)] W fun e w' => e = .returned (.string R) ∧ Below W.heap.size W w') := Lib.hid (by rw [OB.out]; exact fun W => refsum_any (X ++ Y ++ Z) (by rw [ByteArray.size_append, ByteArray.size_append]; omega) W)
  clear x1 x2 x3 h2 h4
  go_enter Tryz.func18, Tryz.ntmps18
  go_wp2_with (first | (go_at_call 46; ((with_reducible refine (KG.out).mono ?_); rintro e w1 ⟨rfl, hb1⟩)) | (go_at_call 47; ((with_reducible refine (KF.out _ hb1).mono ?_); rintro e w2 ⟨rfl, hb2⟩; have hb12 := hb1.trans (hb2.mono hb1.size))) | (go_at_call 39; ((with_reducible refine (TX.out _).mono ?_); rintro e w3 ⟨rfl, hb3⟩; have hb13 := hb12.trans (hb3.mono hb12.size))) | (go_at_call 38; ((with_reducible refine (SM.out _).mono ?_); rintro e w4 ⟨rfl, hb4⟩)))
  go_ret
  exact ⟨rfl, hb13.trans (hb4.mono hb13.size)⟩
end Go.Proofs.YtcpkhaebcmgehaaGreatDoor
