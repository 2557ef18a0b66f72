/- The contract of keys.Order. -/
import Derived.Test.YtcpkhaebcmgehaaGreatDoorTgMore
import Derived.Test.YtcpkhaebcmgehaaGreatDoorBlkSum
namespace Go.Proofs.YtcpkhaebcmgehaaGreatDoor
open Go.RowKit
set_option linter.unusedVariables false
set_option maxRecDepth 100000
theorem glist_le {l : List Tg} (hl : l.length ≤ 20) (hok : ∀ t ∈ l, t.Ok) : (bs (Pk.list (l.map Tg.b))).size ≤ 200441 := by
  have h1 := flat_le (l.map fun t => bs t.b) 10000 (by omega) (fun x hx => by
    obtain ⟨t, h1, rfl⟩ := List.mem_map.1 hx
    exact (hok t h1).b_le)
  have h2 : (l.map fun t => bs t.b).length * (10000 + 21) ≤ 20 * (10000 + 21) := Nat.mul_le_mul_right _ (by simpa using hl)
  have h3 := listlen_le (l.map fun t => bs t.b) (by omega)
  rw [show ((l.map fun t => bs t.b).map tl) = l.map Tg.b by rw [List.map_map]; rfl] at h1 h3
  omega
theorem flist_le {l : List Fl} (hl : l.length ≤ 60) (hok : ∀ t ∈ l, t.Ok) : (bs (Pk.list (l.map Fl.b))).size ≤ 241281 := by
  have h1 := flat_le (l.map fun t => bs t.b) 4000 (by omega) (fun x hx => by
    obtain ⟨t, h1, rfl⟩ := List.mem_map.1 hx
    exact (hok t h1).b_le)
  have h2 : (l.map fun t => bs t.b).length * (4000 + 21) ≤ 60 * (4000 + 21) := Nat.mul_le_mul_right _ (by simpa using hl)
  have h3 := listlen_le (l.map fun t => bs t.b) (by omega)
  rw [show ((l.map fun t => bs t.b).map tl) = l.map Fl.b by rw [List.map_map]; rfl] at h1 h3
  omega
/-- the digest of what is to be built -/
def orderB (l : List Tg) (fs : List Fl) (g : ByteArray) : ByteArray := bs (Blk.sum (tl (bs (Pk.list (l.map Tg.b)) ++ bs (Pk.list (fs.map Fl.b)) ++ bs (Pk.text (tl g)))))
set_option maxHeartbeats 2000000 in
theorem korder_any (A F : Option Addr) (l : List Tg) (fs : List Fl) (c d : Nat) (g : ByteArray) (hg : g.size ≤ 100) (h1 : l.length ≤ 20) (h2 : ∀ t ∈ l, t.Ok) (h3 : fs.length ≤ 60) (h4 : ∀ f ∈ fs, f.Ok) (w : World) (ht : Tab w) (hr : Tgs w w.heap.size A l) (hq : Fls w w.heap.size F fs) :
    Calls Tryz.prog 17 #[.slice A l.length c, .slice F fs.length d, .string g] w fun e w' => e = .returned (.string (orderB l fs g)) ∧ Below w.heap.size w w' := by
  have KG := Lib.hid (kgraph_any A l c h1 h2 w ht hr)
  have KF : Hid (∀ W, Below w.heap.size w W → Calls Tryz.prog 45 #[.slice F fs.length d] W fun e w' => e = .returned (.string (bs (Pk.list (fs.map Fl.b)))) ∧ Below W.heap.size W w') := Lib.hid (fun W hW => kfiles_any F fs d h3 h4 W (ht.on hW) ((hq.below hW).more hW.size))
  have TX : Hid (∀ W, Below w.heap.size w W → Calls Tryz.prog 34 #[.string g] W fun e w' => e = .returned (.string (bs (Pk.text (tl g)))) ∧ Below W.heap.size W w') := Lib.hid (fun W hW => text_any g (by omega) W (ht.on hW))
  have OB : Hid (orderB l fs g = bs (Blk.sum (tl (bs (Pk.list (l.map Tg.b)) ++ bs (Pk.list (fs.map Fl.b)) ++ bs (Pk.text (tl g)))))) := Lib.hid rfl
  have x1 := glist_le h1 h2
  have x2 := flist_le h3 h4
  have x3 := textlen_le g (by omega)
  generalize bs (Pk.list (l.map Tg.b)) = X at *
  generalize bs (Pk.list (fs.map Fl.b)) = Y at *
  generalize bs (Pk.text (tl g)) = Z at *
  generalize orderB l fs g = R at *
  have hXY : X.size + Y.size ≤ 9223372036854775807 := by omega
  have hXYZ : X.size + Y.size + Z.size ≤ 9223372036854775807 := by omega
  have hXYZ' : (X ++ Y).size + Z.size ≤ 9223372036854775807 := by rw [ByteArray.size_append]; omega
  have SM : Hid (∀ W, Calls Tryz.prog 33 #[.string (X ++ Y ++ Z)] W fun e w' => e = .returned (.string R) ∧ Below W.heap.size W w') := Lib.hid (by rw [OB.out]; exact fun W => sum_any (X ++ Y ++ Z) (by rw [ByteArray.size_append, ByteArray.size_append]; omega) W)
  clear x1 x2 x3 h2 h4
  go_enter Tryz.func17, Tryz.ntmps17
  go_wp2_with (first | (go_at_call 44; ((with_reducible refine (KG.out).mono ?_); rintro e w1 ⟨rfl, hb1⟩)) | (go_at_call 45; ((with_reducible refine (KF.out _ hb1).mono ?_); rintro e w2 ⟨rfl, hb2⟩; have hb12 := hb1.trans (hb2.mono hb1.size))) | (go_at_call 34; ((with_reducible refine (TX.out _ hb12).mono ?_); rintro e w3 ⟨rfl, hb3⟩; have hb13 := hb12.trans (hb3.mono hb12.size))) | (go_at_call 33; ((with_reducible refine (SM.out _).mono ?_); rintro e w4 ⟨rfl, hb4⟩)))
  go_ret
  exact ⟨rfl, hb13.trans (hb4.mono hb13.size)⟩
end Go.Proofs.YtcpkhaebcmgehaaGreatDoor
