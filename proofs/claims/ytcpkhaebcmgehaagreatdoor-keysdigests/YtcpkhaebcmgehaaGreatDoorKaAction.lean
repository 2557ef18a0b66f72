/- The contracts of keys.Action and of the reference's Action. -/
import Derived.Test.YtcpkhaebcmgehaaGreatDoorKaNum
import Derived.Test.YtcpkhaebcmgehaaGreatDoorKgFn
import Derived.Test.YtcpkhaebcmgehaaGreatDoorFsDir
import Derived.Test.YtcpkhaebcmgehaaGreatDoorFsRefD
namespace Go.Proofs.YtcpkhaebcmgehaaGreatDoor
open Go.RowKit
set_option linter.unusedVariables false
set_option maxRecDepth 100000
theorem itoa_pos {n : Int} (h : ¬ n < 0) : Lib.itoa n = Lib.decDigits n.toNat := by unfold Lib.itoa; rw [if_neg h]
theorem itoa_neg {n : Int} (h : n < 0) : Lib.itoa n = 45 :: Lib.decDigits n.natAbs := by unfold Lib.itoa; rw [if_pos h]
theorem rdigits_int (n : Int) (h0 : -9223372036854775808 ≤ n) (h1 : n ≤ 9223372036854775807) (w : World) :
    Calls Tryz.prog 80 #[.int .i64 n] w fun e w' => e = .returned (.string (bs (Lib.itoa n))) ∧ Below w.heap.size w w' := by
  by_cases h : n < 0
  · have := digits_neg n.natAbs (by omega) (by omega) w
    rw [itoa_neg h]
    rwa [show -((n.natAbs : Nat) : Int) = n by omega] at this
  · have := digits_any n.toNat (by omega) w
    rw [itoa_pos h]
    rwa [show ((n.toNat : Nat) : Int) = n by omega] at this
/-- the reference's Num -/
theorem rnum_any (n : Int) (h0 : -9223372036854775808 ≤ n) (h1 : n ≤ 9223372036854775807) (w : World) :
    Calls Tryz.prog 42 #[.int .i64 n] w fun e w' => e = .returned (.string (bs (Pk.text (Lib.itoa n)))) ∧ Below w.heap.size w w' := by
  have hl := itoa_len n h0 h1
  have IT := Lib.hid (rdigits_int n h0 h1 w)
  have TX : Hid (∀ W, Calls Tryz.prog 39 #[.string (bs (Lib.itoa n))] W fun e w' => e = .returned (.string (bs (Pk.text (Lib.itoa n)))) ∧ Below W.heap.size W w') := Lib.hid fun W => reftext_any (bs (Lib.itoa n)) (by rw [bs_size]; omega) W
  clear hl
  generalize Pk.text (Lib.itoa n) = t at *
  generalize Lib.itoa n = s at *
  go_enter Tryz.func42, Tryz.ntmps42
  go_wp2_with (first
    | (go_at_call 80; (with_reducible refine (IT.out).mono ?_); rintro e w1 ⟨rfl, hb1⟩)
    | (go_at_call 39; (with_reducible refine (TX.out _).mono ?_); rintro e w2 ⟨rfl, hb2⟩))
  go_ret
  exact ⟨rfl, hb1.trans (hb2.mono hb1.size)⟩
/-- the digest of an action -/
def actionB (c : ByteArray) (l : List Fl) (ns : List ByteArray) (n : Int) : ByteArray := bs (Blk.sum (tl (bs (Pk.text (tl c)) ++ bs (Pk.text (Fs.digest l)) ++ bs (Pk.list (ns.map tl)) ++ bs (Pk.text (Lib.itoa n)))))
structure ActOk (c : ByteArray) (l : List Fl) (ns : List ByteArray) (n : Int) : Prop where
  c : c.size ≤ 2000
  l : Fs.Small l
  nl : ns.length ≤ 20
  ns : ∀ x ∈ ns, x.size ≤ 100
  n0 : -9223372036854775808 ≤ n
  n1 : n ≤ 9223372036854775807
theorem ActOk.flat {c : ByteArray} {l : List Fl} {ns : List ByteArray} {n : Int} (h : ActOk c l ns n) : ((ns.map tl).flatMap Pk.text).length ≤ 2420 := by
  have h1 := flat_le ns 100 (by omega) h.ns
  have h2 : ns.length * (100 + 21) ≤ 20 * (100 + 21) := Nat.mul_le_mul_right _ h.nl
  omega
theorem digest_len (l : List Fl) : (Fs.digest l).length = 32 := Blk.sum_len _
set_option maxHeartbeats 2000000 in
theorem kaction_any (c : ByteArray) (A N : Option Addr) (l : List Fl) (ns : List ByteArray) (d m : Nat) (n : Int) (hok : ActOk c l ns n) (w : World) (hE : Fs.Env w) (hr : Fs.Fls w A l) (hn : Strs w w.heap.size N ns) :
    Calls Tryz.prog 13 #[.string c, .slice A l.length d, .slice N ns.length m, .int .i64 n] w fun e w' => e = .returned (.string (actionB c l ns n)) ∧ Below w.heap.size w w' := by
  have TC : Hid (Calls Tryz.prog 34 #[.string c] w fun e w' => e = .returned (.string (bs (Pk.text (tl c)))) ∧ Below w.heap.size w w') := Lib.hid (text_any c (by have := hok.c; omega) w hE.2)
  have DG : Hid (∀ W, Below w.heap.size w W → Calls Tryz.prog 35 #[.slice A l.length d] W fun e w' => e = .returned (.string (bs (Fs.digest l))) ∧ Below W.heap.size W w') := Lib.hid fun W hW => Fs.pdigest_any A l d W (hE.below hW) ((hr.below hW).more hW.size) hok.l
  have TD : Hid (∀ W, Below w.heap.size w W → Calls Tryz.prog 34 #[.string (bs (Fs.digest l))] W fun e w' => e = .returned (.string (bs (Pk.text (Fs.digest l)))) ∧ Below W.heap.size W w') := Lib.hid fun W hW => text_any (bs (Fs.digest l)) (by rw [bs_size, digest_len]; omega) W (hE.2.on hW)
  have LN : Hid (∀ W, Below w.heap.size w W → Calls Tryz.prog 36 #[.slice N ns.length m] W fun e w' => e = .returned (.string (bs (Pk.list (ns.map tl)))) ∧ Below W.heap.size W w') := Lib.hid fun W hW => plist_any N ns m W (hE.2.on hW) ((hn.below hW).more hW.size) (by have := hok.flat; omega)
  have NU : Hid (∀ W, Below w.heap.size w W → Calls Tryz.prog 37 #[.int .i64 n] W fun e w' => e = .returned (.string (bs (Pk.text (Lib.itoa n)))) ∧ Below W.heap.size W w') := Lib.hid fun W hW => pnum_any n hok.n0 hok.n1 W (hE.2.on hW)
  have OB : Hid (actionB c l ns n = bs (Blk.sum (tl (bs (Pk.text (tl c)) ++ bs (Pk.text (Fs.digest l)) ++ bs (Pk.list (ns.map tl)) ++ bs (Pk.text (Lib.itoa n)))))) := Lib.hid rfl
  have x1 := textlen_le c (by have := hok.c; omega)
  have x2 := textlen_le (bs (Fs.digest l)) (by rw [bs_size, digest_len]; omega)
  rw [bs_size (Fs.digest l), digest_len, show tl (bs (Fs.digest l)) = Fs.digest l from rfl] at x2
  have x3 := listlen_le ns (by have := hok.flat; omega)
  have x4 := textlen_le (bs (Lib.itoa n)) (by rw [bs_size]; have := itoa_len n hok.n0 hok.n1; omega)
  rw [bs_size (Lib.itoa n), show tl (bs (Lib.itoa n)) = Lib.itoa n from rfl] at x4
  have hfl := hok.flat
  have hcc := hok.c
  have hil := itoa_len n hok.n0 hok.n1
  clear hok hE hr hn
  generalize bs (Pk.text (tl c)) = X at *
  generalize bs (Pk.text (Fs.digest l)) = Y at *
  generalize bs (Pk.list (ns.map tl)) = Z at *
  generalize bs (Pk.text (Lib.itoa n)) = U at *
  generalize actionB c l ns n = R at *
  have k1 : X.size + Y.size ≤ 9223372036854775807 := by omega
  have k2 : X.size + Y.size + Z.size ≤ 9223372036854775807 := by omega
  have k3 : X.size + Y.size + Z.size + U.size ≤ 9223372036854775807 := by omega
  have k4 : (X ++ Y).size + Z.size ≤ 9223372036854775807 := by rw [ByteArray.size_append]; omega
  have k5 : (X ++ Y ++ Z).size + U.size ≤ 9223372036854775807 := by rw [ByteArray.size_append, ByteArray.size_append]; omega
  have SM : Hid (∀ W, Calls Tryz.prog 33 #[.string (X ++ Y ++ Z ++ U)] W fun e w' => e = .returned (.string R) ∧ Below W.heap.size W w') := Lib.hid (by rw [OB.out]; exact fun W => sum_any (X ++ Y ++ Z ++ U) (by rw [ByteArray.size_append, ByteArray.size_append, ByteArray.size_append]; omega) W)
  clear x1 x2 x3 x4 hfl hcc hil
  go_enter Tryz.func13, Tryz.ntmps13
  go_wp2_with (first
    | (go_at_call 34; first | ((with_reducible refine (TC.out).mono ?_); rintro e w1 ⟨rfl, hb1⟩; clear TC) | ((with_reducible refine (TD.out _ b2).mono ?_); rintro e w3 ⟨rfl, hb3⟩; have b3 := b2.trans (hb3.mono b2.size); clear TD))
    | (go_at_call 35; (with_reducible refine (DG.out _ hb1).mono ?_); rintro e w2 ⟨rfl, hb2⟩; have b2 := hb1.trans (hb2.mono hb1.size))
    | (go_at_call 36; (with_reducible refine (LN.out _ b3).mono ?_); rintro e w4 ⟨rfl, hb4⟩; have b4 := b3.trans (hb4.mono b3.size))
    | (go_at_call 37; (with_reducible refine (NU.out _ b4).mono ?_); rintro e w5 ⟨rfl, hb5⟩; have b5 := b4.trans (hb5.mono b4.size))
    | (go_at_call 33; (with_reducible refine (SM.out _).mono ?_); rintro e w6 ⟨rfl, hb6⟩))
  go_ret
  exact ⟨rfl, b5.trans (hb6.mono b5.size)⟩
set_option maxHeartbeats 2000000 in
theorem raction_any (c : ByteArray) (A N : Option Addr) (l : List Fl) (ns : List ByteArray) (d m : Nat) (n : Int) (hok : ActOk c l ns n) (w : World) (hld : l.length ≤ d) (hr : Fs.Fls w A l) (hn : Strs w w.heap.size N ns) :
    Calls Tryz.prog 14 #[.string c, .slice A l.length d, .slice N ns.length m, .int .i64 n] w fun e w' => e = .returned (.string (actionB c l ns n)) ∧ Below w.heap.size w w' := by
  have TC : Hid (Calls Tryz.prog 39 #[.string c] w fun e w' => e = .returned (.string (bs (Pk.text (tl c)))) ∧ Below w.heap.size w w') := Lib.hid (reftext_any c (by have := hok.c; omega) w)
  have DG : Hid (∀ W, Below w.heap.size w W → Calls Tryz.prog 40 #[.slice A l.length d] W fun e w' => e = .returned (.string (bs (Fs.digest l))) ∧ Below W.heap.size W w') := Lib.hid fun W hW => Fs.rdigest_any A l d W ((hr.below hW).more hW.size) hok.l hld
  have TD : Hid (∀ W, Below w.heap.size w W → Calls Tryz.prog 39 #[.string (bs (Fs.digest l))] W fun e w' => e = .returned (.string (bs (Pk.text (Fs.digest l)))) ∧ Below W.heap.size W w') := Lib.hid fun W hW => reftext_any (bs (Fs.digest l)) (by rw [bs_size, digest_len]; omega) W
  have LN : Hid (∀ W, Below w.heap.size w W → Calls Tryz.prog 41 #[.slice N ns.length m] W fun e w' => e = .returned (.string (bs (Pk.list (ns.map tl)))) ∧ Below W.heap.size W w') := Lib.hid fun W hW => reflist_any N ns m W ((hn.below hW).more hW.size) (by have := hok.flat; omega)
  have NU : Hid (∀ W, Below w.heap.size w W → Calls Tryz.prog 42 #[.int .i64 n] W fun e w' => e = .returned (.string (bs (Pk.text (Lib.itoa n)))) ∧ Below W.heap.size W w') := Lib.hid fun W hW => rnum_any n hok.n0 hok.n1 W
  have OB : Hid (actionB c l ns n = bs (Blk.sum (tl (bs (Pk.text (tl c)) ++ bs (Pk.text (Fs.digest l)) ++ bs (Pk.list (ns.map tl)) ++ bs (Pk.text (Lib.itoa n)))))) := Lib.hid rfl
  have x1 := textlen_le c (by have := hok.c; omega)
  have x2 := textlen_le (bs (Fs.digest l)) (by rw [bs_size, digest_len]; omega)
  rw [bs_size (Fs.digest l), digest_len, show tl (bs (Fs.digest l)) = Fs.digest l from rfl] at x2
  have x3 := listlen_le ns (by have := hok.flat; omega)
  have x4 := textlen_le (bs (Lib.itoa n)) (by rw [bs_size]; have := itoa_len n hok.n0 hok.n1; omega)
  rw [bs_size (Lib.itoa n), show tl (bs (Lib.itoa n)) = Lib.itoa n from rfl] at x4
  have hfl := hok.flat
  have hcc := hok.c
  have hil := itoa_len n hok.n0 hok.n1
  clear hok hr hn hld
  generalize bs (Pk.text (tl c)) = X at *
  generalize bs (Pk.text (Fs.digest l)) = Y at *
  generalize bs (Pk.list (ns.map tl)) = Z at *
  generalize bs (Pk.text (Lib.itoa n)) = U at *
  generalize actionB c l ns n = R at *
  have k1 : X.size + Y.size ≤ 9223372036854775807 := by omega
  have k2 : X.size + Y.size + Z.size ≤ 9223372036854775807 := by omega
  have k3 : X.size + Y.size + Z.size + U.size ≤ 9223372036854775807 := by omega
  have k4 : (X ++ Y).size + Z.size ≤ 9223372036854775807 := by rw [ByteArray.size_append]; omega
  have k5 : (X ++ Y ++ Z).size + U.size ≤ 9223372036854775807 := by rw [ByteArray.size_append, ByteArray.size_append]; omega
  have SM : Hid (∀ W, Calls Tryz.prog 38 #[.string (X ++ Y ++ Z ++ U)] W fun e w' => e = .returned (.string R) ∧ Below W.heap.size W w') := Lib.hid (by rw [OB.out]; exact fun W => refsum_any (X ++ Y ++ Z ++ U) (by rw [ByteArray.size_append, ByteArray.size_append, ByteArray.size_append]; omega) W)
  clear x1 x2 x3 x4 hfl hcc hil
  go_enter Tryz.func14, Tryz.ntmps14
  go_wp2_with (first
    | (go_at_call 39; first | ((with_reducible refine (TC.out).mono ?_); rintro e w1 ⟨rfl, hb1⟩; clear TC) | ((with_reducible refine (TD.out _ b2).mono ?_); rintro e w3 ⟨rfl, hb3⟩; have b3 := b2.trans (hb3.mono b2.size); clear TD))
    | (go_at_call 40; (with_reducible refine (DG.out _ hb1).mono ?_); rintro e w2 ⟨rfl, hb2⟩; have b2 := hb1.trans (hb2.mono hb1.size))
    | (go_at_call 41; (with_reducible refine (LN.out _ b3).mono ?_); rintro e w4 ⟨rfl, hb4⟩; have b4 := b3.trans (hb4.mono b3.size))
    | (go_at_call 42; (with_reducible refine (NU.out _ b4).mono ?_); rintro e w5 ⟨rfl, hb5⟩; have b5 := b4.trans (hb5.mono b4.size))
    | (go_at_call 38; (with_reducible refine (SM.out _).mono ?_); rintro e w6 ⟨rfl, hb6⟩))
  go_ret
  exact ⟨rfl, b5.trans (hb6.mono b5.size)⟩
end Go.Proofs.YtcpkhaebcmgehaaGreatDoor
