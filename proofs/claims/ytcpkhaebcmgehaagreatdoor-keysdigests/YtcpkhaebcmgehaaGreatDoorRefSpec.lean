/- The reference's reckoning, in plain Lean. -/
import Derived.Test.YtcpkhaebcmgehaaGreatDoorBlkSpec
import Derived.Laws.BitsLemmas
import Derived.IntWalk
namespace Go.Proofs.YtcpkhaebcmgehaaGreatDoor.Blk
open Go Go.RowKit
theorem wraps_i64 (n : Int) (h0 : 0 ≤ n) (h1 : n < 2 ^ 63) : IntKind.i64.wrap n = n := by
  have : (2 : Int) ^ 63 = 9223372036854775808 := by decide
  exact IntWalk.i64_in _ (by omega)
theorem i64_or (a b : Nat) (ha : a < 2 ^ 63) (hb : b < 2 ^ 63) : bits .or .i64 (a : Int) (b : Int) = ((a ||| b : Nat) : Int) := (bits_nat .i64 63 (by decide) wraps_i64 a b ha hb).2
theorem i64_xor (a b : Nat) (ha : a < 4294967296) (hb : b < 4294967296) : bits .xor .i64 (a : Int) (b : Int) = ((a ^^^ b : Nat) : Int) := by
  have hx := xor_lt ha hb
  have ha' : a % 2 ^ 64 = a := Nat.mod_eq_of_lt (by have : (2:Nat)^64 = 18446744073709551616 := by decide
                                                    omega)
  have hb' : b % 2 ^ 64 = b := Nat.mod_eq_of_lt (by have : (2:Nat)^64 = 18446744073709551616 := by decide
                                                    omega)
  simp only [bits, BitVec.ofInt_natCast, BitVec.toNat_xor, BitVec.toNat_ofNat, show IntKind.i64.bits = 64 from rfl, ha', hb']
  exact IntWalk.i64_in _ (by omega)
theorem rotRef (n x p q : Nat) (hn : 7 ≤ n) (hp : p = 2 ^ n) (hq : q = 2 ^ (32 - n)) (h : x < 4294967296) :
    (bits .or .i64 ((x : Int) / (p : Int)) ((x : Int) * (q : Int))).tmod 4294967296 = ((rot n x : Nat) : Int) := by
  have h2 : q ≤ 2 ^ 25 := by rw [hq]; exact Nat.pow_le_pow_right (by decide) (by omega)
  have h25 : (2 : Nat) ^ 25 = 33554432 := by decide
  have h63 : (2 : Nat) ^ 63 = 9223372036854775808 := by decide
  have h1 : x * q ≤ 4294967295 * 33554432 := Nat.mul_le_mul (by omega) (by omega)
  have hd : x / p < 4294967296 := Nat.lt_of_le_of_lt (Nat.div_le_self _ _) h
  rw [← Int.natCast_ediv, ← Int.natCast_mul, i64_or _ _ (by omega) (by omega)]
  rw [show (4294967296 : Int) = ((4294967296 : Nat) : Int) from rfl, ← Int.ofNat_tmod]
  congr 1
  rw [show (4294967296 : Nat) = 2 ^ 32 by decide, Nat.or_mod_two_pow, Nat.mod_eq_of_lt (show x / p < 2 ^ 32 from hd)]
  subst hp hq
  rfl
end Go.Proofs.YtcpkhaebcmgehaaGreatDoor.Blk
