/- Joined by mkmerged.py: RefSpec, RefMix. -/
import Derived.Test.YtlndnpfjneeeeaaGreatDoorMh04
import Derived.Laws.BitsLemmas
import Derived.IntWalk
import Derived.Test.YtlndnpfjneeeeaaGreatDoorProg
import Derived.Test.YtlndnpfjneeeeaaGreatDoorMhKt
import Derived.Test.YtlndnpfjneeeeaaGreatDoorMhKm
/- RefSpec, what a claim needs of it (prune.py). -/
namespace Go.Proofs.YtlndnpfjneeeeaaGreatDoor.Blk
open Go Go.RowKit
theorem wraps_i64 (n : Int) (h0 : 0 ≤ n) (h1 : n < 2 ^ 63) : IntKind.i64.wrap n = n := by
  have : (2 : Int) ^ 63 = 9223372036854775808 := by decide
  exact IntWalk.i64_in _ (by omega)
theorem i64_or (a b : Nat) (ha : a < 2 ^ 63) (hb : b < 2 ^ 63) : bits .or .i64 (a : Int) (b : Int) = ((a ||| b : Nat) : Int) := (bits_nat .i64 63 (by decide) wraps_i64 a b ha hb).2
theorem i64_xor (a b : Nat) (ha : a < 4294967296) (hb : b < 4294967296) : bits .xor .i64 (a : Int) (b : Int) = ((a ^^^ b : Nat) : Int) := by
  have hx := xor_lt ha hb
  have ha' : a % 2 ^ 64 = a := Nat.mod_eq_of_lt (by have : (2:Nat)^64 = 18446744073709551616 := by decide
                                                    omega)
  have hb' : b % 2 ^ 64 = b := Nat.mod_eq_of_lt (by have : (2:Nat)^64 = 18446744073709551616 := by decide
                                                    omega)
  simp only [bits, BitVec.ofInt_natCast, BitVec.toNat_xor, BitVec.toNat_ofNat, show IntKind.i64.bits = 64 from rfl, ha', hb']
  exact IntWalk.i64_in _ (by omega)
theorem rotRef (n x p q : Nat) (hn : 7 ≤ n) (hp : p = 2 ^ n) (hq : q = 2 ^ (32 - n)) (h : x < 4294967296) :
    (bits .or .i64 ((x : Int) / (p : Int)) ((x : Int) * (q : Int))).tmod 4294967296 = ((rot n x : Nat) : Int) := by
  have h2 : q ≤ 2 ^ 25 := by rw [hq]; exact Nat.pow_le_pow_right (by decide) (by omega)
  have h25 : (2 : Nat) ^ 25 = 33554432 := by decide
  have h63 : (2 : Nat) ^ 63 = 9223372036854775808 := by decide
  have h1 : x * q ≤ 4294967295 * 33554432 := Nat.mul_le_mul (by omega) (by omega)
  have hd : x / p < 4294967296 := Nat.lt_of_le_of_lt (Nat.div_le_self _ _) h
  rw [← Int.natCast_ediv, ← Int.natCast_mul, i64_or _ _ (by omega) (by omega)]
  rw [show (4294967296 : Int) = ((4294967296 : Nat) : Int) from rfl, ← Int.ofNat_tmod]
  congr 1
  rw [show (4294967296 : Nat) = 2 ^ 32 by decide, Nat.or_mod_two_pow, Nat.mod_eq_of_lt (show x / p < 2 ^ 32 from hd)]
  subst hp hq
  rfl
end Go.Proofs.YtlndnpfjneeeeaaGreatDoor.Blk
/- RefMix, what a claim needs of it (prune.py). -/
namespace Go.Proofs.YtlndnpfjneeeeaaGreatDoor
open Go.RowKit Blk
set_option linter.unusedVariables false
set_option maxRecDepth 100000
theorem turned16 (x : Nat) (w : World) (h : x < 4294967296) :
    Calls Tryz.prog 281 #[.int .i64 x, .int .i64 16] w fun e w' => e = .returned (.int .i64 (rot 16 x : Nat)) ∧ ∃ n, w' = w.drewN n := by
  have r := rotRef 16 x 65536 65536 (by decide) rfl rfl h
  go_enter Tryz.func281, Tryz.ntmps281
  go_wp2
  go_quiet (fail)
  go_wp2
  go_ret
  exact ⟨by rw [← r]; rfl, ⟨_, rfl⟩⟩
theorem turned12 (x : Nat) (w : World) (h : x < 4294967296) :
    Calls Tryz.prog 281 #[.int .i64 x, .int .i64 12] w fun e w' => e = .returned (.int .i64 (rot 12 x : Nat)) ∧ ∃ n, w' = w.drewN n := by
  have r := rotRef 12 x 4096 1048576 (by decide) rfl rfl h
  go_enter Tryz.func281, Tryz.ntmps281
  go_wp2
  go_quiet (fail)
  go_wp2
  go_ret
  exact ⟨by rw [← r]; rfl, ⟨_, rfl⟩⟩
theorem turned8 (x : Nat) (w : World) (h : x < 4294967296) :
    Calls Tryz.prog 281 #[.int .i64 x, .int .i64 8] w fun e w' => e = .returned (.int .i64 (rot 8 x : Nat)) ∧ ∃ n, w' = w.drewN n := by
  have r := rotRef 8 x 256 16777216 (by decide) rfl rfl h
  go_enter Tryz.func281, Tryz.ntmps281
  go_wp2
  go_quiet (fail)
  go_wp2
  go_ret
  exact ⟨by rw [← r]; rfl, ⟨_, rfl⟩⟩
theorem turned7 (x : Nat) (w : World) (h : x < 4294967296) :
    Calls Tryz.prog 281 #[.int .i64 x, .int .i64 7] w fun e w' => e = .returned (.int .i64 (rot 7 x : Nat)) ∧ ∃ n, w' = w.drewN n := by
  have r := rotRef 7 x 128 33554432 (by decide) rfl rfl h
  go_enter Tryz.func281, Tryz.ntmps281
  go_wp2
  go_quiet (fail)
  go_wp2
  go_ret
  exact ⟨by rw [← r]; rfl, ⟨_, rfl⟩⟩
def rowI (l : List Nat) (T : List Value) : Array Value := (l.map (fun n : Nat => Value.int .i64 n) ++ T).toArray
theorem rowI_set (l : List Nat) (T : List Value) (i x : Nat) (h : i < l.length) : (rowI l T).setIfInBounds i (.int .i64 x) = rowI (l.set i x) T := by
  simp only [rowI, List.setIfInBounds_toArray, List.map_set]
  rw [List.set_append_left _ _ (by simpa using h)]
theorem rowI_get (l : List Nat) (T : List Value) (i : Nat) (h : i < l.length) : (rowI l T)[i]? = some (.int .i64 (l.getD i 0 : Nat)) := by
  simp only [rowI, List.getElem?_toArray]
  rw [List.getElem?_append_left (by simpa using h)]
  simp [h]
structure MS (g : Nat) (V : List Nat) (T : List Value) (a b c d va vb vc vd : Nat) (w w' : World) : Prop where
  m : ∃ U : List Nat, w'.heap[g]? = some (.cells (rowI U T) 3 (0, 0)) ∧ U.length = 16 ∧ (∀ i, i ≠ a → i ≠ b → i ≠ c → i ≠ d → U.getD i 0 = V.getD i 0) ∧ U.getD a 0 = va ∧ U.getD b 0 = vb ∧ U.getD c 0 = vc ∧ U.getD d 0 = vd
  grown : w.grownBy w' (some g)
namespace MS
variable {g : Nat} {V : List Nat} {T : List Value} {a b c d va vb vc vd : Nat} {w w' : World}
theorem drewN (h : MS g V T a b c d va vb vc vd w w') (n : Nat) : MS g V T a b c d va vb vc vd w (w'.drewN n) := ⟨h.m, grown_drewN h.grown n⟩
theorem frozen (h : MS g V T a b c d va vb vc vd w w') (i : Nat) : w'.frozen? ⟨g, i, none⟩ = false := by obtain ⟨U, hU, _⟩ := h.m; exact frozen_heap hU i
theorem ca (h : MS g V T a b c d va vb vc vd w w') (hi : a < 16) : w'.cell? ⟨g, a, none⟩ = some (.int .i64 (va : Nat)) := by
  obtain ⟨U, hU, hl, _, h1, h2, h3, h4⟩ := h.m
  rw [cell_heap hU, rowI_get _ _ _ (by omega)]
  subst h1 h2 h3 h4; rfl
theorem cb (h : MS g V T a b c d va vb vc vd w w') (hi : b < 16) : w'.cell? ⟨g, b, none⟩ = some (.int .i64 (vb : Nat)) := by
  obtain ⟨U, hU, hl, _, h1, h2, h3, h4⟩ := h.m
  rw [cell_heap hU, rowI_get _ _ _ (by omega)]
  subst h1 h2 h3 h4; rfl
theorem cc (h : MS g V T a b c d va vb vc vd w w') (hi : c < 16) : w'.cell? ⟨g, c, none⟩ = some (.int .i64 (vc : Nat)) := by
  obtain ⟨U, hU, hl, _, h1, h2, h3, h4⟩ := h.m
  rw [cell_heap hU, rowI_get _ _ _ (by omega)]
  subst h1 h2 h3 h4; rfl
theorem cd (h : MS g V T a b c d va vb vc vd w w') (hi : d < 16) : w'.cell? ⟨g, d, none⟩ = some (.int .i64 (vd : Nat)) := by
  obtain ⟨U, hU, hl, _, h1, h2, h3, h4⟩ := h.m
  rw [cell_heap hU, rowI_get _ _ _ (by omega)]
  subst h1 h2 h3 h4; rfl
theorem seta (h : MS g V T a b c d va vb vc vd w w') (hi : a < 16) (nb : a ≠ b) (nc : a ≠ c) (nd : a ≠ d) (z : Nat) : MS g V T a b c d z vb vc vd w (w'.setCell ⟨g, a, none⟩ (.int .i64 z)) := by
  obtain ⟨U, hU, hl, hr, h1, h2, h3, h4⟩ := h.m
  refine ⟨⟨U.set a z, ?_, by simpa using hl, fun i ha hb hc hd => (Blk.getD_set_ne _ (fun e => ha e.symm) _).trans (hr i ha hb hc hd), Blk.getD_set_eq _ (by omega) _, (Blk.getD_set_ne _ nb _).trans h2, (Blk.getD_set_ne _ nc _).trans h3, (Blk.getD_set_ne _ nd _).trans h4⟩, grown_set h.grown (.inr rfl) _ _⟩
  rw [heap_set hU, rowI_set _ _ _ _ (by omega)]
theorem setb (h : MS g V T a b c d va vb vc vd w w') (hi : b < 16) (na : b ≠ a) (nc : b ≠ c) (nd : b ≠ d) (z : Nat) : MS g V T a b c d va z vc vd w (w'.setCell ⟨g, b, none⟩ (.int .i64 z)) := by
  obtain ⟨U, hU, hl, hr, h1, h2, h3, h4⟩ := h.m
  refine ⟨⟨U.set b z, ?_, by simpa using hl, fun i ha hb hc hd => (Blk.getD_set_ne _ (fun e => hb e.symm) _).trans (hr i ha hb hc hd), (Blk.getD_set_ne _ na _).trans h1, Blk.getD_set_eq _ (by omega) _, (Blk.getD_set_ne _ nc _).trans h3, (Blk.getD_set_ne _ nd _).trans h4⟩, grown_set h.grown (.inr rfl) _ _⟩
  rw [heap_set hU, rowI_set _ _ _ _ (by omega)]
theorem setc (h : MS g V T a b c d va vb vc vd w w') (hi : c < 16) (na : c ≠ a) (nb : c ≠ b) (nd : c ≠ d) (z : Nat) : MS g V T a b c d va vb z vd w (w'.setCell ⟨g, c, none⟩ (.int .i64 z)) := by
  obtain ⟨U, hU, hl, hr, h1, h2, h3, h4⟩ := h.m
  refine ⟨⟨U.set c z, ?_, by simpa using hl, fun i ha hb hc hd => (Blk.getD_set_ne _ (fun e => hc e.symm) _).trans (hr i ha hb hc hd), (Blk.getD_set_ne _ na _).trans h1, (Blk.getD_set_ne _ nb _).trans h2, Blk.getD_set_eq _ (by omega) _, (Blk.getD_set_ne _ nd _).trans h4⟩, grown_set h.grown (.inr rfl) _ _⟩
  rw [heap_set hU, rowI_set _ _ _ _ (by omega)]
theorem setd (h : MS g V T a b c d va vb vc vd w w') (hi : d < 16) (na : d ≠ a) (nb : d ≠ b) (nc : d ≠ c) (z : Nat) : MS g V T a b c d va vb vc z w (w'.setCell ⟨g, d, none⟩ (.int .i64 z)) := by
  obtain ⟨U, hU, hl, hr, h1, h2, h3, h4⟩ := h.m
  refine ⟨⟨U.set d z, ?_, by simpa using hl, fun i ha hb hc hd => (Blk.getD_set_ne _ (fun e => hd e.symm) _).trans (hr i ha hb hc hd), (Blk.getD_set_ne _ na _).trans h1, (Blk.getD_set_ne _ nb _).trans h2, (Blk.getD_set_ne _ nc _).trans h3, Blk.getD_set_eq _ (by omega) _⟩, grown_set h.grown (.inr rfl) _ _⟩
  rw [heap_set hU, rowI_set _ _ _ _ (by omega)]
end MS
theorem list_ext16 {U L : List Nat} (h1 : U.length = L.length) (h : ∀ i, U.getD i 0 = L.getD i 0) : U = L := by
  apply List.ext_getElem h1
  intro i hi hj
  have := h i
  simpa [List.getD_eq_getElem?_getD, hi, hj] using this
set_option maxHeartbeats 4000000 in
set_option maxRecDepth 100000 in
theorem mix_any (g cap : Nat) (V : List Nat) (T : List Value) (hV : Ok 16 V) (a b c d x y : Nat) (ha : a < 16) (hb : b < 16) (hc : c < 16) (hd : d < 16) (nab : a ≠ b) (nac : a ≠ c) (nad : a ≠ d) (nbc : b ≠ c) (nbd : b ≠ d) (ncd : c ≠ d)
    (hx : x < 4294967296) (hy : y < 4294967296) (w : World) (hg : w.heap[g]? = some (.cells (rowI V T) 3 (0, 0))) :
    Calls Tryz.prog 232 #[.slice (some ⟨g, 0, none⟩) 16 cap, .int .i64 a, .int .i64 b, .int .i64 c, .int .i64 d, .int .i64 x, .int .i64 y] w fun e w' =>
      e = .returned (.tuple #[]) ∧ w'.heap[g]? = some (.cells (rowI (gstep V a b c d x y) T) 3 (0, 0)) ∧ w.grownBy w' (some g) := by
  obtain ⟨va, eva⟩ : ∃ va, va = V.getD a 0 := ⟨_, rfl⟩
  obtain ⟨vb, evb⟩ : ∃ vb, vb = V.getD b 0 := ⟨_, rfl⟩
  obtain ⟨vc, evc⟩ : ∃ vc, vc = V.getD c 0 := ⟨_, rfl⟩
  obtain ⟨vd, evd⟩ : ∃ vd, vd = V.getD d 0 := ⟨_, rfl⟩
  have ms0 : MS g V T a b c d va vb vc vd w w := ⟨⟨V, hg, hV.len, fun _ _ _ _ _ => rfl, eva.symm, evb.symm, evc.symm, evd.symm⟩, grown_refl _ _⟩
  have lva : va < 4294967296 := by rw [eva]; exact hV.lt a
  have lvb : vb < 4294967296 := by rw [evb]; exact hV.lt b
  have lvc : vc < 4294967296 := by rw [evc]; exact hV.lt c
  have lvd : vd < 4294967296 := by rw [evd]; exact hV.lt d
  obtain ⟨s0, es0⟩ : ∃ s, s = va + vb := ⟨_, rfl⟩
  obtain ⟨t0, et0⟩ : ∃ t, t = s0 + x := ⟨_, rfl⟩
  obtain ⟨a1, ea1⟩ : ∃ r, r = t0 % 4294967296 := ⟨_, rfl⟩
  have la1 : a1 < 4294967296 := by omega
  obtain ⟨s1, es1⟩ : ∃ s, s = vd ^^^ a1 := ⟨_, rfl⟩
  have ls1 : s1 < 4294967296 := by rw [es1]; exact xor_lt lvd la1
  obtain ⟨d1, ed1⟩ : ∃ r, r = rot 16 s1 := ⟨_, rfl⟩
  have ld1 : d1 < 4294967296 := by rw [ed1]; exact rot_lt ls1
  obtain ⟨s2, es2⟩ : ∃ s, s = vc + d1 := ⟨_, rfl⟩
  obtain ⟨c1, ec1⟩ : ∃ r, r = s2 % 4294967296 := ⟨_, rfl⟩
  have lc1 : c1 < 4294967296 := by omega
  obtain ⟨s3, es3⟩ : ∃ s, s = vb ^^^ c1 := ⟨_, rfl⟩
  have ls3 : s3 < 4294967296 := by rw [es3]; exact xor_lt lvb lc1
  obtain ⟨b1, eb1⟩ : ∃ r, r = rot 12 s3 := ⟨_, rfl⟩
  have lb1 : b1 < 4294967296 := by rw [eb1]; exact rot_lt ls3
  obtain ⟨s4, es4⟩ : ∃ s, s = a1 + b1 := ⟨_, rfl⟩
  obtain ⟨t4, et4⟩ : ∃ t, t = s4 + y := ⟨_, rfl⟩
  obtain ⟨a2, ea2⟩ : ∃ r, r = t4 % 4294967296 := ⟨_, rfl⟩
  have la2 : a2 < 4294967296 := by omega
  obtain ⟨s5, es5⟩ : ∃ s, s = d1 ^^^ a2 := ⟨_, rfl⟩
  have ls5 : s5 < 4294967296 := by rw [es5]; exact xor_lt ld1 la2
  obtain ⟨d2, ed2⟩ : ∃ r, r = rot 8 s5 := ⟨_, rfl⟩
  have ld2 : d2 < 4294967296 := by rw [ed2]; exact rot_lt ls5
  obtain ⟨s6, es6⟩ : ∃ s, s = c1 + d2 := ⟨_, rfl⟩
  obtain ⟨c2, ec2⟩ : ∃ r, r = s6 % 4294967296 := ⟨_, rfl⟩
  have lc2 : c2 < 4294967296 := by omega
  obtain ⟨s7, es7⟩ : ∃ s, s = b1 ^^^ c2 := ⟨_, rfl⟩
  have ls7 : s7 < 4294967296 := by rw [es7]; exact xor_lt lb1 lc2
  obtain ⟨b2, eb2⟩ : ∃ r, r = rot 7 s7 := ⟨_, rfl⟩
  have lb2 : b2 < 4294967296 := by rw [eb2]; exact rot_lt ls7
  have EM : Hid (mix va vb vc vd x y = ⟨a2, b2, c2, d2⟩) := Lib.hid (by
    subst eb2 es7 ec2 es6 ed2 es5 ea2 et4 es4 eb1 es3 ec1 es2 ed1 es1 ea1 et0 es0
    simp only [mix, Nat.add_assoc])
  have q0 : IntKind.i64.wrap ((va : Int) + vb) = (s0 : Int) := by rw [IntWalk.i64_in _ (by omega)]; omega
  have p0 : IntKind.i64.wrap ((s0 : Int) + x) = (t0 : Int) := by rw [IntWalk.i64_in _ (by omega)]; omega
  have m0 : (t0 : Int).tmod 4294967296 = (a1 : Int) := by rw [Int.tmod_eq_emod_of_nonneg (by omega)]; omega
  have q1 : bits .xor .i64 (vd : Int) (a1 : Int) = (s1 : Int) := by rw [es1]; exact i64_xor _ _ lvd la1
  have T1 : ∀ W, Calls Tryz.prog 281 #[.int .i64 s1, .int .i64 16] W fun e w' => e = .returned (.int .i64 (d1 : Nat)) ∧ ∃ n, w' = W.drewN n := fun W => by rw [ed1]; exact turned16 s1 W ls1
  have q2 : IntKind.i64.wrap ((vc : Int) + d1) = (s2 : Int) := by rw [IntWalk.i64_in _ (by omega)]; omega
  have m2 : (s2 : Int).tmod 4294967296 = (c1 : Int) := by rw [Int.tmod_eq_emod_of_nonneg (by omega)]; omega
  have q3 : bits .xor .i64 (vb : Int) (c1 : Int) = (s3 : Int) := by rw [es3]; exact i64_xor _ _ lvb lc1
  have T3 : ∀ W, Calls Tryz.prog 281 #[.int .i64 s3, .int .i64 12] W fun e w' => e = .returned (.int .i64 (b1 : Nat)) ∧ ∃ n, w' = W.drewN n := fun W => by rw [eb1]; exact turned12 s3 W ls3
  have q4 : IntKind.i64.wrap ((a1 : Int) + b1) = (s4 : Int) := by rw [IntWalk.i64_in _ (by omega)]; omega
  have p4 : IntKind.i64.wrap ((s4 : Int) + y) = (t4 : Int) := by rw [IntWalk.i64_in _ (by omega)]; omega
  have m4 : (t4 : Int).tmod 4294967296 = (a2 : Int) := by rw [Int.tmod_eq_emod_of_nonneg (by omega)]; omega
  have q5 : bits .xor .i64 (d1 : Int) (a2 : Int) = (s5 : Int) := by rw [es5]; exact i64_xor _ _ ld1 la2
  have T5 : ∀ W, Calls Tryz.prog 281 #[.int .i64 s5, .int .i64 8] W fun e w' => e = .returned (.int .i64 (d2 : Nat)) ∧ ∃ n, w' = W.drewN n := fun W => by rw [ed2]; exact turned8 s5 W ls5
  have q6 : IntKind.i64.wrap ((c1 : Int) + d2) = (s6 : Int) := by rw [IntWalk.i64_in _ (by omega)]; omega
  have m6 : (s6 : Int).tmod 4294967296 = (c2 : Int) := by rw [Int.tmod_eq_emod_of_nonneg (by omega)]; omega
  have q7 : bits .xor .i64 (b1 : Int) (c2 : Int) = (s7 : Int) := by rw [es7]; exact i64_xor _ _ lb1 lc2
  have T7 : ∀ W, Calls Tryz.prog 281 #[.int .i64 s7, .int .i64 7] W fun e w' => e = .returned (.int .i64 (b2 : Nat)) ∧ ∃ n, w' = W.drewN n := fun W => by rw [eb2]; exact turned7 s7 W ls7
  have HT1 := Lib.hid T1
  have HT3 := Lib.hid T3
  have HT5 := Lib.hid T5
  have HT7 := Lib.hid T7
  have HEs := Lib.hid (And.intro eva (And.intro evb (And.intro evc evd)))
  clear es0 et0 ea1 es1 ed1 es2 ec1 es3 eb1 es4 et4 ea2 es5 ed2 es6 ec2 es7 eb2 eva evb evc evd T1 T3 T5 T7
  have ia : (a : Int) < 16 := by omega
  have ib : (b : Int) < 16 := by omega
  have ic : (c : Int) < 16 := by omega
  have id : (d : Int) < 16 := by omega
  go_enter Tryz.func232, Tryz.ntmps232
  go_wp2_with (fail)
  have ka := ms0.ca ha
  have kb := ms0.cb hb
  have fa := ms0.frozen a
  refine wp_region_mix (C := fun w' => ∃ n, w' = w.drewN n) 15 (by kernel_rfl) (by kernel_rfl) (fun _ _ d _ _ h => by cases d <;> exact h) ⟨1, rfl⟩ ?_
  simp only [List.take_succ_cons, List.take_zero, List.drop_succ_cons, List.drop_zero]
  repeat (quiet_step (fail))
  refine wpQuiet_nil ?_
  rintro _ ⟨n0, rfl⟩
  go_wp2_with (fail)
  have ms1 := (ms0.drewN n0).seta ha nab nac nad a1
  clear ms0 ka kb fa
  generalize (w.drewN n0).setCell ⟨g, a, none⟩ (.int .i64 (a1 : Nat)) = w1 at *
  have ka := ms1.ca ha
  have kd := ms1.cd hd
  have fd := ms1.frozen d
  refine wp_region_mix (C := fun w' => ∃ n, w' = w1.drewN n) 13 (by kernel_rfl) (by kernel_rfl) (fun _ _ d _ _ h => by cases d <;> exact h) ⟨1, rfl⟩ ?_
  simp only [List.take_succ_cons, List.take_zero, List.drop_succ_cons, List.drop_zero]
  repeat (quiet_step ((go_at_call 281; exact Calls.quiet_of (HT1.out _))))
  refine wpQuiet_nil ?_
  rintro _ ⟨n1, rfl⟩
  go_wp2_with (fail)
  have ms2 := (ms1.drewN n1).setd hd nad.symm nbd.symm ncd.symm d1
  clear ms1 ka kd fd
  generalize (w1.drewN n1).setCell ⟨g, d, none⟩ (.int .i64 (d1 : Nat)) = w2 at *
  have kc := ms2.cc hc
  have kd := ms2.cd hd
  have fc := ms2.frozen c
  refine wp_region_mix (C := fun w' => ∃ n, w' = w2.drewN n) 13 (by kernel_rfl) (by kernel_rfl) (fun _ _ d _ _ h => by cases d <;> exact h) ⟨1, rfl⟩ ?_
  simp only [List.take_succ_cons, List.take_zero, List.drop_succ_cons, List.drop_zero]
  repeat (quiet_step (fail))
  refine wpQuiet_nil ?_
  rintro _ ⟨n2, rfl⟩
  go_wp2_with (fail)
  have ms3 := (ms2.drewN n2).setc hc nac.symm nbc.symm ncd c1
  clear ms2 kc kd fc
  generalize (w2.drewN n2).setCell ⟨g, c, none⟩ (.int .i64 (c1 : Nat)) = w3 at *
  have kb := ms3.cb hb
  have kc := ms3.cc hc
  have fb := ms3.frozen b
  refine wp_region_mix (C := fun w' => ∃ n, w' = w3.drewN n) 13 (by kernel_rfl) (by kernel_rfl) (fun _ _ d _ _ h => by cases d <;> exact h) ⟨1, rfl⟩ ?_
  simp only [List.take_succ_cons, List.take_zero, List.drop_succ_cons, List.drop_zero]
  repeat (quiet_step ((go_at_call 281; exact Calls.quiet_of (HT3.out _))))
  refine wpQuiet_nil ?_
  rintro _ ⟨n3, rfl⟩
  go_wp2_with (fail)
  have ms4 := (ms3.drewN n3).setb hb nab.symm nbc nbd b1
  clear ms3 kb kc fb
  generalize (w3.drewN n3).setCell ⟨g, b, none⟩ (.int .i64 (b1 : Nat)) = w4 at *
  have ka := ms4.ca ha
  have kb := ms4.cb hb
  have fa := ms4.frozen a
  refine wp_region_mix (C := fun w' => ∃ n, w' = w4.drewN n) 15 (by kernel_rfl) (by kernel_rfl) (fun _ _ d _ _ h => by cases d <;> exact h) ⟨1, rfl⟩ ?_
  simp only [List.take_succ_cons, List.take_zero, List.drop_succ_cons, List.drop_zero]
  repeat (quiet_step (fail))
  refine wpQuiet_nil ?_
  rintro _ ⟨n4, rfl⟩
  go_wp2_with (fail)
  have ms5 := (ms4.drewN n4).seta ha nab nac nad a2
  clear ms4 ka kb fa
  generalize (w4.drewN n4).setCell ⟨g, a, none⟩ (.int .i64 (a2 : Nat)) = w5 at *
  have ka := ms5.ca ha
  have kd := ms5.cd hd
  have fd := ms5.frozen d
  refine wp_region_mix (C := fun w' => ∃ n, w' = w5.drewN n) 13 (by kernel_rfl) (by kernel_rfl) (fun _ _ d _ _ h => by cases d <;> exact h) ⟨1, rfl⟩ ?_
  simp only [List.take_succ_cons, List.take_zero, List.drop_succ_cons, List.drop_zero]
  repeat (quiet_step ((go_at_call 281; exact Calls.quiet_of (HT5.out _))))
  refine wpQuiet_nil ?_
  rintro _ ⟨n5, rfl⟩
  go_wp2_with (fail)
  have ms6 := (ms5.drewN n5).setd hd nad.symm nbd.symm ncd.symm d2
  clear ms5 ka kd fd
  generalize (w5.drewN n5).setCell ⟨g, d, none⟩ (.int .i64 (d2 : Nat)) = w6 at *
  have kc := ms6.cc hc
  have kd := ms6.cd hd
  have fc := ms6.frozen c
  refine wp_region_mix (C := fun w' => ∃ n, w' = w6.drewN n) 13 (by kernel_rfl) (by kernel_rfl) (fun _ _ d _ _ h => by cases d <;> exact h) ⟨1, rfl⟩ ?_
  simp only [List.take_succ_cons, List.take_zero, List.drop_succ_cons, List.drop_zero]
  repeat (quiet_step (fail))
  refine wpQuiet_nil ?_
  rintro _ ⟨n6, rfl⟩
  go_wp2_with (fail)
  have ms7 := (ms6.drewN n6).setc hc nac.symm nbc.symm ncd c2
  clear ms6 kc kd fc
  generalize (w6.drewN n6).setCell ⟨g, c, none⟩ (.int .i64 (c2 : Nat)) = w7 at *
  have kb := ms7.cb hb
  have kc := ms7.cc hc
  have fb := ms7.frozen b
  refine wp_region_mix (C := fun w' => ∃ n, w' = w7.drewN n) 13 (by kernel_rfl) (by kernel_rfl) (fun _ _ d _ _ h => by cases d <;> exact h) ⟨1, rfl⟩ ?_
  simp only [List.take_succ_cons, List.take_zero, List.drop_succ_cons, List.drop_zero]
  repeat (quiet_step ((go_at_call 281; exact Calls.quiet_of (HT7.out _))))
  refine wpQuiet_nil ?_
  rintro _ ⟨n7, rfl⟩
  go_wp2_with (fail)
  have ms8 := (ms7.drewN n7).setb hb nab.symm nbc nbd b2
  clear ms7 kb kc fb
  generalize (w7.drewN n7).setCell ⟨g, b, none⟩ (.int .i64 (b2 : Nat)) = w8 at *
  go_end0
  refine ⟨rfl, ?_, ms8.grown⟩
  obtain ⟨U, hU, hl, hr, h1, h2, h3, h4⟩ := ms8.m
  rw [hU]
  have hgs : gstep V a b c d x y = (((V.set a a2).set b b2).set c c2).set d d2 := by
    have e1 := HEs.out
    simp only [gstep]
    rw [← e1.1, ← e1.2.1, ← e1.2.2.1, ← e1.2.2.2, EM.out]
  congr 2
  rw [hgs]
  congr 1
  have hVl := hV.len
  apply list_ext16 (by simp; omega)
  intro i
  by_cases ea : i = a
  · subst ea; rw [Blk.getD_set_ne _ nad.symm, Blk.getD_set_ne _ nac.symm, Blk.getD_set_ne _ nab.symm, Blk.getD_set_eq _ (by omega)]; exact h1
  by_cases eb : i = b
  · subst eb; rw [Blk.getD_set_ne _ nbd.symm, Blk.getD_set_ne _ nbc.symm, Blk.getD_set_eq _ (by simp; omega)]; exact h2
  by_cases ec : i = c
  · subst ec; rw [Blk.getD_set_ne _ ncd.symm, Blk.getD_set_eq _ (by simp; omega)]; exact h3
  by_cases ed : i = d
  · subst ed; rw [Blk.getD_set_eq _ (by simp; omega)]; exact h4
  rw [Blk.getD_set_ne _ (fun e => ed e.symm), Blk.getD_set_ne _ (fun e => ec e.symm), Blk.getD_set_ne _ (fun e => eb e.symm), Blk.getD_set_ne _ (fun e => ea e.symm)]
  exact hr i ea eb ec ed
end Go.Proofs.YtlndnpfjneeeeaaGreatDoor
namespace Go.Proofs.YtlndnpfjneeeeaaGreatDoor
open Go.RowKit Blk
set_option linter.unusedVariables false
set_option maxRecDepth 100000
def i64n (l : List Nat) : Array Value := rowI l []
theorem refconst_any (w : World) : Calls Tryz.prog 165 #[] w fun e w' => e = .returned (.slice (some ⟨w.heap.size, 0, none⟩) 8 8) ∧ w' = w.alloc (.cells (i64n consts) 3) := by
  go_enter Tryz.func165, Tryz.ntmps165
  go_wp2_with (refine wpList_val 1 rfl rfl (.slice (some ⟨w.heap.size, 0, none⟩) 8 8) (w' := w.alloc (.cells (i64n consts) 3)) (by kernel_rfl) ?_)
  go_ret
  exact ⟨rfl, rfl⟩
def rowsWorld (w : World) : Nat → World
  | 0 => w
  | k + 1 => (rowsWorld w k).alloc (.cells (i64n (rowsL.getD k [])) 3)
def rowSlices (w : World) : Array Value := ((List.range 10).map fun k => Value.slice (some ⟨(rowsWorld w k).heap.size, 0, none⟩) 16 16).toArray
theorem rowsWorld_size (w : World) : ∀ k, (rowsWorld w k).heap.size = w.heap.size + k
  | 0 => rfl
  | k + 1 => by simp [rowsWorld, rowsWorld_size w k]; omega
theorem rowsWorld_below (w : World) : ∀ k, Below w.heap.size w (rowsWorld w k)
  | 0 => Below.refl _ _
  | k + 1 => (rowsWorld_below w k).alloc (rowsWorld_below w k).size _
theorem rowsWorld_row (w : World) (j : Nat) : ∀ k, j < k → (rowsWorld w k).heap[w.heap.size + j]? = some (.cells (i64n (rowsL.getD j [])) 3 (0, 0))
  | 0, h => by omega
  | k + 1, h => by
    by_cases e : j = k
    · subst e
      have := heap_alloc_new (rowsWorld w j) (.cells (i64n (rowsL.getD j [])) 3)
      rwa [rowsWorld_size] at this
    · exact heap_alloc_lt (rowsWorld_row w j k (by omega))
def RowsAt (B g : Nat) (w : World) : Prop := B ≤ g ∧ ∃ cs, w.heap[g]? = some (.cells cs 62 (0, 0)) ∧ ∀ k, k < 10 → ∃ gk, B ≤ gk ∧ cs[k]? = some (.slice (some ⟨gk, 0, none⟩) 16 16) ∧ w.heap[gk]? = some (.cells (i64n (rowsL.getD k [])) 3 (0, 0))
set_option maxRecDepth 100000 in
theorem refrows_any (w : World) : Calls Tryz.prog 231 #[] w fun e w' => ∃ g, e = .returned (.slice (some ⟨g, 0, none⟩) 10 10) ∧ RowsAt w.heap.size g w' ∧ Below w.heap.size w w' := by
  refine (show Calls Tryz.prog 231 #[] w fun e w' => e = .returned (.slice (some ⟨(rowsWorld w 10).heap.size, 0, none⟩) 10 10) ∧ w' = (rowsWorld w 10).alloc (.cells (rowSlices w) 62) from ?_).mono ?_
  · go_enter Tryz.func231, Tryz.ntmps231
    go_wp2_with (first | (refine wpList_val 1 rfl rfl (.slice (some ⟨(rowsWorld w 0).heap.size, 0, none⟩) 16 16) (w' := rowsWorld w 1) (by kernel_rfl) ?_) | (refine wpList_val 2 rfl rfl (.slice (some ⟨(rowsWorld w 1).heap.size, 0, none⟩) 16 16) (w' := rowsWorld w 2) (by kernel_rfl) ?_) | (refine wpList_val 3 rfl rfl (.slice (some ⟨(rowsWorld w 2).heap.size, 0, none⟩) 16 16) (w' := rowsWorld w 3) (by kernel_rfl) ?_) | (refine wpList_val 4 rfl rfl (.slice (some ⟨(rowsWorld w 3).heap.size, 0, none⟩) 16 16) (w' := rowsWorld w 4) (by kernel_rfl) ?_) | (refine wpList_val 5 rfl rfl (.slice (some ⟨(rowsWorld w 4).heap.size, 0, none⟩) 16 16) (w' := rowsWorld w 5) (by kernel_rfl) ?_) | (refine wpList_val 6 rfl rfl (.slice (some ⟨(rowsWorld w 5).heap.size, 0, none⟩) 16 16) (w' := rowsWorld w 6) (by kernel_rfl) ?_) | (refine wpList_val 7 rfl rfl (.slice (some ⟨(rowsWorld w 6).heap.size, 0, none⟩) 16 16) (w' := rowsWorld w 7) (by kernel_rfl) ?_) | (refine wpList_val 8 rfl rfl (.slice (some ⟨(rowsWorld w 7).heap.size, 0, none⟩) 16 16) (w' := rowsWorld w 8) (by kernel_rfl) ?_) | (refine wpList_val 9 rfl rfl (.slice (some ⟨(rowsWorld w 8).heap.size, 0, none⟩) 16 16) (w' := rowsWorld w 9) (by kernel_rfl) ?_) | (refine wpList_val 10 rfl rfl (.slice (some ⟨(rowsWorld w 9).heap.size, 0, none⟩) 16 16) (w' := rowsWorld w 10) (by kernel_rfl) ?_) | (refine wpList_val 11 rfl rfl (.slice (some ⟨(rowsWorld w 10).heap.size, 0, none⟩) 10 10) (w' := (rowsWorld w 10).alloc (.cells (rowSlices w) 62)) (by kernel_rfl) ?_))
    go_ret
    exact ⟨rfl, rfl⟩
  · rintro e w' ⟨rfl, rfl⟩
    have hB := rowsWorld_below w 10
    refine ⟨_, rfl, ⟨hB.size, _, heap_alloc_new _ _, fun k hk => ⟨w.heap.size + k, by omega, ?_, ?_⟩⟩, hB.alloc hB.size _⟩
    · simp only [rowSlices, List.getElem?_toArray, List.getElem?_map]
      rw [List.getElem?_range hk]
      simp [rowsWorld_size]
    · exact heap_alloc_lt (rowsWorld_row w k 10 hk)
end Go.Proofs.YtlndnpfjneeeeaaGreatDoor
