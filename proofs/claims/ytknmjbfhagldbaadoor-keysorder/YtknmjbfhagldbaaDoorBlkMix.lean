/- Contracts of blake's turn and mixed. -/
import Derived.Test.YtknmjbfhagldbaaDoorProg
import Derived.Test.YtknmjbfhagldbaaDoorKt
import Derived.Test.YtknmjbfhagldbaaDoorBlkSpec
namespace Go.Proofs.YtknmjbfhagldbaaDoor
open Go.RowKit Blk
set_option linter.unusedVariables false
set_option maxRecDepth 100000

theorem turn16 (x : Nat) (w : World) (h : x < 4294967296) :
    Calls Tryd.prog 73 #[.int .u32 x, .int .i64 16] w fun e w' => e = .returned (.int .u32 (rot 16 x : Nat)) ∧ ∃ n, w' = w.drewN n := by
  have r := rotI 16 x 65536 65536 rfl rfl h
  go_enter Tryd.func73, Tryd.ntmps73
  go_wp2
  go_quiet (fail)
  go_wp2
  go_ret
  exact ⟨by rw [← r]; rfl, ⟨_, rfl⟩⟩
theorem turn12 (x : Nat) (w : World) (h : x < 4294967296) :
    Calls Tryd.prog 73 #[.int .u32 x, .int .i64 12] w fun e w' => e = .returned (.int .u32 (rot 12 x : Nat)) ∧ ∃ n, w' = w.drewN n := by
  have r := rotI 12 x 4096 1048576 rfl rfl h
  go_enter Tryd.func73, Tryd.ntmps73
  go_wp2
  go_quiet (fail)
  go_wp2
  go_ret
  exact ⟨by rw [← r]; rfl, ⟨_, rfl⟩⟩
theorem turn8 (x : Nat) (w : World) (h : x < 4294967296) :
    Calls Tryd.prog 73 #[.int .u32 x, .int .i64 8] w fun e w' => e = .returned (.int .u32 (rot 8 x : Nat)) ∧ ∃ n, w' = w.drewN n := by
  have r := rotI 8 x 256 16777216 rfl rfl h
  go_enter Tryd.func73, Tryd.ntmps73
  go_wp2
  go_quiet (fail)
  go_wp2
  go_ret
  exact ⟨by rw [← r]; rfl, ⟨_, rfl⟩⟩
theorem turn7 (x : Nat) (w : World) (h : x < 4294967296) :
    Calls Tryd.prog 73 #[.int .u32 x, .int .i64 7] w fun e w' => e = .returned (.int .u32 (rot 7 x : Nat)) ∧ ∃ n, w' = w.drewN n := by
  have r := rotI 7 x 128 33554432 rfl rfl h
  go_enter Tryd.func73, Tryd.ntmps73
  go_wp2
  go_quiet (fail)
  go_wp2
  go_ret
  exact ⟨by rw [← r]; rfl, ⟨_, rfl⟩⟩

theorem mixed_any (a b c d x y : Nat) (w : World) (ha : a < 4294967296) (hb : b < 4294967296) (hc : c < 4294967296) (hd : d < 4294967296) (hx : x < 4294967296) (hy : y < 4294967296) :
    Calls Tryd.prog 63 #[.int .u32 a, .int .u32 b, .int .u32 c, .int .u32 d, .int .u32 x, .int .u32 y] w fun e w' =>
      e = .returned (.tuple #[.int .u32 (mix a b c d x y).a, .int .u32 (mix a b c d x y).b, .int .u32 (mix a b c d x y).c, .int .u32 (mix a b c d x y).d]) ∧ ∃ n, w' = w.drewN n := by
  obtain ⟨t1, et1⟩ : ∃ t1, t1 = (b + x) % 4294967296 := ⟨_, rfl⟩
  obtain ⟨a1, ea1⟩ : ∃ a1, a1 = (a + t1) % 4294967296 := ⟨_, rfl⟩
  have la1 : a1 < 4294967296 := by omega
  obtain ⟨d1, ed1⟩ : ∃ d1, d1 = d ^^^ a1 := ⟨_, rfl⟩
  have ld1 : d1 < 4294967296 := by rw [ed1]; exact xor_lt hd la1
  obtain ⟨c1, ec1⟩ : ∃ c1, c1 = (c + rot 16 d1) % 4294967296 := ⟨_, rfl⟩
  have lc1 : c1 < 4294967296 := by omega
  obtain ⟨b1, eb1⟩ : ∃ b1, b1 = b ^^^ c1 := ⟨_, rfl⟩
  have lb1 : b1 < 4294967296 := by rw [eb1]; exact xor_lt hb lc1
  obtain ⟨t2, et2⟩ : ∃ t2, t2 = (rot 12 b1 + y) % 4294967296 := ⟨_, rfl⟩
  obtain ⟨a2, ea2⟩ : ∃ a2, a2 = (a1 + t2) % 4294967296 := ⟨_, rfl⟩
  have la2 : a2 < 4294967296 := by omega
  obtain ⟨d2, ed2⟩ : ∃ d2, d2 = rot 16 d1 ^^^ a2 := ⟨_, rfl⟩
  have ld2 : d2 < 4294967296 := by rw [ed2]; exact xor_lt (rot_lt ld1) la2
  obtain ⟨c2, ec2⟩ : ∃ c2, c2 = (c1 + rot 8 d2) % 4294967296 := ⟨_, rfl⟩
  have lc2 : c2 < 4294967296 := by omega
  obtain ⟨b2, eb2⟩ : ∃ b2, b2 = rot 12 b1 ^^^ c2 := ⟨_, rfl⟩
  have lb2 : b2 < 4294967296 := by rw [eb2]; exact xor_lt (rot_lt lb1) lc2
  have em : Hid (mix a b c d x y = ⟨a2, rot 7 b2, c2, rot 8 d2⟩) := Lib.hid (by subst eb2 ec2 ed2 ea2 et2 eb1 ec1 ed1 ea1 et1; simp only [mix, Nat.add_mod_mod])
  have q1 : ((b : Int) + x) % 4294967296 = (t1 : Int) := by subst et1; simp
  have r1 : ((a : Int) + t1) % 4294967296 = (a1 : Int) := by subst ea1; simp
  have r2 : bits .xor .u32 (d : Int) (a1 : Int) = (d1 : Int) := by subst ed1; exact u32_xor_nat _ _ hd la1
  have r3 : ((c : Int) + (rot 16 d1 : Nat)) % 4294967296 = (c1 : Int) := by subst ec1; simp
  have r4 : bits .xor .u32 (b : Int) (c1 : Int) = (b1 : Int) := by subst eb1; exact u32_xor_nat _ _ hb lc1
  have q5 : (((rot 12 b1 : Nat) : Int) + y) % 4294967296 = (t2 : Int) := by subst et2; simp
  have r5 : ((a1 : Int) + t2) % 4294967296 = (a2 : Int) := by subst ea2; simp
  have r6 : bits .xor .u32 ((rot 16 d1 : Nat) : Int) (a2 : Int) = (d2 : Int) := by subst ed2; exact u32_xor_nat _ _ (rot_lt ld1) la2
  have r7 : ((c1 : Int) + (rot 8 d2 : Nat)) % 4294967296 = (c2 : Int) := by subst ec2; simp
  have r8 : bits .xor .u32 ((rot 12 b1 : Nat) : Int) (c2 : Int) = (b2 : Int) := by subst eb2; exact u32_xor_nat _ _ (rot_lt lb1) lc2
  clear eb2 ec2 ed2 ea2 et2 eb1 ec1 ed1 ea1 et1
  go_enter Tryd.func63, Tryd.ntmps63
  go_wp2_with (go_at_call 73; ((with_reducible refine (turn16 d1 _ ld1).mono ?_); rintro e w' ⟨rfl, n1, rfl⟩))
  go_wp2_with (go_at_call 73; ((with_reducible refine (turn12 b1 _ lb1).mono ?_); rintro e w' ⟨rfl, n2, rfl⟩))
  go_wp2_with (go_at_call 73; ((with_reducible refine (turn8 d2 _ ld2).mono ?_); rintro e w' ⟨rfl, n3, rfl⟩))
  go_wp2_with (go_at_call 73; ((with_reducible refine (turn7 b2 _ lb2).mono ?_); rintro e w' ⟨rfl, n4, rfl⟩))
  refine bodyPost_ret (v := .tuple #[.int .u32 a2, .int .u32 (rot 7 b2 : Nat), .int .u32 c2, .int .u32 (rot 8 d2 : Nat)]) (by simp [results, Tryd.results63, go_sem]) rfl ⟨by rw [em.out], ⟨n1 + n2 + n3 + n4, ?_⟩⟩
  simp [World.drewN_drewN, Nat.add_assoc]
end Go.Proofs.YtknmjbfhagldbaaDoor
