/- Contracts of blake's turn and mixed. -/
import Derived.Test.YtcpkhaebcmgehaaGreatDoorProg
import Derived.Test.YtcpkhaebcmgehaaGreatDoorKt
import Derived.Test.YtcpkhaebcmgehaaGreatDoorBlkSpec
import Derived.Laws.CopyOwn
namespace Go.Proofs.YtcpkhaebcmgehaaGreatDoor
open Go.RowKit Blk
set_option linter.unusedVariables false
set_option maxRecDepth 100000

theorem turn16 (x : Nat) (w : World) (h : x < 4294967296) :
    Calls Tryz.prog 152 #[.int .u32 x, .int .i64 16] w fun e w' => e = .returned (.int .u32 (rot 16 x : Nat)) ∧ ∃ n, w' = w.drewN n := by
  have r := rotI 16 x 65536 65536 rfl rfl h
  go_enter Tryz.func152, Tryz.ntmps152
  go_wp2
  go_quiet (fail)
  go_wp2
  go_ret
  exact ⟨by rw [← r]; rfl, ⟨_, rfl⟩⟩
theorem turn12 (x : Nat) (w : World) (h : x < 4294967296) :
    Calls Tryz.prog 152 #[.int .u32 x, .int .i64 12] w fun e w' => e = .returned (.int .u32 (rot 12 x : Nat)) ∧ ∃ n, w' = w.drewN n := by
  have r := rotI 12 x 4096 1048576 rfl rfl h
  go_enter Tryz.func152, Tryz.ntmps152
  go_wp2
  go_quiet (fail)
  go_wp2
  go_ret
  exact ⟨by rw [← r]; rfl, ⟨_, rfl⟩⟩
theorem turn8 (x : Nat) (w : World) (h : x < 4294967296) :
    Calls Tryz.prog 152 #[.int .u32 x, .int .i64 8] w fun e w' => e = .returned (.int .u32 (rot 8 x : Nat)) ∧ ∃ n, w' = w.drewN n := by
  have r := rotI 8 x 256 16777216 rfl rfl h
  go_enter Tryz.func152, Tryz.ntmps152
  go_wp2
  go_quiet (fail)
  go_wp2
  go_ret
  exact ⟨by rw [← r]; rfl, ⟨_, rfl⟩⟩
theorem turn7 (x : Nat) (w : World) (h : x < 4294967296) :
    Calls Tryz.prog 152 #[.int .u32 x, .int .i64 7] w fun e w' => e = .returned (.int .u32 (rot 7 x : Nat)) ∧ ∃ n, w' = w.drewN n := by
  have r := rotI 7 x 128 33554432 rfl rfl h
  go_enter Tryz.func152, Tryz.ntmps152
  go_wp2
  go_quiet (fail)
  go_wp2
  go_ret
  exact ⟨by rw [← r]; rfl, ⟨_, rfl⟩⟩

theorem mixed_any (a b c d x y : Nat) (w : World) (ha : a < 4294967296) (hb : b < 4294967296) (hc : c < 4294967296) (hd : d < 4294967296) (hx : x < 4294967296) (hy : y < 4294967296) :
    Calls Tryz.prog 120 #[.int .u32 a, .int .u32 b, .int .u32 c, .int .u32 d, .int .u32 x, .int .u32 y] w fun e w' =>
      e = .returned (.tuple #[.int .u32 (mix a b c d x y).a, .int .u32 (mix a b c d x y).b, .int .u32 (mix a b c d x y).c, .int .u32 (mix a b c d x y).d]) ∧ ∃ n, w' = w.drewN n := by
  obtain ⟨t1, et1⟩ : ∃ t1, t1 = (b + x) % 4294967296 := ⟨_, rfl⟩
  obtain ⟨a1, ea1⟩ : ∃ a1, a1 = (a + t1) % 4294967296 := ⟨_, rfl⟩
  have la1 : a1 < 4294967296 := by omega
  obtain ⟨d1, ed1⟩ : ∃ d1, d1 = d ^^^ a1 := ⟨_, rfl⟩
  have ld1 : d1 < 4294967296 := by rw [ed1]; exact xor_lt hd la1
  obtain ⟨c1, ec1⟩ : ∃ c1, c1 = (c + rot 16 d1) % 4294967296 := ⟨_, rfl⟩
  have lc1 : c1 < 4294967296 := by omega
  obtain ⟨b1, eb1⟩ : ∃ b1, b1 = b ^^^ c1 := ⟨_, rfl⟩
  have lb1 : b1 < 4294967296 := by rw [eb1]; exact xor_lt hb lc1
  obtain ⟨t2, et2⟩ : ∃ t2, t2 = (rot 12 b1 + y) % 4294967296 := ⟨_, rfl⟩
  obtain ⟨a2, ea2⟩ : ∃ a2, a2 = (a1 + t2) % 4294967296 := ⟨_, rfl⟩
  have la2 : a2 < 4294967296 := by omega
  obtain ⟨d2, ed2⟩ : ∃ d2, d2 = rot 16 d1 ^^^ a2 := ⟨_, rfl⟩
  have ld2 : d2 < 4294967296 := by rw [ed2]; exact xor_lt (rot_lt ld1) la2
  obtain ⟨c2, ec2⟩ : ∃ c2, c2 = (c1 + rot 8 d2) % 4294967296 := ⟨_, rfl⟩
  have lc2 : c2 < 4294967296 := by omega
  obtain ⟨b2, eb2⟩ : ∃ b2, b2 = rot 12 b1 ^^^ c2 := ⟨_, rfl⟩
  have lb2 : b2 < 4294967296 := by rw [eb2]; exact xor_lt (rot_lt lb1) lc2
  have em : Hid (mix a b c d x y = ⟨a2, rot 7 b2, c2, rot 8 d2⟩) := Lib.hid (by subst eb2 ec2 ed2 ea2 et2 eb1 ec1 ed1 ea1 et1; simp only [mix, Nat.add_mod_mod])
  have q1 : ((b : Int) + x) % 4294967296 = (t1 : Int) := by subst et1; simp
  have r1 : ((a : Int) + t1) % 4294967296 = (a1 : Int) := by subst ea1; simp
  have r2 : bits .xor .u32 (d : Int) (a1 : Int) = (d1 : Int) := by subst ed1; exact u32_xor_nat _ _ hd la1
  have r3 : ((c : Int) + (rot 16 d1 : Nat)) % 4294967296 = (c1 : Int) := by subst ec1; simp
  have r4 : bits .xor .u32 (b : Int) (c1 : Int) = (b1 : Int) := by subst eb1; exact u32_xor_nat _ _ hb lc1
  have q5 : (((rot 12 b1 : Nat) : Int) + y) % 4294967296 = (t2 : Int) := by subst et2; simp
  have r5 : ((a1 : Int) + t2) % 4294967296 = (a2 : Int) := by subst ea2; simp
  have r6 : bits .xor .u32 ((rot 16 d1 : Nat) : Int) (a2 : Int) = (d2 : Int) := by subst ed2; exact u32_xor_nat _ _ (rot_lt ld1) la2
  have r7 : ((c1 : Int) + (rot 8 d2 : Nat)) % 4294967296 = (c2 : Int) := by subst ec2; simp
  have r8 : bits .xor .u32 ((rot 12 b1 : Nat) : Int) (c2 : Int) = (b2 : Int) := by subst eb2; exact u32_xor_nat _ _ (rot_lt lb1) lc2
  clear eb2 ec2 ed2 ea2 et2 eb1 ec1 ed1 ea1 et1
  go_enter Tryz.func120, Tryz.ntmps120
  go_wp2_with (go_at_call 152; ((with_reducible refine (turn16 d1 _ ld1).mono ?_); rintro e w' ⟨rfl, n1, rfl⟩))
  go_wp2_with (go_at_call 152; ((with_reducible refine (turn12 b1 _ lb1).mono ?_); rintro e w' ⟨rfl, n2, rfl⟩))
  go_wp2_with (go_at_call 152; ((with_reducible refine (turn8 d2 _ ld2).mono ?_); rintro e w' ⟨rfl, n3, rfl⟩))
  go_wp2_with (go_at_call 152; ((with_reducible refine (turn7 b2 _ lb2).mono ?_); rintro e w' ⟨rfl, n4, rfl⟩))
  refine bodyPost_ret (v := .tuple #[.int .u32 a2, .int .u32 (rot 7 b2 : Nat), .int .u32 c2, .int .u32 (rot 8 d2 : Nat)]) (by simp [results, Tryz.results120, go_sem]) rfl ⟨by rw [em.out], ⟨n1 + n2 + n3 + n4, ?_⟩⟩
  simp [World.drewN_drewN, Nat.add_assoc]
end Go.Proofs.YtcpkhaebcmgehaaGreatDoor
/- What blake's constants and rows are. -/
namespace Go.Proofs.YtcpkhaebcmgehaaGreatDoor
open Go.RowKit Blk
set_option linter.unusedVariables false
set_option maxRecDepth 100000

def u32s (l : List Nat) : Array Value := (l.map fun n : Nat => Value.int .u32 n).toArray
theorem u32s_set (l : List Nat) (i x : Nat) : (u32s l).setIfInBounds i (.int .u32 x) = u32s (l.set i x) := by
  simp [u32s, List.map_set]
theorem u32s_get (l : List Nat) (i : Nat) (h : i < l.length) : (u32s l)[i]? = some (.int .u32 (l.getD i 0 : Nat)) := by
  simp [u32s, h]
theorem u32s_size (l : List Nat) : (u32s l).size = l.length := by simp [u32s]
theorem u32s_one (l : List Nat) : ∀ v ∈ (u32s l).toList, v.oneCell' = true := by
  intro v hv; simp [u32s] at hv; obtain ⟨n, _, rfl⟩ := hv; rfl
theorem u32s_splice (l m : List Nat) (k : Nat) : (splice (u32s l).toList k (u32s m).toList).toArray = u32s (l.take k ++ m ++ l.drop (k + m.length)) := by
  simp [u32s, splice, List.map_take, List.map_drop]
def z16 : List Nat := List.replicate 16 0
def z8 : List Nat := List.replicate 8 0
def constV : Value := .agg (u32s consts)
def i64s (l : List Nat) : Array Value := (l.map fun n : Nat => Value.int .i64 n).toArray
def rowV (k : Nat) : Value := .agg (i64s (rowsL.getD k []))
def rowsV : Value := .agg (i64s rowsL.flatten)
theorem constants_any (w : World) : Calls Tryz.prog 71 #[] w fun e w' => e = .returned constV ∧ Below w.heap.size w w' := by
  go_enter Tryz.func71, Tryz.ntmps71
  go_wp2
  exact bodyPost_ret (v := constV) (by simp [results, Tryz.results71, go_sem, constV, u32s, consts]) rfl ⟨rfl, (Below.refl _ _).alloc (Nat.le_refl _) _⟩
def zeros48 : Array Value := i64s (List.replicate 160 0)
set_option maxRecDepth 100000 in
theorem rows_any (w : World) : Calls Tryz.prog 119 #[] w fun e w' => e = .returned rowsV ∧ Below w.heap.size w w' := by
  go_enter Tryz.func119, Tryz.ntmps119
  go_wp2_with (first | (refine wpList_val 0 rfl rfl (.pointer (some ⟨w.heap.size, 0, none⟩)) (w' := w.alloc (.cells zeros48 159)) (by kernel_rfl) ?_) | (refine wpList_pure 1 rfl rfl (rowV 0) (by kernel_rfl) ?_) | (refine wpList_pure 2 rfl rfl (rowV 1) (by kernel_rfl) ?_) | (refine wpList_pure 3 rfl rfl (rowV 2) (by kernel_rfl) ?_) | (refine wpList_pure 4 rfl rfl (rowV 3) (by kernel_rfl) ?_) | (refine wpList_pure 5 rfl rfl (rowV 4) (by kernel_rfl) ?_) | (refine wpList_pure 6 rfl rfl (rowV 5) (by kernel_rfl) ?_) | (refine wpList_pure 7 rfl rfl (rowV 6) (by kernel_rfl) ?_) | (refine wpList_pure 8 rfl rfl (rowV 7) (by kernel_rfl) ?_) | (refine wpList_pure 9 rfl rfl (rowV 8) (by kernel_rfl) ?_) | (refine wpList_pure 10 rfl rfl (rowV 9) (by kernel_rfl) ?_) | (refine wpList_pure 11 rfl rfl rowsV (by kernel_rfl) ?_) | (refine wpList_store_new rfl 159 (.tmp 0) (.tmp 11) rfl zeros48 (i64s rowsL.flatten) (by kernel_rfl) (by kernel_rfl) (by kernel_rfl) (by kernel_rfl) (by kernel_rfl) ?_))
  refine bodyPost_ret (v := rowsV) ?_ rfl ⟨rfl, (Below.refl _ _).alloc (Nat.le_refl _) _⟩
  exact results_cell Tryz.results119 _ _ _ ⟨w.heap.size, 0, none⟩ _ _ (by kernel_rfl) (run_loadVar_new w _ _ 10 158 Tryz.underlying159 (by kernel_rfl))
theorem row_index0 (w : World) : (Instr.index 159 rowsV (.int .i64 (0 : Nat))).run Tryz.prog w = .ok (rowV 0) w := by kernel_rfl
theorem row_index1 (w : World) : (Instr.index 159 rowsV (.int .i64 (1 : Nat))).run Tryz.prog w = .ok (rowV 1) w := by kernel_rfl
theorem row_index2 (w : World) : (Instr.index 159 rowsV (.int .i64 (2 : Nat))).run Tryz.prog w = .ok (rowV 2) w := by kernel_rfl
theorem row_index3 (w : World) : (Instr.index 159 rowsV (.int .i64 (3 : Nat))).run Tryz.prog w = .ok (rowV 3) w := by kernel_rfl
theorem row_index4 (w : World) : (Instr.index 159 rowsV (.int .i64 (4 : Nat))).run Tryz.prog w = .ok (rowV 4) w := by kernel_rfl
theorem row_index5 (w : World) : (Instr.index 159 rowsV (.int .i64 (5 : Nat))).run Tryz.prog w = .ok (rowV 5) w := by kernel_rfl
theorem row_index6 (w : World) : (Instr.index 159 rowsV (.int .i64 (6 : Nat))).run Tryz.prog w = .ok (rowV 6) w := by kernel_rfl
theorem row_index7 (w : World) : (Instr.index 159 rowsV (.int .i64 (7 : Nat))).run Tryz.prog w = .ok (rowV 7) w := by kernel_rfl
theorem row_index8 (w : World) : (Instr.index 159 rowsV (.int .i64 (8 : Nat))).run Tryz.prog w = .ok (rowV 8) w := by kernel_rfl
theorem row_index9 (w : World) : (Instr.index 159 rowsV (.int .i64 (9 : Nat))).run Tryz.prog w = .ok (rowV 9) w := by kernel_rfl
theorem row_index : ∀ k : Nat, k < 10 → ∀ w, (Instr.index 159 rowsV (.int .i64 (k : Nat))).run Tryz.prog w = .ok (rowV k) w := by
  intro k hk w
  match k, hk with
  | 0, _ => exact row_index0 w
  | 1, _ => exact row_index1 w
  | 2, _ => exact row_index2 w
  | 3, _ => exact row_index3 w
  | 4, _ => exact row_index4 w
  | 5, _ => exact row_index5 w
  | 6, _ => exact row_index6 w
  | 7, _ => exact row_index7 w
  | 8, _ => exact row_index8 w
  | 9, _ => exact row_index9 w
theorem i64s_size (l : List Nat) : (i64s l).size = l.length := by simp [i64s]
theorem i64s_one (l : List Nat) : (i64s l).all (·.oneCell') = true := by simp [i64s, Value.oneCell']
theorem i64s_get (l : List Nat) (i : Nat) (h : i < l.length) : (i64s l)[i]? = some (.int .i64 (l.getD i 0 : Nat)) := by
  simp [i64s, h]
def zi16 : Array Value := i64s (List.replicate 16 0)
end Go.Proofs.YtcpkhaebcmgehaaGreatDoor
