/- The contract of blake's Sum. -/
import Derived.Test.YtcpkhaebcmgehaaGreatDoorBlkPress
import Derived.Test.YtcpkhaebcmgehaaGreatDoorBlkSpec
import Derived.Test.YtcpkhaebcmgehaaGreatDoorKt
import Derived.Test.YtcpkhaebcmgehaaGreatDoorShelf
namespace Go.Proofs.YtcpkhaebcmgehaaGreatDoor
open Go.RowKit Blk
set_option linter.unusedVariables false
set_option maxRecDepth 100000

theorem press_int (s : ByteArray) (hs : s.size = 64) (m : Int) (n : Nat) (hm : m = n) (hn : n < 9223372036854775808) (last : Bool) (b : Nat) (H : List Nat) (hH : Ok 8 H) (w : World) (hb : w.heap[b]? = some (.cells (u32s H) 104 (0, 0))) :
    Calls Tryz.prog 72 #[.pointer (some ⟨b, 0, none⟩), .string s, .int .i64 m, .bool last] w fun e w' =>
      e = .returned (.tuple #[]) ∧ w'.heap[b]? = some (.cells (u32s (press H s.data.toList n last)) 104 (0, 0)) ∧ w.grownBy w' (some b) := by
  subst hm; exact press_any s hs n hn last b H hH w hb
theorem repeat_zero (c : Nat) : Lib.repeatL (⟨#[0]⟩ : ByteArray).data.toList c = List.replicate c 0 := by
  induction c with
  | zero => rfl
  | succ c ih => rw [List.replicate_succ, ← ih]; rfl
theorem bytes4_cells (x : Nat) (hx : x < 4294967296) : (#[.int .u8 ((x : Int) % 256), .int .u8 ((x : Int) / 256 % 256), .int .u8 ((x : Int) / 65536 % 256), .int .u8 ((x : Int) / 16777216)] : Array Value) = (Lib.byteCells (bytes4 x)).toArray := by
  have h : ∀ y : Nat, y < 256 → ((UInt8.ofNat y).toNat : Int) = y := fun y hy => by rw [UInt8.toNat_ofNat_of_lt' (by simpa using hy)]
  simp only [bytes4, Lib.byteCells, List.map_cons, List.map_nil]
  rw [h _ (Nat.mod_lt _ (by decide)), h _ (Nat.mod_lt _ (by decide)), h _ (Nat.mod_lt _ (by decide)), h _ (Nat.mod_lt _ (by decide)), Nat.mod_eq_of_lt (show x / 16777216 < 256 by omega)]
  rfl
/-- The state of a Sum: the eight numbers in a block of its own. -/
structure SS (w : World) (bh : Nat) (H : List Nat) (w' : World) : Prop where
  m : w'.heap[bh]? = some (.cells (u32s H) 104 (0, 0))
  lb : w.heap.size ≤ bh
  below : Below w.heap.size w w'
namespace SS
variable {w w' w'' : World} {bh : Nat} {H : List Nat}
theorem drewN (h : SS w bh H w') (n : Nat) : SS w bh H (w'.drewN n) := ⟨h.m, h.lb, belowDN h.below n⟩
theorem later (h : SS w bh H w') (k : Below w'.heap.size w' w'') : SS w bh H w'' := ⟨heap_below k (lt_heap h.m) h.m, h.lb, h.below.trans (k.mono h.below.size)⟩
theorem store (h : SS w bh H w') (i x : Nat) : SS w bh (H.set i x) (w'.setCell ⟨bh, i, none⟩ (.int .u32 x)) := ⟨by rw [heap_set h.m, u32s_set], h.lb, h.below.setCell (p := ⟨bh, i, none⟩) h.lb _⟩
theorem put (h : SS w bh H w') {H' : List Nat} (k : w'.grownBy w'' (some bh)) (m : w''.heap[bh]? = some (.cells (u32s H') 104 (0, 0))) : SS w bh H' w'' :=
  ⟨m, h.lb, h.below.grown k h.below.size (fun j hj => by cases hj; exact h.lb)⟩
theorem c (h : SS w bh H w') (i : Nat) (hi : i < H.length) : w'.cell? ⟨bh, i, none⟩ = some (.int .u32 (H.getD i 0 : Nat)) := by rw [cell_heap h.m]; exact u32s_get _ _ hi
theorem f (h : SS w bh H w') (i : Nat) : w'.frozen? ⟨bh, i, none⟩ = false := frozen_heap h.m i
end SS

set_option maxHeartbeats 2000000 in
set_option maxRecDepth 100000 in
theorem sum_any (s : ByteArray) (hs : s.size ≤ 1000000) (w : World) :
    Calls Tryz.prog 33 #[.string s] w fun e w' => e = .returned (.string ⟨(sum s.data.toList).toArray⟩) ∧ Below w.heap.size w w' := by
  go_enter Tryz.func33, Tryz.ntmps33
  go_upto_region 2 with (first | (go_at_call 71; ((with_reducible refine (constants_any _).mono ?_); rintro e wa ⟨rfl, hba⟩)) | (refine wpList_val 3 rfl rfl (.pointer (some ⟨wa.heap.size, 0, none⟩)) (w' := wa.alloc (.cells (u32s z8) 104)) (by kernel_rfl) ?_) | (refine wpList_store_new rfl 104 (.tmp 3) (.tmp 8) rfl (u32s z8) (u32s consts) (by kernel_rfl) (by kernel_rfl) (by kernel_rfl) (by kernel_rfl) (by kernel_rfl) ?_))
  obtain ⟨wb, ewb⟩ : ∃ wb, wb = wa.alloc (.cells (u32s consts) 104) := ⟨_, rfl⟩
  have ss : SS w wa.heap.size consts wb := by
    refine ⟨?_, hba.size, ?_⟩
    · rw [ewb]; exact heap_alloc_new wa _
    · rw [ewb]; exact hba.alloc hba.size _
  rw [← ewb]
  clear ewb hba
  generalize wa.heap.size = bh at *
  have k0 := ss.c 0 (by decide)
  have f0 := ss.f 0
  have x0 : bits .xor .u32 ((consts.getD 0 0 : Nat) : Int) 16842784 = ((consts.getD 0 0 ^^^ 16842784 : Nat) : Int) := u32_xor_nat _ 16842784 (by decide) (by decide)
  have ss1 := ss.store 0 (consts.getD 0 0 ^^^ 16842784)
  have E0 : Hid (consts.set 0 (consts.getD 0 0 ^^^ 16842784) = h0) := Lib.hid rfl
  rw [E0.out] at ss1
  generalize consts.getD 0 0 = y0 at *
  generalize y0 ^^^ 16842784 = y1 at *
  go_wp2_with (fail)
  go_loopw [4] (fun i wx => ∃ k : Nat, i = .int .i64 (64 * k : Nat) ∧ 64 * k ≤ s.size ∧ (k ≠ 0 → 64 * k < s.size) ∧ SS w bh (hAt s.data.toList k) wx) (fun i _ => s.size - (intOf i).toNat)
  case atStart => exact ⟨0, rfl, by omega, by omega, ss1⟩
  case round =>
    obtain ⟨k, rfl, hk, hk0, ssx⟩ := hrel
    rename World => wx
    clear ss ss1 k0 f0 x0
    have hlen : s.data.toList.length = s.size := (Lib.size_eq s).symm
    by_cases hlt : s.size - 64 * k > 64
    · have okH := ok_hAt s.data.toList k
      have hbl := blockAt_len s.data.toList k (by omega)
      obtain ⟨n, en⟩ : ∃ n, n = 64 * k := ⟨_, rfl⟩
      have HS : Hid (hAt s.data.toList (k + 1) = press (hAt s.data.toList k) (blockAt s.data.toList k) (n + 64) false) := Lib.hid (by rw [hAt, en]; congr 1)
      have EX : Hid ((s.extract n (n + 64)).data.toList = blockAt s.data.toList k) := Lib.hid (by rw [Lib.extract_data, blockAt, en]; congr 1; omega)
      have hex : (s.extract n (n + 64)).size = 64 := by rw [ByteArray.size_extract]; omega
      have n0 : n + 64 < s.size := by omega
      have n1 : (n : Int) + 64 < (s.size : Int) := by omega
      have n2 : (64 : Int) < (s.size : Int) - (n : Int) := by omega
      have n3 : (n : Int) + 64 ≤ (s.size : Int) := by omega
      have n4 : (n : Int) ≤ (n : Int) + 64 := by omega
      have n5 : ((n : Int) + 64).toNat = n + 64 := by omega
      have N6 : Hid ((n : Int) + 64 = ((n + 64 : Nat) : Int)) := Lib.hid (by omega)
      have N7 : n + 64 < 9223372036854775808 := by omega
      have EN := Lib.hid en
      rw [← en]
      clear en hlt hk hk0 hbl
      go_wp2_with (go_at_call 72; ((with_reducible refine (press_int _ hex ((n : Int) + 64) (n + 64) N6.out N7 false bh _ okH _ ssx.m).mono ?_); rintro e wy ⟨rfl, my, gy⟩))
      go_roundw
      case rel =>
        have en := EN.out
        refine ⟨k + 1, ?_, by omega, by omega, ?_⟩
        · congr 1; omega
        · rw [HS.out]
          rw [EX.out] at my
          exact ssx.put gy my
      case measure => simp [intOf]; omega
    · have hk2 : (s.data.toList.length - 1) / 64 = k := by omega
      have okH := ok_hAt s.data.toList k
      have HE : Hid (hEnd s.data.toList = press (hAt s.data.toList k) (lastBlock s.data.toList k) s.size true) := Lib.hid (by rw [hEnd, hk2, hlen])
      obtain ⟨n, en⟩ : ∃ n, n = 64 * k := ⟨_, rfl⟩
      obtain ⟨c, ec⟩ : ∃ c, c = n + 64 - s.size := ⟨_, rfl⟩
      have n1 : (s.size : Int) - (n : Int) ≤ 64 := by omega
      have n2 : ¬ (64 : Int) < (s.size : Int) - (n : Int) := by omega
      have n3 : (n : Int) ≤ (s.size : Int) := by omega
      have r1 : IntKind.i64.wrap (64 - (s.size : Int)) = 64 - (s.size : Int) := IntWalk.i64_in _ (by omega)
      have r2 : IntKind.i64.wrap (64 - (s.size : Int) + (n : Int)) = (c : Int) := by rw [IntWalk.i64_in _ (by omega)]; omega
      have c1 : c ≤ 9223372036854775807 := by omega
      have c2 : (⟨#[0]⟩ : ByteArray).size * c ≤ 140737488355328 := by show 1 * c ≤ _; omega
      obtain ⟨X, eX⟩ : ∃ X, X = s.extract n s.size := ⟨_, rfl⟩
      obtain ⟨Y, eY⟩ : ∃ Y : ByteArray, Y = ⟨(Lib.repeatL (⟨#[0]⟩ : ByteArray).data.toList c).toArray⟩ := ⟨_, rfl⟩
      have EL : Hid ((X ++ Y).data.toList = lastBlock s.data.toList k) := Lib.hid (by
        rw [eX, eY, ByteArray.data_append, Array.toList_append, Lib.extract_to_end, repeat_zero, lastBlock, en, ec, hlen, en])
      have he2 : (X ++ Y).size = 64 := by
        rw [Lib.size_eq, EL.out, lastBlock]; simp; omega
      have hXY : X.size + Y.size ≤ 9223372036854775807 := by rw [ByteArray.size_append] at he2; omega
      have hXY' : ¬ (X.size + Y.size > 9223372036854775807) := by omega
      have rX := eX.symm
      have RP : ∀ W, Calls Tryz.prog 73 #[.string ⟨#[0]⟩, .int .i64 c] W fun e w' => e = .returned (.string Y) ∧ Below W.heap.size W w' := by
        intro W; rw [eY]; exact Tryz.strings_Repeat ⟨#[0]⟩ c W c1 c2
      have HE2 := Lib.hid he2
      clear he2 eX eY
      have S1 : s.size < 9223372036854775808 := by omega
      rw [← en]
      clear en ec hlt hk hk0 hk2
      go_wp2_with (fail)
      refine wp_region_mix (C := fun w' => SS w bh (hAt s.data.toList k) w') 12 (by kernel_rfl) (by kernel_rfl) (fun _ _ d _ _ h => by cases d <;> exact h) (ssx.drewN 1) ?_
      simp only [List.take_succ_cons, List.take_zero, List.drop_succ_cons, List.drop_zero]
      repeat (quiet_step (first | (intro _; rfl) | (intro hss; go_at_call 73; ((with_reducible refine (RP _).mono ?_); rintro e w' ⟨rfl, hb'⟩; exact ⟨rfl, hss.later hb'⟩))))
      refine wpQuiet_nil ?_
      intro wz ssz
      clear ssx
      go_upto_region 9 with (go_at_call 72; ((with_reducible refine (press_any _ HE2.out s.size S1 true bh _ okH _ ssz.m).mono ?_); rintro e wy ⟨rfl, my, gy⟩))
      rw [EL.out, ← HE.out] at my
      have ssy := ssz.put gy my
      have okE := ok_hEnd s.data.toList
      have SUM : Hid (sum s.data.toList = (hEnd s.data.toList).flatMap bytes4) := Lib.hid rfl
      generalize hEnd s.data.toList = H at *
      clear my gy ssz
      have hsz : (Tryz.prog.info? 104).map (·.size) = some (u32s H).size := by rw [u32s_size, okE.len]; kernel_rfl
      have HSZ := Lib.hid hsz
      clear hsz
      go_wp2_with (refine wpList_load_row rfl 104 (.tmp 3) rfl bh rfl 104 _ (0, 0) _ ssy.m Tryz.underlying104 rfl HSZ.out ?_)
      go_loopw [5, 42] (fun v i wx => ∃ j : Nat, j ≤ 8 ∧ i = .int .i64 j ∧ wx.ownsRow w.heap.size 5 1 v (4 * j) (Lib.byteCells ((H.take j).flatMap bytes4)) ∧ Below w.heap.size w wx) (fun _ i _ => 8 - (intOf i).toNat)
      case atStart => exact ⟨0, by omega, rfl, by simpa [Lib.byteCells] using World.ownsRow_nil _ _ _ _, ssy.below⟩
      case round =>
        obtain ⟨j, hj, rfl, hown, hbx⟩ := hrel
        rename World => wx
        by_cases hlj : j < 8
        · have hix : ∀ W, (Instr.index 104 (.agg (u32s H)) (.int .i64 (j : Nat))).run Tryz.prog W = .ok (.int .u32 (H.getD j 0 : Nat)) W := fun W =>
            run_index_arr Tryz.underlying104 (by kernel_rfl) (by kernel_rfl) hlj (u32s_get H j (by rw [okE.len]; exact hlj))
          have FT := Lib.hid (flat_take H j (by rw [okE.len]; exact hlj))
          have lx := okE.lt j
          generalize H.getD j 0 = x at *
          have HC : (#[.int .u8 ((x : Int) % 256), .int .u8 ((x : Int) / 256 % 256), .int .u8 ((x : Int) / 65536 % 256), .int .u8 ((x : Int) / 16777216)] : Array Value) = (Lib.byteCells (bytes4 x)).toArray := bytes4_cells x lx
          have HCH := Lib.hid HC
          have hB := hbx.size
          have n8 : 4 * j + 4 ≤ 140737488355328 := by omega
          clear HC
          go_wp2_with (first | (refine wpList_index 44 104 (.tmp 41) (.tmp 42) rfl rfl rfl (.int .u32 x) (hix _) ?_) | (at_builtin; refine append_bytes rfl (.tmp 45) (.tmp 57) 80 rfl w.heap.size 5 Tryz.underlying80 (by kernel_rfl) _ (4 * j) _ rfl hown _ (bytes4 x) HCH.out 4 rfl rfl n8 hB hbx ?_; intro v' w1 hown1 hb1 _))
          go_roundw
          case rel => exact ⟨j + 1, by omega, by go_num, by rw [FT.out]; exact hown1, hb1⟩
          case measure => simp [intOf]; omega
        · obtain rfl : j = 8 := by omega
          have hcv := conv_own (P := Tryz.prog) (src := 80) (dst := 9) Tryz.underlying80 Tryz.underlying5 Tryz.underlying9 hown
          rw [List.take_of_length_le (by rw [okE.len]; omega), ← SUM.out] at hcv
          clear hown
          go_wp2_with (fail)
          go_ret
          exact ⟨rfl, hbx⟩
end Go.Proofs.YtcpkhaebcmgehaaGreatDoor
