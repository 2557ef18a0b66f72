/- Joined by mkmerged.py: RefSum. -/
import Derived.Test.YtlndnpfjneeeeaaGreatDoorMh07
import Derived.Test.YtlndnpfjneeeeaaGreatDoorMh04
import Derived.Lib.Strings
/- RefSum, what a claim needs of it (prune.py). -/
namespace Go.Proofs.YtlndnpfjneeeeaaGreatDoor
open Go.RowKit Blk
set_option linter.unusedVariables false
set_option maxRecDepth 100000
theorem refbytes4_cells (x : Nat) (hx : x < 4294967296) : (#[.int .u8 ((x : Int) % 256), .int .u8 ((x : Int) / 256 % 256), .int .u8 ((x : Int) / 65536 % 256), .int .u8 ((x : Int) / 16777216)] : Array Value) = (Lib.byteCells (bytes4 x)).toArray := by
  have h : ∀ y : Nat, y < 256 → ((UInt8.ofNat y).toNat : Int) = y := fun y hy => by rw [UInt8.toNat_ofNat_of_lt' (by simpa using hy)]
  simp only [bytes4, Lib.byteCells, List.map_cons, List.map_nil]
  rw [h _ (Nat.mod_lt _ (by decide)), h _ (Nat.mod_lt _ (by decide)), h _ (Nat.mod_lt _ (by decide)), h _ (Nat.mod_lt _ (by decide)), Nat.mod_eq_of_lt (show x / 16777216 < 256 by omega)]
  rfl
structure QS (w : World) (gh : Nat) (H : List Nat) (w' : World) : Prop where
  m : w'.heap[gh]? = some (.cells (rowI H []) 3 (0, 0))
  lb : w.heap.size ≤ gh
  below : Below w.heap.size w w'
namespace QS
variable {w w' w'' : World} {gh : Nat} {H : List Nat}
theorem drewN (h : QS w gh H w') (n : Nat) : QS w gh H (w'.drewN n) := ⟨h.m, h.lb, belowDN h.below n⟩
theorem later (h : QS w gh H w') (k : Below w'.heap.size w' w'') : QS w gh H w'' := ⟨heap_below k (lt_heap h.m) h.m, h.lb, h.below.trans (k.mono h.below.size)⟩
theorem put (h : QS w gh H w') {H' : List Nat} (k : w'.grownBy w'' (some gh)) (m : w''.heap[gh]? = some (.cells (rowI H' []) 3 (0, 0))) : QS w gh H' w'' :=
  ⟨m, h.lb, h.below.grown k h.below.size (fun j hj => by cases hj; exact h.lb)⟩
theorem c (h : QS w gh H w') (i : Nat) (hi : i < H.length) : w'.cell? ⟨gh, i, none⟩ = some (.int .i64 (H.getD i 0 : Nat)) := by rw [cell_heap h.m]; exact rowI_get _ _ _ hi
theorem f (h : QS w gh H w') (i : Nat) : w'.frozen? ⟨gh, i, none⟩ = false := frozen_heap h.m i
end QS
def zc (c : Nat) : Array Value := (Lib.byteCells (List.replicate c 0)).toArray
theorem zc_made (c : Nat) : madeCells (Value.int .u8 0).cells (c * 1) = zc c := by
  apply Array.ext
  · simp [madeCells, zc, Lib.byteCells]
  · intro i h1 h2
    simp [madeCells, zc, Lib.byteCells, Value.cells, Nat.mod_one]
theorem make_zc (c : Nat) (hc : c ≤ 64) (W : World) : (Instr.makeSlice 71 (.int .i64 c) (.int .i64 c)).run Tryz.prog W = .ok (.slice (some ⟨W.heap.size, 0, none⟩) c c) (W.alloc (.cells (zc c) 5)) := by
  obtain ⟨i0, hi0, hz0, hz1, hz2⟩ := info_parts (show (Tryz.prog.info? 5).map (fun i => (i.zero, i.size, i.bytes)) = some (some (.int .u8 0), 1, 1) by kernel_rfl)
  have := run_make (P := Tryz.prog) W 71 5 i0 (.int .u8 0) Tryz.underlying71 hi0 hz0 .i64 .i64 c c (by omega) (by omega) (by rw [hz2]; omega) (by omega)
  rw [hz1, Int.toNat_natCast, zc_made] at this
  exact this
theorem conv_zcD (c : Nat) (hc : c ≤ 64) (W : World) : (convert 71 9 (.slice (some ⟨W.heap.size, 0, none⟩) c c)).run Tryz.prog (W.alloc (.cells (zc c) 5)).drew = .ok (.string ⟨(List.replicate c 0).toArray⟩) (W.alloc (.cells (zc c) 5)).drew :=
  conv_own (B := 0) (n := c) (l := List.replicate c 0) Tryz.underlying71 Tryz.underlying5 Tryz.underlying9
    ⟨by simp [Lib.byteCells], .inr ⟨W.heap.size, c, zc c, rfl, Nat.zero_le _, heap_alloc_new W _, Nat.le_refl _, by unfold maxLen; omega, by simp [zc, Lib.byteCells], by simp [zc, Lib.byteCells]⟩⟩
set_option maxHeartbeats 2000000 in
set_option maxRecDepth 100000 in
theorem refsum_any (s : ByteArray) (hs : s.size ≤ 1000000) (w : World) :
    Calls Tryz.prog 67 #[.string s] w fun e w' => e = .returned (.string ⟨(sum s.data.toList).toArray⟩) ∧ Below w.heap.size w w' := by
  have hlen : Hid (s.data.toList.length = s.size) := Lib.hid (Lib.size_eq s).symm
  go_enter Tryz.func67, Tryz.ntmps67
  go_upto_region 2 with (go_at_call 165; ((with_reducible refine (refconst_any _).mono ?_); rintro e w3 ⟨rfl, rfl⟩))
  obtain ⟨wb, ewb⟩ : ∃ wb, wb = w.alloc (.cells (i64n consts) 3) := ⟨_, rfl⟩
  have qs : QS w w.heap.size consts wb := ⟨by rw [ewb]; exact heap_alloc_new w _, Nat.le_refl _, by rw [ewb]; exact (Below.refl _ _).alloc (Nat.le_refl _) _⟩
  rw [← ewb]
  clear ewb
  have k0 := qs.c 0 (by decide)
  have f0 := qs.f 0
  have x0 : bits .xor .i64 ((consts.getD 0 0 : Nat) : Int) 16842784 = ((consts.getD 0 0 ^^^ 16842784 : Nat) : Int) := i64_xor _ 16842784 (by decide) (by decide)
  have qs1 : QS w w.heap.size h0 (wb.setCell ⟨w.heap.size, 0, none⟩ (.int .i64 (consts.getD 0 0 ^^^ 16842784 : Nat))) :=
    ⟨by rw [heap_set qs.m, rowI_set _ _ _ _ (by decide)]; rfl, Nat.le_refl _, qs.below.setCell (p := ⟨w.heap.size, 0, none⟩) (Nat.le_refl _) _⟩
  generalize consts.getD 0 0 = y0 at *
  generalize y0 ^^^ 16842784 = y1 at *
  go_wp2_with (fail)
  go_loopw [4] (fun i wx => ∃ k : Nat, i = .int .i64 (64 * k : Nat) ∧ 64 * k ≤ s.size ∧ (k ≠ 0 → 64 * k < s.size) ∧ QS w w.heap.size (hAt s.data.toList k) wx) (fun i _ => s.size - (intOf i).toNat)
  case atStart => exact ⟨0, rfl, by omega, by omega, qs1⟩
  case round =>
    obtain ⟨k, rfl, hk, hk0, qx⟩ := hrel
    rename World => wx
    clear qs qs1 k0 f0 x0
    have hl := hlen.out
    obtain ⟨n, en⟩ : ∃ n, n = 64 * k := ⟨_, rfl⟩
    rw [← en]
    by_cases hlt : s.size - 64 * k > 64
    · have n2 : (64 : Int) < (s.size : Int) - (n : Int) := by omega
      have n3 : (n : Int) + 64 ≤ (s.size : Int) := by omega
      have n4 : (n : Int) ≤ (n : Int) + 64 := by omega
      have n5 : ((n : Int) + 64 == (s.size : Int)) = false := by simp; omega
      have okH := ok_hAt s.data.toList k
      have HS : Hid (hAt s.data.toList (k + 1) = press (hAt s.data.toList k) (blockAt s.data.toList k) (n + 64) false) := Lib.hid (by rw [hAt, en]; congr 1)
      have EX : Hid ((s.extract n (n + 64) ++ (⟨#[]⟩ : ByteArray)).data.toList = blockAt s.data.toList k) := Lib.hid (by
        rw [ByteArray.data_append, Array.toList_append, Lib.extract_data, blockAt, en, show 64 * k + 64 - 64 * k = 64 by omega]; simp)
      have hex : (s.extract n (n + 64) ++ (⟨#[]⟩ : ByteArray)).size = 64 := by rw [Lib.size_eq, EX.out, blockAt_len _ _ (by omega)]
      have HEX := Lib.hid hex
      have N6 : Hid ((n : Int) + 64 = ((n + 64 : Nat) : Int)) := Lib.hid (by omega)
      have N7 : n + 64 < 9223372036854775808 := by omega
      have EN := Lib.hid en
      have r1 : IntKind.i64.wrap ((n : Int) + 64) = (n : Int) + 64 := IntWalk.i64_in _ (by omega)
      have r2 : ((n : Int) + 64).toNat = n + 64 := by omega
      have mk : ∀ W, (Instr.makeSlice 71 (.int .i64 0) (.int .i64 0)).run Tryz.prog W = .ok (.slice (some ⟨World.heap W |>.size, 0, none⟩) 0 0) (World.alloc W (.cells (zc 0) 5)) := fun W => make_zc 0 (by decide) W
      have cz := conv_zcD 0 (by decide) wx
      have HLT := Lib.hid hlt
      clear en hlt hk hk0 hl hex
      go_wp2_with (fail)
      go_region
      have qz : QS w w.heap.size (hAt s.data.toList k) (wx.alloc (.cells (zc 0) 5)).drew := (qx.later ((Below.refl _ _).alloc (Nat.le_refl _) _)).drewN 1
      go_wp2_with (go_at_call 166; ((with_reducible refine (refpress_any _ HEX.out ((n : Int) + 64) (n + 64) N6.out N7 false w.heap.size 8 _ [] okH _ qz.m).mono ?_); rintro e wy ⟨rfl, my, gy⟩))
      go_roundw
      case rel =>
        have en := EN.out
        have hlt := HLT.out
        refine ⟨k + 1, ?_, by omega, by omega, ?_⟩
        · congr 1; omega
        · rw [HS.out]
          rw [EX.out] at my
          exact qz.put gy my
      case measure => simp [intOf]; omega
    · have hk2 : (s.data.toList.length - 1) / 64 = k := by omega
      have okH := ok_hAt s.data.toList k
      have HE : Hid (hEnd s.data.toList = press (hAt s.data.toList k) (lastBlock s.data.toList k) s.size true) := Lib.hid (by rw [hEnd, hk2, hl])
      obtain ⟨c, ec⟩ : ∃ c, c = n + 64 - s.size := ⟨_, rfl⟩
      obtain ⟨kk, ekk⟩ : ∃ q, q = s.size - n := ⟨_, rfl⟩
      obtain ⟨Y, eY⟩ : ∃ Y : ByteArray, Y = ⟨(List.replicate c 0).toArray⟩ := ⟨_, rfl⟩
      have n2 : (s.size : Int) - (n : Int) ≤ 64 := by omega
      have n0 : (s.size : Int) - (n : Int) = (kk : Int) := by omega
      have m1 : (kk : Int) ≤ 64 := by omega
      have n3 : (n : Int) ≤ (s.size : Int) := by omega
      have r1 : IntKind.i64.wrap ((n : Int) + (kk : Int)) = (s.size : Int) := by rw [IntWalk.i64_in _ (by omega)]; omega
      have r1' : (n : Int) + (kk : Int) = (s.size : Int) := by omega
      have r2 : IntKind.i64.wrap (64 - (kk : Int)) = (c : Int) := by rw [IntWalk.i64_in _ (by omega)]; omega
      have mk : ∀ W : World, (Instr.makeSlice 71 (.int .i64 c) (.int .i64 c)).run Tryz.prog W = .ok (.slice (some ⟨W.heap.size, 0, none⟩) c c) (W.alloc (.cells (zc c) 5)) := fun W => make_zc c (by omega) W
      have cz := conv_zcD c (by omega) wx
      rw [← eY] at cz
      have EL : Hid ((s.extract n s.size ++ Y).data.toList = lastBlock s.data.toList k) := Lib.hid (by
        rw [eY, ByteArray.data_append, Array.toList_append, Lib.extract_to_end, lastBlock, en, ec, hl, en])
      have he2 : (s.extract n s.size ++ Y).size = 64 := by rw [Lib.size_eq, EL.out, lastBlock]; simp; omega
      have hXY : (s.extract n s.size).size + Y.size ≤ 9223372036854775807 := by rw [ByteArray.size_append] at he2; omega
      have hXY' : ¬ ((s.extract n s.size).size + Y.size > 9223372036854775807) := by omega
      have hXY2 : s.size - n + Y.size ≤ 9223372036854775807 := by rw [ByteArray.size_append, ByteArray.size_extract] at he2; omega
      have HE2 := Lib.hid he2
      have hite : (if (kk : Int) < 64 then (kk : Int) else 64) = (kk : Int) := by split <;> omega
      have S1 : s.size < 9223372036854775808 := by omega
      clear en ec ekk hlt hk hk0 hl hk2 eY he2
      go_wp2_with (fail)
      go_region
      have qz : QS w w.heap.size (hAt s.data.toList k) (wx.alloc (.cells (zc c) 5)).drew := (qx.later ((Below.refl _ _).alloc (Nat.le_refl _) _)).drewN 1
      clear cz mk qx
      go_upto_region 9 with (go_at_call 166; ((with_reducible refine (refpress_any _ HE2.out (s.size : Int) s.size rfl S1 true w.heap.size 8 _ [] okH _ qz.m).mono ?_); rintro e wy ⟨rfl, my, gy⟩))
      rw [EL.out, ← HE.out] at my
      have qy := qz.put gy my
      have okE := ok_hEnd s.data.toList
      have SUM : Hid (sum s.data.toList = (hEnd s.data.toList).flatMap bytes4) := Lib.hid rfl
      generalize hEnd s.data.toList = H at *
      clear my gy qz
      go_wp2_with (fail)
      go_loopw [7, 8] (fun v i wx => ∃ j : Nat, j ≤ 8 ∧ i = .int .i64 j ∧ wx.ownsRow wy.heap.size 5 1 v (4 * j) (Lib.byteCells ((H.take j).flatMap bytes4)) ∧ Below wy.heap.size wy wx) (fun _ i _ => 8 - (intOf i).toNat)
      case atStart => exact ⟨0, by omega, rfl, by simpa [Lib.byteCells] using World.ownsRow_nil _ _ _ _, Below.refl _ _⟩
      case round =>
        obtain ⟨j, hj, rfl, hown, hbx⟩ := hrel
        rename World => wv
        have qv := qy.later hbx
        by_cases hlj : j < 8
        · have FT := Lib.hid (flat_take H j (by rw [okE.len]; exact hlj))
          have lx := okE.lt j
          have cx := qv.c j (by rw [okE.len]; exact hlj)
          generalize H.getD j 0 = x at *
          have jx : (j : Int) < 8 := by omega
          have HC := refbytes4_cells x lx
          have hB := hbx.size
          have n8 : 4 * j + 4 ≤ 140737488355328 := by omega
          have HCH := Lib.hid HC
          clear HC
          go_wp2_with (fail)
          refine wp_region_mix (C := fun w' => ∃ n, w' = wv.drewN n) 24 (by kernel_rfl) (by kernel_rfl) (fun _ _ d _ _ h => by cases d <;> exact h) ⟨1, rfl⟩ ?_
          simp only [List.take_succ_cons, List.take_zero, List.drop_succ_cons, List.drop_zero]
          repeat (quiet_step (fail))
          refine wpQuiet_nil ?_
          rintro _ ⟨n1, rfl⟩
          go_wp2_with (at_builtin; refine append_bytes rfl (.tmp 51) (.tmp 75) 71 rfl wy.heap.size 5 Tryz.underlying71 (by kernel_rfl) _ (4 * j) _ rfl (ownsDN hown n1) _ (bytes4 x) HCH.out 4 rfl rfl n8 hB (belowDN hbx n1) ?_; intro v' w1 hown1 hb1 _)
          go_roundw
          case rel => exact ⟨j + 1, by omega, by go_num, by rw [FT.out]; exact hown1, hb1⟩
          case measure => simp [intOf]; omega
        · obtain rfl : j = 8 := by omega
          have hcv := conv_own (P := Tryz.prog) (src := 71) (dst := 9) Tryz.underlying71 Tryz.underlying5 Tryz.underlying9 hown
          rw [List.take_of_length_le (by rw [okE.len]; omega), ← SUM.out] at hcv
          have hfin := qy.below.trans (hbx.mono qy.below.size)
          clear hown
          go_wp2_with (fail)
          go_ret
          exact ⟨rfl, hfin⟩
end Go.Proofs.YtlndnpfjneeeeaaGreatDoor
