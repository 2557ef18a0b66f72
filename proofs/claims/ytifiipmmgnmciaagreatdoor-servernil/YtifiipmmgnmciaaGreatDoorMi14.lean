/- Joined by mkmerged.py: BlkPress, BlkSum. -/
import Derived.Test.YtifiipmmgnmciaaGreatDoorMi13
import Derived.Test.YtifiipmmgnmciaaGreatDoorMiKm
import Derived.Laws.CopyOwn
import Derived.Test.YtifiipmmgnmciaaGreatDoorMiKt
import Derived.Test.YtifiipmmgnmciaaGreatDoorMi01
/- BlkPress, what a claim needs of it (prune.py). -/
namespace Go.Proofs.YtifiipmmgnmciaaGreatDoor
open Go.RowKit Blk
set_option linter.unusedVariables false
set_option maxRecDepth 100000
structure PS (w : World) (M : List Nat) (B1 b : Nat) (V H : List Nat) (w' : World) : Prop where
  m0 : w'.heap[w.heap.size]? = some (.cells (u32s M) 421 (0, 0))
  m1 : w'.heap[B1]? = some (.cells (u32s V) 421 (0, 0))
  mb : w'.heap[b]? = some (.cells (u32s H) 385 (0, 0))
  lb : b < w.heap.size
  l1 : w.heap.size < B1
  below : w.grownBy w' (some b)
namespace PS
variable {w w' w'' : World} {M : List Nat} {B1 b : Nat} {V H : List Nat}
theorem drewN (h : PS w M B1 b V H w') (n : Nat) : PS w M B1 b V H (w'.drewN n) := ⟨h.m0, h.m1, h.mb, h.lb, h.l1, grown_drewN h.below n⟩
theorem alloc (h : PS w M B1 b V H w') (o : Obj) : PS w M B1 b V H (w'.alloc o) := ⟨heap_alloc_lt h.m0, heap_alloc_lt h.m1, heap_alloc_lt h.mb, h.lb, h.l1, grown_alloc h.below _⟩
theorem later (h : PS w M B1 b V H w') (k : Below w'.heap.size w' w'') : PS w M B1 b V H w'' :=
  ⟨heap_below k (lt_heap h.m0) h.m0, heap_below k (lt_heap h.m1) h.m1, heap_below k (lt_heap h.mb) h.mb, h.lb, h.l1, grown_trans h.below (grown_of_below k _)⟩
theorem store (h : PS w M B1 b V H w') (i x : Nat) : PS w M B1 b (V.set i x) H (w'.setCell ⟨B1, i, none⟩ (.int .u32 x)) :=
  ⟨(heap_set_ne (by have := h.l1; omega)).trans h.m0, by rw [heap_set h.m1, u32s_set], (heap_set_ne (by have := h.l1; have := h.lb; omega)).trans h.mb, h.lb, h.l1, grown_set h.below (.inl (Nat.le_of_lt h.l1)) _ _⟩
theorem storeb (h : PS w M B1 b V H w') (i x : Nat) : PS w M B1 b V (H.set i x) (w'.setCell ⟨b, i, none⟩ (.int .u32 x)) :=
  ⟨(heap_set_ne (by have := h.lb; omega)).trans h.m0, (heap_set_ne (by have := h.l1; have := h.lb; omega)).trans h.m1, by rw [heap_set h.mb, u32s_set], h.lb, h.l1, grown_set h.below (.inr rfl) _ _⟩
theorem row (h : PS w M B1 b V H w') (V' : List Nat) : PS w M B1 b V' H (w'.setRow B1 (u32s V')) :=
  ⟨(setRow_other _ _ _ _ (by have := h.l1; omega)).trans h.m0, setRow_heap _ _ _ _ _ _ h.m1, (setRow_other _ _ _ _ (by have := h.l1; have := h.lb; omega)).trans h.mb, h.lb, h.l1,
    ⟨h.below.os, h.below.tape, h.below.output, by simpa [World.setRow] using h.below.size, fun k hk hr => (setRow_other _ _ _ _ (by have := h.l1; omega)).trans (h.below.block k hk hr)⟩⟩
theorem c1 (h : PS w M B1 b V H w') (i : Nat) (hi : i < V.length) : w'.cell? ⟨B1, i, none⟩ = some (.int .u32 (V.getD i 0 : Nat)) := by rw [cell_heap h.m1]; exact u32s_get _ _ hi
theorem f1 (h : PS w M B1 b V H w') (i : Nat) : w'.frozen? ⟨B1, i, none⟩ = false := frozen_heap h.m1 i
theorem c0 (h : PS w M B1 b V H w') (i : Nat) (hi : i < M.length) : w'.cell? ⟨w.heap.size, i, none⟩ = some (.int .u32 (M.getD i 0 : Nat)) := by rw [cell_heap h.m0]; exact u32s_get _ _ hi
theorem cb (h : PS w M B1 b V H w') (i : Nat) (hi : i < H.length) : w'.cell? ⟨b, i, none⟩ = some (.int .u32 (H.getD i 0 : Nat)) := by rw [cell_heap h.mb]; exact u32s_get _ _ hi
theorem fb (h : PS w M B1 b V H w') (i : Nat) : w'.frozen? ⟨b, i, none⟩ = false := frozen_heap h.mb i
end PS
set_option maxHeartbeats 1000000 in
set_option maxRecDepth 100000 in
theorem press_any (s : ByteArray) (hs : s.size = 64) (n : Nat) (hn : n < 9223372036854775808) (last : Bool) (b : Nat) (H : List Nat) (hH : Ok 8 H) (w : World) (hb : w.heap[b]? = some (.cells (u32s H) 385 (0, 0))) :
    Calls Tryz.prog 288 #[.pointer (some ⟨b, 0, none⟩), .string s, .int .i64 n, .bool last] w fun e w' =>
      e = .returned (.tuple #[]) ∧ w'.heap[b]? = some (.cells (u32s (press H s.data.toList n last)) 385 (0, 0)) ∧ w.grownBy w' (some b) := by
  go_enter Tryz.func288, Tryz.ntmps288
  go_wp2_with fail
  go_loopw [21] (fun i wr => ∃ k : Nat, k ≤ 16 ∧ i = .int .i64 k ∧ wr.heap[w.heap.size]? = some (.cells (u32s (upTo (words s.data.toList) k)) 421 (0, 0)) ∧ Below w.heap.size w wr) (fun i _ => 16 - (intOf i).toNat)
  case atStart => 
    refine ⟨0, by omega, rfl, ?_, ?_⟩
    · exact heap_alloc_new w _
    · exact (Below.refl _ _).alloc (Nat.le_refl _) _
  case round =>
    obtain ⟨k, hk, rfl, hm, hbw⟩ := hrel
    by_cases hlt : k < 16
    · have hcell : wr.cell? ⟨w.heap.size, k, none⟩ = some (.int .u32 ((upTo (words s.data.toList) k).getD k 0 : Nat)) := by rw [cell_heap hm]; exact u32s_get _ _ (by simpa [upTo] using hlt)
      have hfz : wr.frozen? ⟨w.heap.size, k, none⟩ = false := frozen_heap hm k
      have h0 : 4 * (k : Int) < 64 := by omega
      have h1 : 4 * (k : Int) + 1 < 64 := by omega
      have h2 : 4 * (k : Int) + 2 < 64 := by omega
      have h3 : 4 * (k : Int) + 3 < 64 := by omega
      have g0 : 0 ≤ 4 * (k : Int) := by omega
      have g1 : 0 ≤ 4 * (k : Int) + 1 := by omega
      have g2 : 0 ≤ 4 * (k : Int) + 2 := by omega
      have g3 : 0 ≤ 4 * (k : Int) + 3 := by omega
      have t0 : (4 * (k : Int)).toNat = 4 * k := by omega
      have t1 : (4 * (k : Int) + 1).toNat = 4 * k + 1 := by omega
      have t2 : (4 * (k : Int) + 2).toNat = 4 * k + 2 := by omega
      have t3 : (4 * (k : Int) + 3).toNat = 4 * k + 3 := by omega
      have v0 : IntKind.i64.wrap (4 * (k : Int)) = 4 * (k : Int) := IntWalk.i64_in _ (by omega)
      have v1 : IntKind.i64.wrap (4 * (k : Int) + 1) = 4 * (k : Int) + 1 := IntWalk.i64_in _ (by omega)
      have v2 : IntKind.i64.wrap (4 * (k : Int) + 2) = 4 * (k : Int) + 2 := IntWalk.i64_in _ (by omega)
      have v3 : IntKind.i64.wrap (4 * (k : Int) + 3) = 4 * (k : Int) + 3 := IntWalk.i64_in _ (by omega)
      have i0 : k < 16 := hlt
      go_wp2_with (fail)
      refine wp_region_mix (C := fun w' => ∃ n, w' = wr.drewN n) 31 (by kernel_rfl) (by kernel_rfl) (fun _ _ d _ _ h => by cases d <;> exact h) ⟨1, rfl⟩ ?_
      simp only [List.take_succ_cons, List.take_zero, List.drop_succ_cons, List.drop_zero]
      repeat (quiet_step (fail))
      refine wpQuiet_nil ?_
      rintro _ ⟨n0, rfl⟩
      go_wp2_with (fail)
      go_roundw
      case rel =>
        refine ⟨k + 1, by omega, by go_num, ?_, ?_⟩
        · rw [heap_set (w := wr.drewN n0) hm, bt_get s _ (by omega), bt_get s _ (by omega), bt_get s _ (by omega), bt_get s _ (by omega), by4I (bt_lt _ _) (bt_lt _ _) (bt_lt _ _) (bt_lt _ _)]
          have := upTo_set (words s.data.toList) k hlt
          rw [words_getD _ _ hlt] at this
          rw [← this, ← u32s_set]
          rfl
        · exact (belowDN hbw n0).setCell (p := ⟨w.heap.size, k, none⟩) (Nat.le_refl _) _
      case measure => simp [intOf]; omega
    · obtain rfl : k = 16 := by omega
      rw [upTo_16 _ (by simp [words])] at hm
      go_wp2_with (first | (refine wpList_val 10 rfl rfl (.pointer (some ⟨wr.heap.size, 0, none⟩)) (w' := wr.alloc (.cells (u32s z16) 421)) (by kernel_rfl) ?_) | (go_at_call 287; ((with_reducible refine (constants_any _).mono ?_); rintro e wa ⟨rfl, hba⟩)) | (refine wpList_val 11 rfl rfl (.pointer (some ⟨wa.heap.size, 0, none⟩)) (w' := wa.alloc (.cells (u32s z8) 385)) (by kernel_rfl) ?_) | (refine wpList_store_new rfl 385 (.tmp 11) (.tmp 56) rfl (u32s z8) (u32s consts) (by kernel_rfl) (by kernel_rfl) (by kernel_rfl) (by kernel_rfl) (by kernel_rfl) ?_))
      obtain ⟨wb, ewb⟩ : ∃ wb, wb = wa.alloc (.cells (u32s consts) 385) := ⟨_, rfl⟩
      have l0 : w.heap.size < wr.heap.size := lt_heap hm
      have lb : b < w.heap.size := lt_heap hb
      have la : wr.heap.size < wa.heap.size := by have := hba.size; simp at this; omega
      have m2 : wb.heap[wa.heap.size]? = some (.cells (u32s consts) 385 (0, 0)) := by rw [ewb]; exact heap_alloc_new wa _
      have ps : PS w (words s.data.toList) wr.heap.size b z16 H wb := by
        refine ⟨?_, ?_, ?_, lb, l0, ?_⟩
        · rw [ewb]; exact heap_alloc_lt (heap_below hba (by simp; omega) (heap_alloc_lt hm))
        · rw [ewb]; exact heap_alloc_lt (heap_below hba (by simp) (heap_alloc_new wr _))
        · rw [ewb]; exact heap_alloc_lt (heap_below hba (by simp; omega) (heap_alloc_lt (heap_below hbw lb hb)))
        · rw [ewb]; exact grown_of_below (((hbw.alloc (by omega) _).trans (hba.mono (by simp; omega))).alloc (by omega) _) _
      rw [← ewb]
      clear ewb hm hba hbw
      generalize wr.heap.size = B1 at *
      generalize wa.heap.size = B2 at *
      refine wp_region_mix (C := fun w' => ∃ n, w' = wb.drewN n) 4 (by kernel_rfl) (by kernel_rfl) (fun _ _ d _ _ h => by cases d <;> exact h) ⟨1, rfl⟩ ?_
      simp only [List.take_succ_cons, List.take_zero, List.drop_succ_cons, List.drop_zero]
      repeat (quiet_step (fail))
      refine wpQuiet_nil ?_
      rintro _ ⟨n1, rfl⟩
      have ps1 := ps.drewN n1
      have cH : ∀ j v, (u32s H).toList[j]? = some v → (wb.drewN n1).cell? ((⟨b, 0, none⟩ : Addr).add j) = some v := by
        intro j v h; rw [Addr.add_mid, Nat.zero_add, cell_heap ps1.mb]; simpa using h
      refine wpList_copy_own rfl (.tmp 57) (.tmp 60) 422 422 rfl 361 Tryz.underlying422 (by kernel_rfl) B1 0 8 16 ⟨b, 0, none⟩ 8 8 rfl rfl (u32s z16) 421 ps1.m1 (u32s H).toList (by simp [u32s_size, hH.len]) cH (by simp [u32s_size, hH.len, z16]) (u32s_one H) ?_
      obtain ⟨wc, ewc⟩ : ∃ wc, wc = (wb.drewN n1).setRow B1 (u32s (H ++ z8)) := ⟨_, rfl⟩
      have m2c : wc.heap[B2]? = some (.cells (u32s consts) 385 (0, 0)) := by rw [ewc, setRow_other _ _ _ _ (by omega)]; exact m2
      have ps2 : PS w (words s.data.toList) B1 b (H ++ z8) H wc := by rw [ewc]; exact ps1.row _
      have e1 : ((u32s z16).toList.take 0 ++ ((u32s H).toList ++ (u32s z16).toList.drop (0 + (u32s H).toList.length))).toArray = u32s (H ++ z8) := by simp [u32s, hH.len, z16, z8]
      rw [e1, ← ewc]
      clear ewc e1 cH ps ps1 m2
      go_wp2_with (fail)
      refine wp_region_mix (C := fun w' => ∃ n, w' = wc.drewN n) 2 (by kernel_rfl) (by kernel_rfl) (fun _ _ d _ _ h => by cases d <;> exact h) ⟨1, rfl⟩ ?_
      simp only [List.take_succ_cons, List.take_zero, List.drop_succ_cons, List.drop_zero]
      repeat (quiet_step (fail))
      refine wpQuiet_nil ?_
      rintro _ ⟨n2, rfl⟩
      have ps3 := ps2.drewN n2
      have cH : ∀ j v, (u32s consts).toList[j]? = some v → (wc.drewN n2).cell? ((⟨B2, 0, none⟩ : Addr).add j) = some v := by
        intro j v h; rw [Addr.add_mid, Nat.zero_add, World.cell?_drewN, cell_heap m2c]; simpa using h
      refine wpList_copy_own rfl (.tmp 62) (.tmp 63) 422 422 rfl 361 Tryz.underlying422 (by kernel_rfl) B1 8 8 8 ⟨B2, 0, none⟩ 8 8 rfl rfl (u32s (H ++ z8)) 421 ps3.m1 (u32s consts).toList (by kernel_rfl) cH (by simp [u32s_size, hH.len, z8, consts]) (u32s_one consts) ?_
      obtain ⟨wd, ewd⟩ : ∃ wd, wd = (wc.drewN n2).setRow B1 (u32s (H ++ consts)) := ⟨_, rfl⟩
      have ps4 : PS w (words s.data.toList) B1 b (H ++ consts) H wd := by rw [ewd]; exact ps3.row _
      have e2 : ((u32s (H ++ z8)).toList.take 8 ++ ((u32s consts).toList ++ (u32s (H ++ z8)).toList.drop (8 + (u32s consts).toList.length))).toArray = u32s (H ++ consts) := by
        have h1 := hH.len
        simp [u32s, z8, consts, List.drop_append, h1]
      rw [e2, ← ewd]
      clear ewd e2 cH ps2 ps3 m2c
      have hl16 : (H ++ consts).length = 16 := by simp [hH.len, consts]
      have okV : Ok 16 (H ++ consts) := ok_start hH
      generalize hV : H ++ consts = V at *
      obtain ⟨x12, e12⟩ : ∃ x, x = V.getD 12 0 := ⟨_, rfl⟩
      obtain ⟨x13, e13⟩ : ∃ x, x = V.getD 13 0 := ⟨_, rfl⟩
      obtain ⟨x14, e14⟩ : ∃ x, x = V.getD 14 0 := ⟨_, rfl⟩
      have y12 : x12 < 4294967296 := by rw [e12]; exact okV.lt 12
      have y13 : x13 < 4294967296 := by rw [e13]; exact okV.lt 13
      have y14 : x14 < 4294967296 := by rw [e14]; exact okV.lt 14
      have k12 := ps4.c1 12 (by omega)
      have k13 := ps4.c1 13 (by omega)
      have k14 := ps4.c1 14 (by omega)
      rw [← e12] at k12
      rw [← e13] at k13
      rw [← e14] at k14
      have g12 := ps4.f1 12
      have g13 := ps4.f1 13
      have g14 := ps4.f1 14
      have E12 := Lib.hid e12
      have E13 := Lib.hid e13
      have E14 := Lib.hid e14
      have HV := Lib.hid hV
      have HL := Lib.hid hl16
      clear e12 e13 e14 hV hl16
      go_upto_if 78 with (fail)
      go_cut [] from 79 to 82 (fun wx => PS w (words s.data.toList) B1 b (Blk.start H n last) H wx)
      case first =>
        have z12 : bits .xor .u32 (x12 : Int) ((n : Int) % 4294967296) = ((x12 ^^^ n % 4294967296 : Nat) : Int) := by
          have := u32_xor_nat x12 (n % 4294967296) y12 (by omega)
          rw [← this]; simp
        have z13 : bits .xor .u32 (x13 : Int) ((n : Int) / 4294967296) = ((x13 ^^^ n / 4294967296 % 4294967296 : Nat) : Int) := by
          have := u32_xor_nat x13 (n / 4294967296) y13 (by omega)
          rw [Nat.mod_eq_of_lt (by omega), ← this]; simp
        have z14 : bits .xor .u32 IntKind.u32.max (x14 : Int) = ((x14 ^^^ 4294967295 : Nat) : Int) := by
          have := u32_xor_nat 4294967295 x14 (by omega) y14
          rw [Nat.xor_comm, ← this]; rfl
        have Z12 := Lib.hid z12
        have Z13 := Lib.hid z13
        have Z14 := Lib.hid z14
        clear z12 z13 z14
        cases last
        · go_wp2_with (fail)
          go_meet
          rw [bstart_false, HV.out, Z12.out, Z13.out, ← E12.out, ← E13.out]
          exact (ps4.store 12 _).store 13 _
        · go_wp2_with (fail)
          go_meet
          rw [bstart_true, HV.out, Z12.out, Z13.out, Z14.out, ← E12.out, ← E13.out, ← E14.out]
          exact ((ps4.store 12 _).store 13 _).store 14 _
      case rest =>
        have okS : Ok 16 (Blk.start H n last) := ok_begin hH n last
        clear E12 E13 E14 HV HL ps4 k12 k13 k14 g12 g13 g14 y12 y13 y14 okV
        generalize hV0 : Blk.start H n last = V0 at *
        have HV0 := Lib.hid hV0
        clear hV0
        go_wp2_with (first | (go_at_call 325; ((with_reducible refine (rows_any _).mono ?_); rintro e we ⟨rfl, hbe⟩)))
        have ps5 : PS w (words s.data.toList) B1 b V0 H we := hcut.later hbe
        clear hcut hbe
        have okM := ok_words s.data.toList
        have EM : Hid (words s.data.toList = words s.data.toList) := Lib.hid rfl
        generalize hMM : words s.data.toList = M at *
        have HM := Lib.hid hMM
        clear hMM EM
        go_loopw [84] (fun i wx => ∃ k : Nat, k ≤ 10 ∧ i = .int .i64 k ∧ PS w M B1 b (prounds M V0 k) H wx) (fun i _ => 10 - (intOf i).toNat)
        case atStart => exact ⟨0, by omega, rfl, by rw [prounds_zero]; exact ps5⟩
        case round =>
          obtain ⟨k, hk, rfl, psx⟩ := hrel
          rename World => wx
          clear ps5
          have okV := ok_prounds (m := M) okS k
          by_cases hlt : k < 10
          · have hix := row_index k hlt
            have hrl := rows_len k hlt
            have hrt := rows_lt k hlt
            have KS := Lib.hid (prounds_succ M V0 k)
            go_wp2_with (first | (refine wpList_index 86 424 (.tmp 83) (.tmp 84) rfl rfl rfl (rowV k) (hix _) ?_) | (refine wpList_val 13 rfl rfl (.pointer (some ⟨_, 0, none⟩)) (w' := World.alloc _ (.cells zi16 423)) (by kernel_rfl) ?_) | (refine wpList_store_new rfl 423 (.tmp 13) (.tmp 86) rfl zi16 (i64s (rowsL.getD k [])) (by kernel_rfl) (by kernel_rfl) (by rw [i64s_size, hrl]; kernel_rfl) (by rw [i64s_size, hrl]; rfl) (i64s_one _) ?_))
            have psy : PS w M B1 b (psteps M (rowsL.getD k []) (prounds M V0 k) 0) H (wx.alloc (.cells (i64s (rowsL.getD k [])) 423)) := by rw [psteps_zero]; exact psx.alloc _
            have my : (wx.alloc (.cells (i64s (rowsL.getD k [])) 423)).heap[wx.heap.size]? = some (.cells (i64s (rowsL.getD k [])) 423 (0, 0)) := heap_alloc_new wx _
            have lBs : B1 < wx.heap.size := lt_heap psx.m1
            generalize wx.heap.size = Bs at *
            go_loopw [87] (fun i wy => ∃ j : Nat, j ≤ 8 ∧ i = .int .i64 j ∧ PS w M B1 b (psteps M (rowsL.getD k []) (prounds M V0 k) j) H wy ∧ wy.heap[Bs]? = some (.cells (i64s (rowsL.getD k [])) 423 (0, 0))) (fun i _ => 8 - (intOf i).toNat)
            case atStart => exact ⟨0, by omega, rfl, psy, my⟩
            case round =>
              obtain ⟨j, hj, rfl, psj, mj⟩ := hrel
              rename World => wy
              clear psy my hix
              by_cases hlj : j < 8
              · have okW := ok_psteps (m := M) (s := rowsL.getD k []) okV j
                have PSS := Lib.hid (psteps_succ M (rowsL.getD k []) (prounds M V0 k) j)
                generalize psteps M (rowsL.getD k []) (prounds M V0 k) j = V at *
                generalize rowsL.getD k [] = S at *
                obtain ⟨A, eA⟩ : ∃ A, A = j % 4 := ⟨_, rfl⟩
                obtain ⟨B, eB⟩ : ∃ B, B = 4 + (j + j / 4) % 4 := ⟨_, rfl⟩
                obtain ⟨C, eC⟩ : ∃ C, C = 8 + (j + 2 * (j / 4)) % 4 := ⟨_, rfl⟩
                obtain ⟨D, eD⟩ : ∃ D, D = 12 + (j + 3 * (j / 4)) % 4 := ⟨_, rfl⟩
                have lA : A < 4 := by omega
                have lB : 4 ≤ B ∧ B < 8 := by omega
                have lC : 8 ≤ C ∧ C < 12 := by omega
                have lD : 12 ≤ D ∧ D < 16 := by omega
                have rA : ((j : Int) % 4) = (A : Int) := by omega
                have rB : 4 + ((j : Int) + (j : Int) / 4) % 4 = (B : Int) := by omega
                have rC : 8 + ((j : Int) + 2 * ((j : Int) / 4)) % 4 = (C : Int) := by omega
                have rD : 12 + ((j : Int) + 3 * ((j : Int) / 4)) % 4 = (D : Int) := by omega
                have PST : Hid (pstep M S V j = gstep V A B C D (M.getD (S.getD (2 * j) 0) 0) (M.getD (S.getD (2 * j + 1) 0) 0)) := Lib.hid (by subst eA eB eC eD; rfl)
                clear eA eB eC eD
                obtain ⟨p0, ep0⟩ : ∃ p, p = 2 * j := ⟨_, rfl⟩
                obtain ⟨p1, ep1⟩ : ∃ p, p = 2 * j + 1 := ⟨_, rfl⟩
                have lp0 : p0 < 16 := by omega
                have lp1 : p1 < 16 := by omega
                have rp0 : IntKind.i64.wrap (2 * (j : Int)) = (p0 : Int) := by rw [IntWalk.i64_in _ (by omega)]; omega
                have rp1 : IntKind.i64.wrap ((p0 : Int) + 1) = (p1 : Int) := by rw [IntWalk.i64_in _ (by omega)]; omega
                replace PST := Lib.hid (show pstep M S V j = gstep V A B C D (M.getD (S.getD p0 0) 0) (M.getD (S.getD p1 0) 0) by rw [ep0, ep1]; exact PST.out)
                clear ep0 ep1
                have hs0 : wy.cell? ⟨Bs, p0, none⟩ = some (.int .i64 (S.getD p0 0 : Nat)) := by rw [cell_heap mj]; exact i64s_get _ _ (by omega)
                have hs1 : wy.cell? ⟨Bs, p1, none⟩ = some (.int .i64 (S.getD p1 0 : Nat)) := by rw [cell_heap mj]; exact i64s_get _ _ (by omega)
                have lq0 := hrt p0 lp0
                have lq1 := hrt p1 lp1
                generalize S.getD p0 0 = q0 at *
                generalize S.getD p1 0 = q1 at *
                have hm0 := psj.c0 q0 (by rw [okM.len]; exact lq0)
                have hm1 := psj.c0 q1 (by rw [okM.len]; exact lq1)
                have lx0 := okM.lt q0
                have lx1 := okM.lt q1
                generalize M.getD q0 0 = x0 at *
                generalize M.getD q1 0 = x1 at *
                have hvA := psj.c1 A (by rw [okW.len]; omega)
                have hvB := psj.c1 B (by rw [okW.len]; omega)
                have hvC := psj.c1 C (by rw [okW.len]; omega)
                have hvD := psj.c1 D (by rw [okW.len]; omega)
                have fA := psj.f1 A
                have fB := psj.f1 B
                have fC := psj.f1 C
                have fD := psj.f1 D
                have GS : Hid (gstep V A B C D x0 x1 = (((V.set A (mix (V.getD A 0) (V.getD B 0) (V.getD C 0) (V.getD D 0) x0 x1).a).set B (mix (V.getD A 0) (V.getD B 0) (V.getD C 0) (V.getD D 0) x0 x1).b).set C (mix (V.getD A 0) (V.getD B 0) (V.getD C 0) (V.getD D 0) x0 x1).c).set D (mix (V.getD A 0) (V.getD B 0) (V.getD C 0) (V.getD D 0) x0 x1).d) := Lib.hid rfl
                have lvA := okW.lt A
                have lvB := okW.lt B
                have lvC := okW.lt C
                have lvD := okW.lt D
                generalize V.getD A 0 = vA at *
                generalize V.getD B 0 = vB at *
                generalize V.getD C 0 = vC at *
                generalize V.getD D 0 = vD at *
                have iA : (A : Int) < 16 := by omega
                have iB : (B : Int) < 16 := by omega
                have iC : (C : Int) < 16 := by omega
                have iD : (D : Int) < 16 := by omega
                have ip0 : (p0 : Int) < 16 := by omega
                have ip1 : (p1 : Int) < 16 := by omega
                have iq0 : (q0 : Int) < 16 := by omega
                have iq1 : (q1 : Int) < 16 := by omega
                have nAB : A ≠ B := by omega
                have nAC : A ≠ C := by omega
                have nAD : A ≠ D := by omega
                have nBC : B ≠ C := by omega
                have nBD : B ≠ D := by omega
                have nCD : C ≠ D := by omega
                go_wp2_with (fail)
                refine wp_region_mix (C := fun w' => ∃ n, w' = wy.drewN n) 35 (by kernel_rfl) (by kernel_rfl) (fun _ _ d _ _ h => by cases d <;> exact h) ⟨1, rfl⟩ ?_
                simp only [List.take_succ_cons, List.take_zero, List.drop_succ_cons, List.drop_zero]
                repeat (quiet_step ((go_at_call 326; exact Calls.quiet_of (mixed_any vA vB vC vD x0 x1 _ lvA lvB lvC lvD lx0 lx1))))
                refine wpQuiet_nil ?_
                rintro _ ⟨n4, rfl⟩
                go_wp2_with (fail)
                go_roundw
                case rel =>
                  refine ⟨j + 1, by omega, by go_num, ?_, ?_⟩
                  · rw [PSS.out, PST.out, GS.out]
                    exact (((((psj.drewN n4).store A _).store B _).store C _).store D _)
                  · rw [heap_set_ne (by omega), heap_set_ne (by omega), heap_set_ne (by omega), heap_set_ne (by omega)]
                    exact mj
                case measure => simp [intOf]; omega
              · obtain rfl : j = 8 := by omega
                go_wp2_with (fail)
                go_roundw
                case rel => exact ⟨k + 1, by omega, by go_num, by rw [KS.out]; exact psj⟩
                case measure => simp [intOf]; omega
          · obtain rfl : k = 10 := by omega
            go_wp2_with (fail)
            go_loopw [152] (fun i wy => ∃ j : Nat, j ≤ 8 ∧ i = .int .i64 j ∧ PS w M B1 b (prounds M V0 10) ((fin H (prounds M V0 10)).take j ++ H.drop j) wy) (fun i _ => 8 - (intOf i).toNat)
            case atStart => exact ⟨0, by omega, rfl, by simpa using psx⟩
            case round =>
              obtain ⟨j, hj, rfl, psj⟩ := hrel
              rename World => wy
              clear psx
              have okW := ok_prounds (m := M) okS 10
              have FP : Hid (press H s.data.toList n last = fin H (prounds M V0 10)) := Lib.hid (by rw [← HM.out, ← HV0.out]; rfl)
              generalize prounds M V0 10 = V at *
              by_cases hlj : j < 8
              · have hv1 := psj.c1 j (by rw [okW.len]; omega)
                have hv2 := psj.c1 (j + 8) (by rw [okW.len]; omega)
                have hh := psj.cb j (by simp [fin, hH.len]; omega)
                have fh := psj.fb j
                have FS := Lib.hid (fin_step hH V j hlj)
                rw [fin_get hH V j hlj] at hh
                have FG := Lib.hid (fin_at H V j hlj)
                have l1 := okW.lt j
                have l2 := okW.lt (j + 8)
                have l3 := hH.lt j
                generalize V.getD j 0 = v1 at *
                generalize V.getD (j + 8) 0 = v2 at *
                generalize H.getD j 0 = h1 at *
                have x1 : bits .xor .u32 (v1 : Int) (v2 : Int) = ((v1 ^^^ v2 : Nat) : Int) := u32_xor_nat _ _ l1 l2
                have x2 : bits .xor .u32 (h1 : Int) ((v1 ^^^ v2 : Nat) : Int) = ((h1 ^^^ (v1 ^^^ v2) : Nat) : Int) := u32_xor_nat _ _ l3 (xor_lt l1 l2)
                obtain ⟨j8, e8⟩ : ∃ j8, j8 = j + 8 := ⟨_, rfl⟩
                rw [← e8] at hv2
                have w8 : IntKind.i64.wrap ((j : Int) + 8) = (j8 : Int) := by rw [IntWalk.i64_in _ (by omega)]; omega
                have ij : (j : Int) < 8 := by omega
                have ij' : (j : Int) < 16 := by omega
                have ij8 : (j8 : Int) < 16 := by omega
                clear e8
                go_wp2_with (fail)
                refine wp_region_mix (C := fun w' => ∃ n, w' = wy.drewN n) 16 (by kernel_rfl) (by kernel_rfl) (fun _ _ d _ _ h => by cases d <;> exact h) ⟨1, rfl⟩ ?_
                simp only [List.take_succ_cons, List.take_zero, List.drop_succ_cons, List.drop_zero]
                repeat (quiet_step (fail))
                refine wpQuiet_nil ?_
                rintro _ ⟨n5, rfl⟩
                go_wp2_with (fail)
                go_roundw
                case rel =>
                  repeat apply Exists.intro
                  refine ⟨?_, rfl⟩
                  refine ⟨j + 1, by omega, by go_num, ?_⟩
                  rw [← FS.out, FG.out]
                  exact (psj.drewN n5).storeb j _
                case measure => simp [intOf]; omega
              · obtain rfl : j = 8 := by omega
                go_wp2_with (fail)
                go_end0
                rw [FP.out]
                have := psj.mb
                rw [List.take_of_length_le (by simp [fin]), List.drop_eq_nil_of_le (by rw [hH.len]; omega), List.append_nil] at this
                exact ⟨rfl, this, psj.below⟩
end Go.Proofs.YtifiipmmgnmciaaGreatDoor
/- BlkSum, what a claim needs of it (prune.py). -/
namespace Go.Proofs.YtifiipmmgnmciaaGreatDoor
open Go.RowKit Blk
set_option linter.unusedVariables false
set_option maxRecDepth 100000
theorem press_int (s : ByteArray) (hs : s.size = 64) (m : Int) (n : Nat) (hm : m = n) (hn : n < 9223372036854775808) (last : Bool) (b : Nat) (H : List Nat) (hH : Ok 8 H) (w : World) (hb : w.heap[b]? = some (.cells (u32s H) 385 (0, 0))) :
    Calls Tryz.prog 288 #[.pointer (some ⟨b, 0, none⟩), .string s, .int .i64 m, .bool last] w fun e w' =>
      e = .returned (.tuple #[]) ∧ w'.heap[b]? = some (.cells (u32s (press H s.data.toList n last)) 385 (0, 0)) ∧ w.grownBy w' (some b) := by
  subst hm; exact press_any s hs n hn last b H hH w hb
theorem repeat_zero (c : Nat) : Lib.repeatL (⟨#[0]⟩ : ByteArray).data.toList c = List.replicate c 0 := by
  induction c with
  | zero => rfl
  | succ c ih => rw [List.replicate_succ, ← ih]; rfl
theorem bytes4_cells (x : Nat) (hx : x < 4294967296) : (#[.int .u8 ((x : Int) % 256), .int .u8 ((x : Int) / 256 % 256), .int .u8 ((x : Int) / 65536 % 256), .int .u8 ((x : Int) / 16777216)] : Array Value) = (Lib.byteCells (bytes4 x)).toArray := by
  have h : ∀ y : Nat, y < 256 → ((UInt8.ofNat y).toNat : Int) = y := fun y hy => by rw [UInt8.toNat_ofNat_of_lt' (by simpa using hy)]
  simp only [bytes4, Lib.byteCells, List.map_cons, List.map_nil]
  rw [h _ (Nat.mod_lt _ (by decide)), h _ (Nat.mod_lt _ (by decide)), h _ (Nat.mod_lt _ (by decide)), h _ (Nat.mod_lt _ (by decide)), Nat.mod_eq_of_lt (show x / 16777216 < 256 by omega)]
  rfl
structure SS (w : World) (bh : Nat) (H : List Nat) (w' : World) : Prop where
  m : w'.heap[bh]? = some (.cells (u32s H) 385 (0, 0))
  lb : w.heap.size ≤ bh
  below : Below w.heap.size w w'
namespace SS
variable {w w' w'' : World} {bh : Nat} {H : List Nat}
theorem drewN (h : SS w bh H w') (n : Nat) : SS w bh H (w'.drewN n) := ⟨h.m, h.lb, belowDN h.below n⟩
theorem later (h : SS w bh H w') (k : Below w'.heap.size w' w'') : SS w bh H w'' := ⟨heap_below k (lt_heap h.m) h.m, h.lb, h.below.trans (k.mono h.below.size)⟩
theorem store (h : SS w bh H w') (i x : Nat) : SS w bh (H.set i x) (w'.setCell ⟨bh, i, none⟩ (.int .u32 x)) := ⟨by rw [heap_set h.m, u32s_set], h.lb, h.below.setCell (p := ⟨bh, i, none⟩) h.lb _⟩
theorem put (h : SS w bh H w') {H' : List Nat} (k : w'.grownBy w'' (some bh)) (m : w''.heap[bh]? = some (.cells (u32s H') 385 (0, 0))) : SS w bh H' w'' :=
  ⟨m, h.lb, h.below.grown k h.below.size (fun j hj => by cases hj; exact h.lb)⟩
theorem c (h : SS w bh H w') (i : Nat) (hi : i < H.length) : w'.cell? ⟨bh, i, none⟩ = some (.int .u32 (H.getD i 0 : Nat)) := by rw [cell_heap h.m]; exact u32s_get _ _ hi
theorem f (h : SS w bh H w') (i : Nat) : w'.frozen? ⟨bh, i, none⟩ = false := frozen_heap h.m i
end SS
set_option maxHeartbeats 2000000 in
set_option maxRecDepth 100000 in
theorem sum_any (s : ByteArray) (hs : s.size ≤ 1000000) (w : World) :
    Calls Tryz.prog 240 #[.string s] w fun e w' => e = .returned (.string ⟨(sum s.data.toList).toArray⟩) ∧ Below w.heap.size w w' := by
  go_enter Tryz.func240, Tryz.ntmps240
  go_upto_region 2 with (first | (go_at_call 287; ((with_reducible refine (constants_any _).mono ?_); rintro e wa ⟨rfl, hba⟩)) | (refine wpList_val 3 rfl rfl (.pointer (some ⟨wa.heap.size, 0, none⟩)) (w' := wa.alloc (.cells (u32s z8) 385)) (by kernel_rfl) ?_) | (refine wpList_store_new rfl 385 (.tmp 3) (.tmp 8) rfl (u32s z8) (u32s consts) (by kernel_rfl) (by kernel_rfl) (by kernel_rfl) (by kernel_rfl) (by kernel_rfl) ?_))
  obtain ⟨wb, ewb⟩ : ∃ wb, wb = wa.alloc (.cells (u32s consts) 385) := ⟨_, rfl⟩
  have ss : SS w wa.heap.size consts wb := by
    refine ⟨?_, hba.size, ?_⟩
    · rw [ewb]; exact heap_alloc_new wa _
    · rw [ewb]; exact hba.alloc hba.size _
  rw [← ewb]
  clear ewb hba
  generalize wa.heap.size = bh at *
  have k0 := ss.c 0 (by decide)
  have f0 := ss.f 0
  have x0 : bits .xor .u32 ((consts.getD 0 0 : Nat) : Int) 16842784 = ((consts.getD 0 0 ^^^ 16842784 : Nat) : Int) := u32_xor_nat _ 16842784 (by decide) (by decide)
  have ss1 := ss.store 0 (consts.getD 0 0 ^^^ 16842784)
  have E0 : Hid (consts.set 0 (consts.getD 0 0 ^^^ 16842784) = h0) := Lib.hid rfl
  rw [E0.out] at ss1
  generalize consts.getD 0 0 = y0 at *
  generalize y0 ^^^ 16842784 = y1 at *
  go_wp2_with (fail)
  go_loopw [4] (fun i wx => ∃ k : Nat, i = .int .i64 (64 * k : Nat) ∧ 64 * k ≤ s.size ∧ (k ≠ 0 → 64 * k < s.size) ∧ SS w bh (hAt s.data.toList k) wx) (fun i _ => s.size - (intOf i).toNat)
  case atStart => exact ⟨0, rfl, by omega, by omega, ss1⟩
  case round =>
    obtain ⟨k, rfl, hk, hk0, ssx⟩ := hrel
    rename World => wx
    clear ss ss1 k0 f0 x0
    have hlen : s.data.toList.length = s.size := (Lib.size_eq s).symm
    by_cases hlt : s.size - 64 * k > 64
    · have okH := ok_hAt s.data.toList k
      have hbl := blockAt_len s.data.toList k (by omega)
      obtain ⟨n, en⟩ : ∃ n, n = 64 * k := ⟨_, rfl⟩
      have HS : Hid (hAt s.data.toList (k + 1) = press (hAt s.data.toList k) (blockAt s.data.toList k) (n + 64) false) := Lib.hid (by rw [hAt, en]; congr 1)
      have EX : Hid ((s.extract n (n + 64)).data.toList = blockAt s.data.toList k) := Lib.hid (by rw [Lib.extract_data, blockAt, en]; congr 1; omega)
      have hex : (s.extract n (n + 64)).size = 64 := by rw [ByteArray.size_extract]; omega
      have n0 : n + 64 < s.size := by omega
      have n1 : (n : Int) + 64 < (s.size : Int) := by omega
      have n2 : (64 : Int) < (s.size : Int) - (n : Int) := by omega
      have n3 : (n : Int) + 64 ≤ (s.size : Int) := by omega
      have n4 : (n : Int) ≤ (n : Int) + 64 := by omega
      have n5 : ((n : Int) + 64).toNat = n + 64 := by omega
      have N6 : Hid ((n : Int) + 64 = ((n + 64 : Nat) : Int)) := Lib.hid (by omega)
      have N7 : n + 64 < 9223372036854775808 := by omega
      have EN := Lib.hid en
      rw [← en]
      clear en hlt hk hk0 hbl
      go_wp2_with (go_at_call 288; ((with_reducible refine (press_int _ hex ((n : Int) + 64) (n + 64) N6.out N7 false bh _ okH _ ssx.m).mono ?_); rintro e wy ⟨rfl, my, gy⟩))
      go_roundw
      case rel =>
        have en := EN.out
        refine ⟨k + 1, ?_, by omega, by omega, ?_⟩
        · congr 1; omega
        · rw [HS.out]
          rw [EX.out] at my
          exact ssx.put gy my
      case measure => simp [intOf]; omega
    · have hk2 : (s.data.toList.length - 1) / 64 = k := by omega
      have okH := ok_hAt s.data.toList k
      have HE : Hid (hEnd s.data.toList = press (hAt s.data.toList k) (lastBlock s.data.toList k) s.size true) := Lib.hid (by rw [hEnd, hk2, hlen])
      obtain ⟨n, en⟩ : ∃ n, n = 64 * k := ⟨_, rfl⟩
      obtain ⟨c, ec⟩ : ∃ c, c = n + 64 - s.size := ⟨_, rfl⟩
      have n1 : (s.size : Int) - (n : Int) ≤ 64 := by omega
      have n2 : ¬ (64 : Int) < (s.size : Int) - (n : Int) := by omega
      have n3 : (n : Int) ≤ (s.size : Int) := by omega
      have r1 : IntKind.i64.wrap (64 - (s.size : Int)) = 64 - (s.size : Int) := IntWalk.i64_in _ (by omega)
      have r2 : IntKind.i64.wrap (64 - (s.size : Int) + (n : Int)) = (c : Int) := by rw [IntWalk.i64_in _ (by omega)]; omega
      have c1 : c ≤ 9223372036854775807 := by omega
      have c2 : (⟨#[0]⟩ : ByteArray).size * c ≤ 140737488355328 := by show 1 * c ≤ _; omega
      obtain ⟨X, eX⟩ : ∃ X, X = s.extract n s.size := ⟨_, rfl⟩
      obtain ⟨Y, eY⟩ : ∃ Y : ByteArray, Y = ⟨(Lib.repeatL (⟨#[0]⟩ : ByteArray).data.toList c).toArray⟩ := ⟨_, rfl⟩
      have EL : Hid ((X ++ Y).data.toList = lastBlock s.data.toList k) := Lib.hid (by
        rw [eX, eY, ByteArray.data_append, Array.toList_append, Lib.extract_to_end, repeat_zero, lastBlock, en, ec, hlen, en])
      have he2 : (X ++ Y).size = 64 := by
        rw [Lib.size_eq, EL.out, lastBlock]; simp; omega
      have hXY : X.size + Y.size ≤ 9223372036854775807 := by rw [ByteArray.size_append] at he2; omega
      have hXY' : ¬ (X.size + Y.size > 9223372036854775807) := by omega
      have rX := eX.symm
      have RP : ∀ W, Calls Tryz.prog 289 #[.string ⟨#[0]⟩, .int .i64 c] W fun e w' => e = .returned (.string Y) ∧ Below W.heap.size W w' := by
        intro W; rw [eY]; exact Tryz.strings_Repeat ⟨#[0]⟩ c W c1 c2
      have HE2 := Lib.hid he2
      clear he2 eX eY
      have S1 : s.size < 9223372036854775808 := by omega
      rw [← en]
      clear en ec hlt hk hk0 hk2
      go_wp2_with (fail)
      refine wp_region_mix (C := fun w' => SS w bh (hAt s.data.toList k) w') 12 (by kernel_rfl) (by kernel_rfl) (fun _ _ d _ _ h => by cases d <;> exact h) (ssx.drewN 1) ?_
      simp only [List.take_succ_cons, List.take_zero, List.drop_succ_cons, List.drop_zero]
      repeat (quiet_step (first | (intro _; rfl) | (intro hss; go_at_call 289; ((with_reducible refine (RP _).mono ?_); rintro e w' ⟨rfl, hb'⟩; exact ⟨rfl, hss.later hb'⟩))))
      refine wpQuiet_nil ?_
      intro wz ssz
      clear ssx
      go_upto_region 9 with (go_at_call 288; ((with_reducible refine (press_any _ HE2.out s.size S1 true bh _ okH _ ssz.m).mono ?_); rintro e wy ⟨rfl, my, gy⟩))
      rw [EL.out, ← HE.out] at my
      have ssy := ssz.put gy my
      have okE := ok_hEnd s.data.toList
      have SUM : Hid (sum s.data.toList = (hEnd s.data.toList).flatMap bytes4) := Lib.hid rfl
      generalize hEnd s.data.toList = H at *
      clear my gy ssz
      have hsz : (Tryz.prog.info? 385).map (·.size) = some (u32s H).size := by rw [u32s_size, okE.len]; kernel_rfl
      have HSZ := Lib.hid hsz
      clear hsz
      go_wp2_with (refine wpList_load_row rfl 385 (.tmp 3) rfl bh rfl 385 _ (0, 0) _ ssy.m Tryz.underlying385 rfl HSZ.out ?_)
      go_loopw [5, 42] (fun v i wx => ∃ j : Nat, j ≤ 8 ∧ i = .int .i64 j ∧ wx.ownsRow w.heap.size 5 1 v (4 * j) (Lib.byteCells ((H.take j).flatMap bytes4)) ∧ Below w.heap.size w wx) (fun _ i _ => 8 - (intOf i).toNat)
      case atStart => exact ⟨0, by omega, rfl, by simpa [Lib.byteCells] using World.ownsRow_nil _ _ _ _, ssy.below⟩
      case round =>
        obtain ⟨j, hj, rfl, hown, hbx⟩ := hrel
        rename World => wx
        by_cases hlj : j < 8
        · have hix : ∀ W, (Instr.index 385 (.agg (u32s H)) (.int .i64 (j : Nat))).run Tryz.prog W = .ok (.int .u32 (H.getD j 0 : Nat)) W := fun W =>
            run_index_arr Tryz.underlying385 (by kernel_rfl) (by kernel_rfl) hlj (u32s_get H j (by rw [okE.len]; exact hlj))
          have FT := Lib.hid (flat_take H j (by rw [okE.len]; exact hlj))
          have lx := okE.lt j
          generalize H.getD j 0 = x at *
          have HC : (#[.int .u8 ((x : Int) % 256), .int .u8 ((x : Int) / 256 % 256), .int .u8 ((x : Int) / 65536 % 256), .int .u8 ((x : Int) / 16777216)] : Array Value) = (Lib.byteCells (bytes4 x)).toArray := bytes4_cells x lx
          have HCH := Lib.hid HC
          have hB := hbx.size
          have n8 : 4 * j + 4 ≤ 140737488355328 := by omega
          clear HC
          go_wp2_with (first | (refine wpList_index 44 385 (.tmp 41) (.tmp 42) rfl rfl rfl (.int .u32 x) (hix _) ?_) | (at_builtin; refine append_bytes rfl (.tmp 45) (.tmp 57) 215 rfl w.heap.size 5 Tryz.underlying215 (by kernel_rfl) _ (4 * j) _ rfl hown _ (bytes4 x) HCH.out 4 rfl rfl n8 hB hbx ?_; intro v' w1 hown1 hb1 _))
          go_roundw
          case rel => exact ⟨j + 1, by omega, by go_num, by rw [FT.out]; exact hown1, hb1⟩
          case measure => simp [intOf]; omega
        · obtain rfl : j = 8 := by omega
          have hcv := conv_own (P := Tryz.prog) (src := 215) (dst := 9) Tryz.underlying215 Tryz.underlying5 Tryz.underlying9 hown
          rw [List.take_of_length_le (by rw [okE.len]; omega), ← SUM.out] at hcv
          clear hown
          go_wp2_with (fail)
          go_ret
          exact ⟨rfl, hbx⟩
end Go.Proofs.YtifiipmmgnmciaaGreatDoor
