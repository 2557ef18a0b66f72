/- Joined by mkmerged.py: RefPress. -/
import Derived.Test.YtlndnpfjneeeeaaGreatDoorMh06
import Derived.Test.YtlndnpfjneeeeaaGreatDoorMhKt
/- RefPress, what a claim needs of it (prune.py). -/
namespace Go.Proofs.YtlndnpfjneeeeaaGreatDoor
open Go.RowKit Blk
set_option linter.unusedVariables false
set_option maxRecDepth 100000
theorem mix0 (g cap : Nat) (V : List Nat) (T : List Value) (hV : Ok 16 V) (x y : Nat) (hx : x < 4294967296) (hy : y < 4294967296) (w : World) (hg : w.heap[g]? = some (.cells (rowI V T) 3 (0, 0))) :
    Calls Tryz.prog 232 #[.slice (some ⟨g, 0, none⟩) 16 cap, .int .i64 0, .int .i64 4, .int .i64 8, .int .i64 12, .int .i64 x, .int .i64 y] w fun e w' =>
      e = .returned (.tuple #[]) ∧ w'.heap[g]? = some (.cells (rowI (gstep V 0 4 8 12 x y) T) 3 (0, 0)) ∧ w.grownBy w' (some g) :=
  mix_any g cap V T hV 0 4 8 12 x y (by decide) (by decide) (by decide) (by decide) (by decide) (by decide) (by decide) (by decide) (by decide) (by decide) hx hy w hg
theorem mix1 (g cap : Nat) (V : List Nat) (T : List Value) (hV : Ok 16 V) (x y : Nat) (hx : x < 4294967296) (hy : y < 4294967296) (w : World) (hg : w.heap[g]? = some (.cells (rowI V T) 3 (0, 0))) :
    Calls Tryz.prog 232 #[.slice (some ⟨g, 0, none⟩) 16 cap, .int .i64 1, .int .i64 5, .int .i64 9, .int .i64 13, .int .i64 x, .int .i64 y] w fun e w' =>
      e = .returned (.tuple #[]) ∧ w'.heap[g]? = some (.cells (rowI (gstep V 1 5 9 13 x y) T) 3 (0, 0)) ∧ w.grownBy w' (some g) :=
  mix_any g cap V T hV 1 5 9 13 x y (by decide) (by decide) (by decide) (by decide) (by decide) (by decide) (by decide) (by decide) (by decide) (by decide) hx hy w hg
theorem mix2 (g cap : Nat) (V : List Nat) (T : List Value) (hV : Ok 16 V) (x y : Nat) (hx : x < 4294967296) (hy : y < 4294967296) (w : World) (hg : w.heap[g]? = some (.cells (rowI V T) 3 (0, 0))) :
    Calls Tryz.prog 232 #[.slice (some ⟨g, 0, none⟩) 16 cap, .int .i64 2, .int .i64 6, .int .i64 10, .int .i64 14, .int .i64 x, .int .i64 y] w fun e w' =>
      e = .returned (.tuple #[]) ∧ w'.heap[g]? = some (.cells (rowI (gstep V 2 6 10 14 x y) T) 3 (0, 0)) ∧ w.grownBy w' (some g) :=
  mix_any g cap V T hV 2 6 10 14 x y (by decide) (by decide) (by decide) (by decide) (by decide) (by decide) (by decide) (by decide) (by decide) (by decide) hx hy w hg
theorem mix3 (g cap : Nat) (V : List Nat) (T : List Value) (hV : Ok 16 V) (x y : Nat) (hx : x < 4294967296) (hy : y < 4294967296) (w : World) (hg : w.heap[g]? = some (.cells (rowI V T) 3 (0, 0))) :
    Calls Tryz.prog 232 #[.slice (some ⟨g, 0, none⟩) 16 cap, .int .i64 3, .int .i64 7, .int .i64 11, .int .i64 15, .int .i64 x, .int .i64 y] w fun e w' =>
      e = .returned (.tuple #[]) ∧ w'.heap[g]? = some (.cells (rowI (gstep V 3 7 11 15 x y) T) 3 (0, 0)) ∧ w.grownBy w' (some g) :=
  mix_any g cap V T hV 3 7 11 15 x y (by decide) (by decide) (by decide) (by decide) (by decide) (by decide) (by decide) (by decide) (by decide) (by decide) hx hy w hg
theorem mix4 (g cap : Nat) (V : List Nat) (T : List Value) (hV : Ok 16 V) (x y : Nat) (hx : x < 4294967296) (hy : y < 4294967296) (w : World) (hg : w.heap[g]? = some (.cells (rowI V T) 3 (0, 0))) :
    Calls Tryz.prog 232 #[.slice (some ⟨g, 0, none⟩) 16 cap, .int .i64 0, .int .i64 5, .int .i64 10, .int .i64 15, .int .i64 x, .int .i64 y] w fun e w' =>
      e = .returned (.tuple #[]) ∧ w'.heap[g]? = some (.cells (rowI (gstep V 0 5 10 15 x y) T) 3 (0, 0)) ∧ w.grownBy w' (some g) :=
  mix_any g cap V T hV 0 5 10 15 x y (by decide) (by decide) (by decide) (by decide) (by decide) (by decide) (by decide) (by decide) (by decide) (by decide) hx hy w hg
theorem mix5 (g cap : Nat) (V : List Nat) (T : List Value) (hV : Ok 16 V) (x y : Nat) (hx : x < 4294967296) (hy : y < 4294967296) (w : World) (hg : w.heap[g]? = some (.cells (rowI V T) 3 (0, 0))) :
    Calls Tryz.prog 232 #[.slice (some ⟨g, 0, none⟩) 16 cap, .int .i64 1, .int .i64 6, .int .i64 11, .int .i64 12, .int .i64 x, .int .i64 y] w fun e w' =>
      e = .returned (.tuple #[]) ∧ w'.heap[g]? = some (.cells (rowI (gstep V 1 6 11 12 x y) T) 3 (0, 0)) ∧ w.grownBy w' (some g) :=
  mix_any g cap V T hV 1 6 11 12 x y (by decide) (by decide) (by decide) (by decide) (by decide) (by decide) (by decide) (by decide) (by decide) (by decide) hx hy w hg
theorem mix6 (g cap : Nat) (V : List Nat) (T : List Value) (hV : Ok 16 V) (x y : Nat) (hx : x < 4294967296) (hy : y < 4294967296) (w : World) (hg : w.heap[g]? = some (.cells (rowI V T) 3 (0, 0))) :
    Calls Tryz.prog 232 #[.slice (some ⟨g, 0, none⟩) 16 cap, .int .i64 2, .int .i64 7, .int .i64 8, .int .i64 13, .int .i64 x, .int .i64 y] w fun e w' =>
      e = .returned (.tuple #[]) ∧ w'.heap[g]? = some (.cells (rowI (gstep V 2 7 8 13 x y) T) 3 (0, 0)) ∧ w.grownBy w' (some g) :=
  mix_any g cap V T hV 2 7 8 13 x y (by decide) (by decide) (by decide) (by decide) (by decide) (by decide) (by decide) (by decide) (by decide) (by decide) hx hy w hg
theorem mix7 (g cap : Nat) (V : List Nat) (T : List Value) (hV : Ok 16 V) (x y : Nat) (hx : x < 4294967296) (hy : y < 4294967296) (w : World) (hg : w.heap[g]? = some (.cells (rowI V T) 3 (0, 0))) :
    Calls Tryz.prog 232 #[.slice (some ⟨g, 0, none⟩) 16 cap, .int .i64 3, .int .i64 4, .int .i64 9, .int .i64 14, .int .i64 x, .int .i64 y] w fun e w' =>
      e = .returned (.tuple #[]) ∧ w'.heap[g]? = some (.cells (rowI (gstep V 3 4 9 14 x y) T) 3 (0, 0)) ∧ w.grownBy w' (some g) :=
  mix_any g cap V T hV 3 4 9 14 x y (by decide) (by decide) (by decide) (by decide) (by decide) (by decide) (by decide) (by decide) (by decide) (by decide) hx hy w hg
theorem round_ref (m s v : List Nat) : psteps m s v 8 = (gstep (gstep (gstep (gstep (gstep (gstep (gstep (gstep v 0 4 8 12 (m.getD (s.getD 0 0) 0) (m.getD (s.getD 1 0) 0)) 1 5 9 13 (m.getD (s.getD 2 0) 0) (m.getD (s.getD 3 0) 0)) 2 6 10 14 (m.getD (s.getD 4 0) 0) (m.getD (s.getD 5 0) 0)) 3 7 11 15 (m.getD (s.getD 6 0) 0) (m.getD (s.getD 7 0) 0)) 0 5 10 15 (m.getD (s.getD 8 0) 0) (m.getD (s.getD 9 0) 0)) 1 6 11 12 (m.getD (s.getD 10 0) 0) (m.getD (s.getD 11 0) 0)) 2 7 8 13 (m.getD (s.getD 12 0) 0) (m.getD (s.getD 13 0) 0)) 3 4 9 14 (m.getD (s.getD 14 0) 0) (m.getD (s.getD 15 0) 0)) := by
  rw [psteps_succ m s v 7, psteps_succ m s v 6, psteps_succ m s v 5, psteps_succ m s v 4, psteps_succ m s v 3, psteps_succ m s v 2, psteps_succ m s v 1, psteps_succ m s v 0, psteps_zero]
  rfl
theorem ints_one (l : List Nat) : ∀ u ∈ l.map (fun n : Nat => Value.int .i64 n), u.oneCell' = true := by
  intro u hu; simp at hu; obtain ⟨n, _, rfl⟩ := hu; rfl
theorem row_prefix (l : List Nat) (T : List Value) (j : Nat) (u : Value) (h : (l.map (fun n : Nat => Value.int .i64 n))[j]? = some u) : (rowI l T)[j]? = some u := by
  have hj := (List.getElem?_eq_some_iff.1 h).1
  simp only [rowI, List.getElem?_toArray]
  rw [List.getElem?_append_left hj, h]
theorem infoI : (Tryz.prog.info? 3).map (fun i => (i.zero, i.size, i.bytes)) = some (some (.int .i64 0), 1, 8) := by kernel_rfl
structure RS (w : World) (M : List Nat) (Tm : List Value) (gm : Nat) (V : List Nat) (Tv : List Value) (gv : Nat) (H : List Nat) (Th : List Value) (gh : Nat) (w' : World) : Prop where
  m : w'.heap[gm]? = some (.cells (rowI M Tm) 3 (0, 0))
  v : w'.heap[gv]? = some (.cells (rowI V Tv) 3 (0, 0))
  h : w'.heap[gh]? = some (.cells (rowI H Th) 3 (0, 0))
  lh : gh < w.heap.size
  lm : w.heap.size ≤ gm
  lv : gm < gv
  grown : w.grownBy w' (some gh)
namespace RS
variable {w w' w'' : World} {M : List Nat} {Tm : List Value} {gm : Nat} {V : List Nat} {Tv : List Value} {gv : Nat} {H : List Nat} {Th : List Value} {gh : Nat}
theorem drewN (r : RS w M Tm gm V Tv gv H Th gh w') (n : Nat) : RS w M Tm gm V Tv gv H Th gh (w'.drewN n) := ⟨r.m, r.v, r.h, r.lh, r.lm, r.lv, grown_drewN r.grown n⟩
theorem later (r : RS w M Tm gm V Tv gv H Th gh w') (k : Below w'.heap.size w' w'') : RS w M Tm gm V Tv gv H Th gh w'' :=
  ⟨heap_below k (lt_heap r.m) r.m, heap_below k (lt_heap r.v) r.v, heap_below k (lt_heap r.h) r.h, r.lh, r.lm, r.lv, grown_trans r.grown (grown_of_below k _)⟩
theorem put (r : RS w M Tm gm V Tv gv H Th gh w') {V' : List Nat} (k : w'.grownBy w'' (some gv)) (hv : w''.heap[gv]? = some (.cells (rowI V' Tv) 3 (0, 0))) : RS w M Tm gm V' Tv gv H Th gh w'' :=
  have h1 := r.lh
  have h2 := r.lm
  have h3 := r.lv
  ⟨(k.block gm (lt_heap r.m) (fun e => by cases e; omega)).trans r.m, hv, (k.block gh (lt_heap r.h) (fun e => by cases e; omega)).trans r.h, h1, h2, h3,
    ⟨k.os.trans r.grown.os, k.tape.trans r.grown.tape, k.output.trans r.grown.output, Nat.le_trans r.grown.size k.size, fun b hb hr => (k.block b (Nat.lt_of_lt_of_le hb r.grown.size) (fun e => by cases e; omega)).trans (r.grown.block b hb hr)⟩⟩
theorem store (r : RS w M Tm gm V Tv gv H Th gh w') (i x : Nat) (hi : i < V.length) : RS w M Tm gm (V.set i x) Tv gv H Th gh (w'.setCell ⟨gv, i, none⟩ (.int .i64 x)) :=
  r.put ⟨rfl, rfl, rfl, by simp [World.setCell], fun k hk hr => heap_set_ne (fun e => hr (by rw [e]))⟩ (by rw [heap_set r.v, rowI_set _ _ _ _ hi])
theorem storeh (r : RS w M Tm gm V Tv gv H Th gh w') (i x : Nat) (hi : i < H.length) : RS w M Tm gm V Tv gv (H.set i x) Th gh (w'.setCell ⟨gh, i, none⟩ (.int .i64 x)) :=
  have h1 := r.lh
  have h2 := r.lm
  have h3 := r.lv
  ⟨(heap_set_ne (by omega)).trans r.m, (heap_set_ne (by omega)).trans r.v, by rw [heap_set r.h, rowI_set _ _ _ _ hi], h1, h2, h3, grown_set r.grown (.inr rfl) _ _⟩
theorem cm (r : RS w M Tm gm V Tv gv H Th gh w') (i : Nat) (hi : i < M.length) : w'.cell? ⟨gm, i, none⟩ = some (.int .i64 (M.getD i 0 : Nat)) := by rw [cell_heap r.m]; exact rowI_get _ _ _ hi
theorem cv (r : RS w M Tm gm V Tv gv H Th gh w') (i : Nat) (hi : i < V.length) : w'.cell? ⟨gv, i, none⟩ = some (.int .i64 (V.getD i 0 : Nat)) := by rw [cell_heap r.v]; exact rowI_get _ _ _ hi
theorem ch (r : RS w M Tm gm V Tv gv H Th gh w') (i : Nat) (hi : i < H.length) : w'.cell? ⟨gh, i, none⟩ = some (.int .i64 (H.getD i 0 : Nat)) := by rw [cell_heap r.h]; exact rowI_get _ _ _ hi
theorem fv (r : RS w M Tm gm V Tv gv H Th gh w') (i : Nat) : w'.frozen? ⟨gv, i, none⟩ = false := frozen_heap r.v i
theorem fh (r : RS w M Tm gm V Tv gv H Th gh w') (i : Nat) : w'.frozen? ⟨gh, i, none⟩ = false := frozen_heap r.h i
end RS
theorem RowsAt.keep {B g : Nat} {w w' : World} (r : RowsAt B g w) {row : Nat} (hr : row < B) (k : w.grownBy w' (some row)) : RowsAt B g w' := by
  obtain ⟨h0, cs, h1, h2⟩ := r
  refine ⟨h0, cs, (k.block g (lt_heap h1) (fun e => by cases e; omega)).trans h1, fun i hi => ?_⟩
  obtain ⟨gk, a1, a2, a3⟩ := h2 i hi
  exact ⟨gk, a1, a2, (k.block gk (lt_heap a3) (fun e => by cases e; omega)).trans a3⟩
theorem RowsAt.drewN {B g : Nat} {w : World} (r : RowsAt B g w) (n : Nat) : RowsAt B g (w.drewN n) := r
set_option maxHeartbeats 4000000 in
set_option maxRecDepth 100000 in
theorem refpress_any (s : ByteArray) (hs : s.size = 64) (n : Int) (nn : Nat) (hnn : n = nn) (hn : nn < 9223372036854775808) (last : Bool) (gh ch : Nat) (H : List Nat) (Th : List Value) (hH : Ok 8 H) (w : World) (hg : w.heap[gh]? = some (.cells (rowI H Th) 3 (0, 0))) :
    Calls Tryz.prog 166 #[.slice (some ⟨gh, 0, none⟩) 8 ch, .string s, .int .i64 n, .bool last] w fun e w' =>
      e = .returned (.tuple #[]) ∧ w'.heap[gh]? = some (.cells (rowI (press H s.data.toList nn last) Th) 3 (0, 0)) ∧ w.grownBy w' (some gh) := by
  subst hnn
  have lgh := lt_heap hg
  go_enter Tryz.func166, Tryz.ntmps166
  go_wp2_with fail
  go_loopw [8, 9] (fun v i wx => ∃ k : Nat, k ≤ 16 ∧ i = .int .i64 k ∧ wx.ownsRow w.heap.size 3 1 v k (((words s.data.toList).take k).map (fun n : Nat => Value.int .i64 n)) ∧ Below w.heap.size w wx) (fun _ i _ => 16 - (intOf i).toNat)
  case atStart => exact ⟨0, by omega, rfl, World.ownsRow_nil _ _ _ _, Below.refl _ _⟩
  case round =>
    obtain ⟨k, hk, rfl, hown, hbx⟩ := hrel
    rename World => wx
    by_cases hlt : k < 16
    · have hB := hbx.size
      have WT := Lib.hid (words_getD s.data.toList k hlt)
      have WL : (words s.data.toList).length = 16 := by simp [words]
      have TS := Lib.hid (List.take_succ_eq_append_getElem (l := words s.data.toList) (i := k) (by omega))
      have h0 : 4 * (k : Int) < 64 := by omega
      have h1 : 4 * (k : Int) + 1 < 64 := by omega
      have h2 : 4 * (k : Int) + 2 < 64 := by omega
      have h3 : 4 * (k : Int) + 3 < 64 := by omega
      have g0 : 0 ≤ 4 * (k : Int) := by omega
      have g1 : 0 ≤ 4 * (k : Int) + 1 := by omega
      have g2 : 0 ≤ 4 * (k : Int) + 2 := by omega
      have g3 : 0 ≤ 4 * (k : Int) + 3 := by omega
      have t0 : (4 * (k : Int)).toNat = 4 * k := by omega
      have t1 : (4 * (k : Int) + 1).toNat = 4 * k + 1 := by omega
      have t2 : (4 * (k : Int) + 2).toNat = 4 * k + 2 := by omega
      have t3 : (4 * (k : Int) + 3).toNat = 4 * k + 3 := by omega
      have v0 : IntKind.i64.wrap (4 * (k : Int)) = 4 * (k : Int) := IntWalk.i64_in _ (by omega)
      have v1 : IntKind.i64.wrap (4 * (k : Int) + 1) = 4 * (k : Int) + 1 := IntWalk.i64_in _ (by omega)
      have v2 : IntKind.i64.wrap (4 * (k : Int) + 2) = 4 * (k : Int) + 2 := IntWalk.i64_in _ (by omega)
      have v3 : IntKind.i64.wrap (4 * (k : Int) + 3) = 4 * (k : Int) + 3 := IntWalk.i64_in _ (by omega)
      obtain ⟨b0, eb0⟩ : ∃ b, b = bt s.data.toList (4 * k) := ⟨_, rfl⟩
      obtain ⟨b1, eb1⟩ : ∃ b, b = bt s.data.toList (4 * k + 1) := ⟨_, rfl⟩
      obtain ⟨b2, eb2⟩ : ∃ b, b = bt s.data.toList (4 * k + 2) := ⟨_, rfl⟩
      obtain ⟨b3, eb3⟩ : ∃ b, b = bt s.data.toList (4 * k + 3) := ⟨_, rfl⟩
      have z0 : ((s[4 * k]'(by omega)).toNat : Int) = (b0 : Int) := by rw [eb0, bt_get s _ (by omega)]
      have z1 : ((s[4 * k + 1]'(by omega)).toNat : Int) = (b1 : Int) := by rw [eb1, bt_get s _ (by omega)]
      have z2 : ((s[4 * k + 2]'(by omega)).toNat : Int) = (b2 : Int) := by rw [eb2, bt_get s _ (by omega)]
      have z3 : ((s[4 * k + 3]'(by omega)).toNat : Int) = (b3 : Int) := by rw [eb3, bt_get s _ (by omega)]
      have l0 : b0 < 256 := by rw [eb0]; exact bt_lt _ _
      have l1 : b1 < 256 := by rw [eb1]; exact bt_lt _ _
      have l2 : b2 < 256 := by rw [eb2]; exact bt_lt _ _
      have l3 : b3 < 256 := by rw [eb3]; exact bt_lt _ _
      have WD : Hid (wd s.data.toList k = b0 + 256 * b1 + 65536 * b2 + 16777216 * b3) := Lib.hid (by rw [eb0, eb1, eb2, eb3]; rfl)
      clear eb0 eb1 eb2 eb3
      obtain ⟨B1, eB1⟩ : ∃ b, b = 256 * b1 := ⟨_, rfl⟩
      obtain ⟨B2, eB2⟩ : ∃ b, b = 65536 * b2 := ⟨_, rfl⟩
      obtain ⟨B3, eB3⟩ : ∃ b, b = 16777216 * b3 := ⟨_, rfl⟩
      obtain ⟨A1, eA1⟩ : ∃ b, b = b0 + B1 := ⟨_, rfl⟩
      obtain ⟨A2, eA2⟩ : ∃ b, b = A1 + B2 := ⟨_, rfl⟩
      obtain ⟨A3, eA3⟩ : ∃ b, b = A2 + B3 := ⟨_, rfl⟩
      have y0 : IntKind.i64.wrap (b0 : Int) = (b0 : Int) := IntWalk.i64_in _ (by omega)
      have y1 : IntKind.i64.wrap (b1 : Int) = (b1 : Int) := IntWalk.i64_in _ (by omega)
      have y2 : IntKind.i64.wrap (b2 : Int) = (b2 : Int) := IntWalk.i64_in _ (by omega)
      have y3 : IntKind.i64.wrap (b3 : Int) = (b3 : Int) := IntWalk.i64_in _ (by omega)
      have x1 : IntKind.i64.wrap (256 * (b1 : Int)) = (B1 : Int) := by rw [IntWalk.i64_in _ (by omega)]; omega
      have x2 : IntKind.i64.wrap (65536 * (b2 : Int)) = (B2 : Int) := by rw [IntWalk.i64_in _ (by omega)]; omega
      have x3 : IntKind.i64.wrap (16777216 * (b3 : Int)) = (B3 : Int) := by rw [IntWalk.i64_in _ (by omega)]; omega
      have w1 : IntKind.i64.wrap ((b0 : Int) + (B1 : Int)) = (A1 : Int) := by rw [IntWalk.i64_in _ (by omega)]; omega
      have w2 : IntKind.i64.wrap ((A1 : Int) + (B2 : Int)) = (A2 : Int) := by rw [IntWalk.i64_in _ (by omega)]; omega
      have w3 : IntKind.i64.wrap ((A2 : Int) + (B3 : Int)) = (A3 : Int) := by rw [IntWalk.i64_in _ (by omega)]; omega
      have WA : Hid (wd s.data.toList k = A3) := Lib.hid (by rw [WD.out]; omega)
      clear eB1 eB2 eB3 eA1 eA2 eA3 WD
      go_wp2_with fail
      refine wp_region_mix (C := fun w' => ∃ n, w' = wx.drewN n) 30 (by kernel_rfl) (by kernel_rfl) (fun _ _ d _ _ h => by cases d <;> exact h) ⟨1, rfl⟩ ?_
      simp only [List.take_succ_cons, List.take_zero, List.drop_succ_cons, List.drop_zero]
      repeat (quiet_step (fail))
      refine wpQuiet_nil ?_
      rintro _ ⟨n1, rfl⟩
      go_wp2_with (at_builtin; refine append_from rfl (.tmp 19) (.tmp 49) 62 rfl w.heap.size 3 (.int .i64 0) 8 Tryz.underlying62 infoI rfl _ k _ rfl ((ownsDN hown n1).alloc _) _ 1 1 rfl _ _ _ (heap_alloc_new _ _) [.int .i64 A3] (by intro j u hu; simpa using hu) rfl (by intro u hu; simp at hu; subst hu; rfl) (by omega) (by decide) (by simp; omega) ((belowDN hbx n1).alloc hB _) ?_; intro v' w1' hown1 hb1 _)
      go_roundw
      case rel => exact ⟨k + 1, by omega, by go_num, by rw [TS.out, List.map_append, show (words s.data.toList)[k] = A3 from (by have := WT.out; rw [WA.out, List.getD_eq_getElem?_getD, List.getElem?_eq_getElem (by omega)] at this; exact this)]; exact hown1, hb1⟩
      case measure => simp [intOf]; omega
    · obtain rfl : k = 16 := by omega
      rw [List.take_of_length_le (by simp [words])] at hown
      obtain ⟨gm, cm, Tm, rfl, lgm, hm⟩ := own_block (n := 16) (by decide) hown
      rw [← rowI.eq_def] at hm
      have hgx : wx.heap[gh]? = some (.cells (rowI H Th) 3 (0, 0)) := heap_below hbx lgh hg
      have okM := ok_words s.data.toList
      have okH2 := okM.len
      generalize hMM : words s.data.toList = M at *
      have HM := Lib.hid hMM
      clear hMM hown
      have hHl := hH.len
      go_upto_region 8 with (first | (at_builtin; refine append_from rfl (.tmp 51) (.tmp 52) 62 rfl wx.heap.size 3 (.int .i64 0) 8 Tryz.underlying62 infoI rfl (.slice none 0 0) 0 [] rfl (World.ownsRow_nil _ _ _ _) gh 8 ch rfl (rowI H Th) 3 (0, 0) hgx (H.map (fun n : Nat => Value.int .i64 n)) (fun j u hu => row_prefix H Th j u hu) (by simp [hHl]) (ints_one H) (by decide) (by decide) (Nat.le_refl _) (Below.refl _ _) ?_; intro v2 w2 hown2 hb2 ho2; rw [Nat.zero_add, List.nil_append] at hown2) | (go_at_call 165; ((with_reducible refine (refconst_any _).mono ?_); rintro e w3 ⟨rfl, rfl⟩)) | (at_builtin; refine append_from rfl (.tmp 54) (.tmp 55) 62 rfl wx.heap.size 3 (.int .i64 0) 8 Tryz.underlying62 infoI rfl v2 8 _ rfl (hown2.alloc _) w2.heap.size 8 8 rfl (i64n consts) 3 (0, 0) (heap_alloc_new _ _) (consts.map (fun n : Nat => Value.int .i64 n)) (fun j u hu => row_prefix consts [] j u hu) (by decide) (ints_one consts) (by decide) (by decide) (by have := hb2.size; simp; omega) (hb2.alloc hb2.size _) ?_; intro v4 w4 hown4 hb4 ho4))
      obtain ⟨gv, cv, Tv, rfl, lgv, hv⟩ := own_block (n := 16) (by decide) hown4
      rw [← List.map_append, ← rowI.eq_def] at hv
      have rs : RS w M Tm gm (H ++ consts) Tv gv H Th gh w4 := ⟨heap_below hb4 (lt_heap hm) hm, hv, heap_below hb4 (lt_heap hgx) hgx, lgh, lgm, Nat.lt_of_lt_of_le (lt_heap hm) lgv, grown_of_below (hbx.trans (hb4.mono hbx.size)) _⟩
      clear hown2 hown4 hb2 hb4 ho2 ho4 hm hgx hv hbx
      have okV : Ok 16 (H ++ consts) := ok_start hH
      have hl16 := okV.len
      generalize hV : H ++ consts = V at *
      obtain ⟨x12, e12⟩ : ∃ x, x = V.getD 12 0 := ⟨_, rfl⟩
      obtain ⟨x13, e13⟩ : ∃ x, x = V.getD 13 0 := ⟨_, rfl⟩
      obtain ⟨x14, e14⟩ : ∃ x, x = V.getD 14 0 := ⟨_, rfl⟩
      have y12 : x12 < 4294967296 := by rw [e12]; exact okV.lt 12
      have y13 : x13 < 4294967296 := by rw [e13]; exact okV.lt 13
      have y14 : x14 < 4294967296 := by rw [e14]; exact okV.lt 14
      have k12 := rs.cv 12 (by omega)
      have k13 := rs.cv 13 (by omega)
      have k14 := rs.cv 14 (by omega)
      rw [← e12] at k12
      rw [← e13] at k13
      rw [← e14] at k14
      have g12 := rs.fv 12
      have g13 := rs.fv 13
      have g14 := rs.fv 14
      have z12 : bits .xor .i64 (x12 : Int) ((nn : Int) % 4294967296) = ((x12 ^^^ nn % 4294967296 : Nat) : Int) := by
        have := i64_xor x12 (nn % 4294967296) y12 (by omega)
        rw [← this]; simp
      have z13 : bits .xor .i64 (x13 : Int) ((nn : Int) / 4294967296 % 4294967296) = ((x13 ^^^ nn / 4294967296 % 4294967296 : Nat) : Int) := by
        have := i64_xor x13 (nn / 4294967296 % 4294967296) y13 (by omega)
        rw [← this]; simp
      have z14 : bits .xor .i64 (x14 : Int) 4294967295 = ((x14 ^^^ 4294967295 : Nat) : Int) := i64_xor x14 4294967295 y14 (by decide)
      have R2 := Lib.hid ((rs.store 12 (x12 ^^^ nn % 4294967296) (by omega)).store 13 (x13 ^^^ nn / 4294967296 % 4294967296) (by simp; omega))
      have R3 := Lib.hid (R2.out.store 14 (x14 ^^^ 4294967295) (by simp; omega))
      have SF := Lib.hid (bstart_false H nn)
      have ST := Lib.hid (bstart_true H nn)
      have E12 := Lib.hid e12
      have E13 := Lib.hid e13
      have E14 := Lib.hid e14
      have HV := Lib.hid hV
      have okS : Ok 16 (Blk.start H nn last) := ok_begin hH nn last
      clear e12 e13 e14 hV hl16
      go_upto_if 74 with (fail)
      go_cut [] from 75 to 81 (fun wy => RS w M Tm gm (Blk.start H nn last) Tv gv H Th gh wy)
      case first =>
        cases last
        · go_wp2_with (fail)
          go_meet
          rw [SF.out, HV.out, ← E12.out, ← E13.out]
          exact R2.out
        · go_wp2_with (fail)
          go_meet
          rw [ST.out, HV.out, ← E12.out, ← E13.out, ← E14.out]
          exact R3.out
      case rest =>
        rename World => wcut
        clear E12 E13 E14 HV rs k12 k13 k14 g12 g13 g14 y12 y13 y14 okV z12 z13 z14 R2 R3 SF ST
        generalize hV0 : Blk.start H nn last = V0 at *
        have HV0 := Lib.hid hV0
        clear hV0
        go_wp2_with (go_at_call 231; ((with_reducible refine (refrows_any _).mono ?_); rintro e wr ⟨gr, rfl, hrows, hbr⟩))
        have rs0 := hcut.later hbr
        have lgv2 := lt_heap hcut.v
        clear hcut hbr
        obtain ⟨Br, eBr⟩ : ∃ B, B = wcut.heap.size := ⟨_, rfl⟩
        rw [← eBr] at hrows lgv2
        clear eBr
        go_loopw [12] (fun i wy => ∃ k : Nat, k ≤ 10 ∧ i = .int .i64 k ∧ RS w M Tm gm (prounds M V0 k) Tv gv H Th gh wy ∧ RowsAt Br gr wy) (fun i _ => 10 - (intOf i).toNat)
        case atStart => exact ⟨0, by omega, rfl, by rw [prounds_zero]; exact rs0, hrows⟩
        case round =>
          obtain ⟨k, hk, rfl, q0, hr0⟩ := hrel
          rename World => u0
          clear rs0 hrows
          have okV0 := ok_prounds (m := M) okS k
          by_cases hlt : k < 10
          · have KS := Lib.hid (prounds_succ M V0 k)
            have RR := Lib.hid (round_ref M (rowsL.getD k []) (prounds M V0 k))
            have hrl := rows_len k hlt
            have hrt := rows_lt k hlt
            obtain ⟨lBg, cs, hcs, hrow⟩ := id hr0
            obtain ⟨gk, lgk, hck, mk0⟩ := hrow k hlt
            have kc : u0.cell? ⟨gr, k, none⟩ = some (.slice (some ⟨gk, 0, none⟩) 16 16) := (cell_heap hcs k).trans hck
            have ik : (k : Int) < 10 := by omega
            clear hrow hcs hck
            generalize prounds M V0 k = Y0 at *
            generalize rowsL.getD k [] = S at *
            go_wp2_with (fail)
            clear kc
            have s0 : u0.cell? ⟨gk, 0, none⟩ = some (.int .i64 (S.getD 0 0 : Nat)) := by rw [cell_heap mk0]; exact rowI_get _ _ _ (by omega)
            have t0 : u0.cell? ⟨gk, 1, none⟩ = some (.int .i64 (S.getD 1 0 : Nat)) := by rw [cell_heap mk0]; exact rowI_get _ _ _ (by omega)
            obtain ⟨p0, ep0⟩ : ∃ p, p = S.getD 0 0 := ⟨_, rfl⟩
            obtain ⟨r0, er0⟩ : ∃ p, p = S.getD 1 0 := ⟨_, rfl⟩
            have lp0 : p0 < 16 := by rw [ep0]; exact hrt 0 (by decide)
            have lr0 : r0 < 16 := by rw [er0]; exact hrt 1 (by decide)
            rw [← ep0] at s0
            rw [← er0] at t0
            have ip0 : (p0 : Int) < 16 := by omega
            have ir0 : (r0 : Int) < 16 := by omega
            have c0 := q0.cm p0 (by rw [okM.len]; exact lp0)
            have d0 := q0.cm r0 (by rw [okM.len]; exact lr0)
            obtain ⟨x0, ex0⟩ : ∃ p, p = M.getD p0 0 := ⟨_, rfl⟩
            obtain ⟨y0, ey0⟩ : ∃ p, p = M.getD r0 0 := ⟨_, rfl⟩
            have lx0 : x0 < 4294967296 := by rw [ex0]; exact okM.lt _
            have ly0 : y0 < 4294967296 := by rw [ey0]; exact okM.lt _
            rw [← ex0] at c0
            rw [← ey0] at d0
            have EX0 := Lib.hid (show M.getD (S.getD 0 0) 0 = x0 by rw [ex0, ep0])
            have EY0 := Lib.hid (show M.getD (S.getD 1 0) 0 = y0 by rw [ey0, er0])
            clear ex0 ey0 ep0 er0
            refine wp_region_mix (C := fun w' => ∃ n, w' = u0.drewN n) 13 (by kernel_rfl) (by kernel_rfl) (fun _ _ d _ _ h => by cases d <;> exact h) ⟨1, rfl⟩ ?_
            simp only [List.take_succ_cons, List.take_zero, List.drop_succ_cons, List.drop_zero]
            repeat (quiet_step (fail))
            refine wpQuiet_nil ?_
            rintro _ ⟨n0, rfl⟩
            go_wp2_with (go_at_call 232; ((with_reducible refine (mix0 gv cv Y0 Tv okV0 x0 y0 lx0 ly0 _ (q0.drewN n0).v).mono ?_); rintro e u1 ⟨rfl, my0, gy0⟩))
            have q1 := (q0.drewN n0).put gy0 my0
            have mk1 := (gy0.block gk (lt_heap mk0) (fun e => by cases e; omega)).trans mk0
            have hr1 := (hr0.drewN n0).keep lgv2 gy0
            have okV1 := ok_gstep okV0 0 4 8 12 x0 y0
            have GY0 : ∃ Z, Z = gstep Y0 0 4 8 12 x0 y0 := ⟨_, rfl⟩
            obtain ⟨Y1, eY1⟩ := GY0
            rw [← eY1] at q1 okV1
            have EQ1 := Lib.hid eY1
            clear eY1 my0 gy0 q0 mk0 hr0 s0 t0 c0 d0
            have s1 : u1.cell? ⟨gk, 2, none⟩ = some (.int .i64 (S.getD 2 0 : Nat)) := by rw [cell_heap mk1]; exact rowI_get _ _ _ (by omega)
            have t1 : u1.cell? ⟨gk, 3, none⟩ = some (.int .i64 (S.getD 3 0 : Nat)) := by rw [cell_heap mk1]; exact rowI_get _ _ _ (by omega)
            obtain ⟨p1, ep1⟩ : ∃ p, p = S.getD 2 0 := ⟨_, rfl⟩
            obtain ⟨r1, er1⟩ : ∃ p, p = S.getD 3 0 := ⟨_, rfl⟩
            have lp1 : p1 < 16 := by rw [ep1]; exact hrt 2 (by decide)
            have lr1 : r1 < 16 := by rw [er1]; exact hrt 3 (by decide)
            rw [← ep1] at s1
            rw [← er1] at t1
            have ip1 : (p1 : Int) < 16 := by omega
            have ir1 : (r1 : Int) < 16 := by omega
            have c1 := q1.cm p1 (by rw [okM.len]; exact lp1)
            have d1 := q1.cm r1 (by rw [okM.len]; exact lr1)
            obtain ⟨x1, ex1⟩ : ∃ p, p = M.getD p1 0 := ⟨_, rfl⟩
            obtain ⟨y1, ey1⟩ : ∃ p, p = M.getD r1 0 := ⟨_, rfl⟩
            have lx1 : x1 < 4294967296 := by rw [ex1]; exact okM.lt _
            have ly1 : y1 < 4294967296 := by rw [ey1]; exact okM.lt _
            rw [← ex1] at c1
            rw [← ey1] at d1
            have EX1 := Lib.hid (show M.getD (S.getD 2 0) 0 = x1 by rw [ex1, ep1])
            have EY1 := Lib.hid (show M.getD (S.getD 3 0) 0 = y1 by rw [ey1, er1])
            clear ex1 ey1 ep1 er1
            refine wp_region_mix (C := fun w' => ∃ n, w' = u1.drewN n) 13 (by kernel_rfl) (by kernel_rfl) (fun _ _ d _ _ h => by cases d <;> exact h) ⟨1, rfl⟩ ?_
            simp only [List.take_succ_cons, List.take_zero, List.drop_succ_cons, List.drop_zero]
            repeat (quiet_step (fail))
            refine wpQuiet_nil ?_
            rintro _ ⟨n1, rfl⟩
            go_wp2_with (go_at_call 232; ((with_reducible refine (mix1 gv cv Y1 Tv okV1 x1 y1 lx1 ly1 _ (q1.drewN n1).v).mono ?_); rintro e u2 ⟨rfl, my1, gy1⟩))
            have q2 := (q1.drewN n1).put gy1 my1
            have mk2 := (gy1.block gk (lt_heap mk1) (fun e => by cases e; omega)).trans mk1
            have hr2 := (hr1.drewN n1).keep lgv2 gy1
            have okV2 := ok_gstep okV1 1 5 9 13 x1 y1
            have GY1 : ∃ Z, Z = gstep Y1 1 5 9 13 x1 y1 := ⟨_, rfl⟩
            obtain ⟨Y2, eY2⟩ := GY1
            rw [← eY2] at q2 okV2
            have EQ2 := Lib.hid eY2
            clear eY2 my1 gy1 q1 mk1 hr1 s1 t1 c1 d1
            have s2 : u2.cell? ⟨gk, 4, none⟩ = some (.int .i64 (S.getD 4 0 : Nat)) := by rw [cell_heap mk2]; exact rowI_get _ _ _ (by omega)
            have t2 : u2.cell? ⟨gk, 5, none⟩ = some (.int .i64 (S.getD 5 0 : Nat)) := by rw [cell_heap mk2]; exact rowI_get _ _ _ (by omega)
            obtain ⟨p2, ep2⟩ : ∃ p, p = S.getD 4 0 := ⟨_, rfl⟩
            obtain ⟨r2, er2⟩ : ∃ p, p = S.getD 5 0 := ⟨_, rfl⟩
            have lp2 : p2 < 16 := by rw [ep2]; exact hrt 4 (by decide)
            have lr2 : r2 < 16 := by rw [er2]; exact hrt 5 (by decide)
            rw [← ep2] at s2
            rw [← er2] at t2
            have ip2 : (p2 : Int) < 16 := by omega
            have ir2 : (r2 : Int) < 16 := by omega
            have c2 := q2.cm p2 (by rw [okM.len]; exact lp2)
            have d2 := q2.cm r2 (by rw [okM.len]; exact lr2)
            obtain ⟨x2, ex2⟩ : ∃ p, p = M.getD p2 0 := ⟨_, rfl⟩
            obtain ⟨y2, ey2⟩ : ∃ p, p = M.getD r2 0 := ⟨_, rfl⟩
            have lx2 : x2 < 4294967296 := by rw [ex2]; exact okM.lt _
            have ly2 : y2 < 4294967296 := by rw [ey2]; exact okM.lt _
            rw [← ex2] at c2
            rw [← ey2] at d2
            have EX2 := Lib.hid (show M.getD (S.getD 4 0) 0 = x2 by rw [ex2, ep2])
            have EY2 := Lib.hid (show M.getD (S.getD 5 0) 0 = y2 by rw [ey2, er2])
            clear ex2 ey2 ep2 er2
            refine wp_region_mix (C := fun w' => ∃ n, w' = u2.drewN n) 13 (by kernel_rfl) (by kernel_rfl) (fun _ _ d _ _ h => by cases d <;> exact h) ⟨1, rfl⟩ ?_
            simp only [List.take_succ_cons, List.take_zero, List.drop_succ_cons, List.drop_zero]
            repeat (quiet_step (fail))
            refine wpQuiet_nil ?_
            rintro _ ⟨n2, rfl⟩
            go_wp2_with (go_at_call 232; ((with_reducible refine (mix2 gv cv Y2 Tv okV2 x2 y2 lx2 ly2 _ (q2.drewN n2).v).mono ?_); rintro e u3 ⟨rfl, my2, gy2⟩))
            have q3 := (q2.drewN n2).put gy2 my2
            have mk3 := (gy2.block gk (lt_heap mk2) (fun e => by cases e; omega)).trans mk2
            have hr3 := (hr2.drewN n2).keep lgv2 gy2
            have okV3 := ok_gstep okV2 2 6 10 14 x2 y2
            have GY2 : ∃ Z, Z = gstep Y2 2 6 10 14 x2 y2 := ⟨_, rfl⟩
            obtain ⟨Y3, eY3⟩ := GY2
            rw [← eY3] at q3 okV3
            have EQ3 := Lib.hid eY3
            clear eY3 my2 gy2 q2 mk2 hr2 s2 t2 c2 d2
            have s3 : u3.cell? ⟨gk, 6, none⟩ = some (.int .i64 (S.getD 6 0 : Nat)) := by rw [cell_heap mk3]; exact rowI_get _ _ _ (by omega)
            have t3 : u3.cell? ⟨gk, 7, none⟩ = some (.int .i64 (S.getD 7 0 : Nat)) := by rw [cell_heap mk3]; exact rowI_get _ _ _ (by omega)
            obtain ⟨p3, ep3⟩ : ∃ p, p = S.getD 6 0 := ⟨_, rfl⟩
            obtain ⟨r3, er3⟩ : ∃ p, p = S.getD 7 0 := ⟨_, rfl⟩
            have lp3 : p3 < 16 := by rw [ep3]; exact hrt 6 (by decide)
            have lr3 : r3 < 16 := by rw [er3]; exact hrt 7 (by decide)
            rw [← ep3] at s3
            rw [← er3] at t3
            have ip3 : (p3 : Int) < 16 := by omega
            have ir3 : (r3 : Int) < 16 := by omega
            have c3 := q3.cm p3 (by rw [okM.len]; exact lp3)
            have d3 := q3.cm r3 (by rw [okM.len]; exact lr3)
            obtain ⟨x3, ex3⟩ : ∃ p, p = M.getD p3 0 := ⟨_, rfl⟩
            obtain ⟨y3, ey3⟩ : ∃ p, p = M.getD r3 0 := ⟨_, rfl⟩
            have lx3 : x3 < 4294967296 := by rw [ex3]; exact okM.lt _
            have ly3 : y3 < 4294967296 := by rw [ey3]; exact okM.lt _
            rw [← ex3] at c3
            rw [← ey3] at d3
            have EX3 := Lib.hid (show M.getD (S.getD 6 0) 0 = x3 by rw [ex3, ep3])
            have EY3 := Lib.hid (show M.getD (S.getD 7 0) 0 = y3 by rw [ey3, er3])
            clear ex3 ey3 ep3 er3
            refine wp_region_mix (C := fun w' => ∃ n, w' = u3.drewN n) 13 (by kernel_rfl) (by kernel_rfl) (fun _ _ d _ _ h => by cases d <;> exact h) ⟨1, rfl⟩ ?_
            simp only [List.take_succ_cons, List.take_zero, List.drop_succ_cons, List.drop_zero]
            repeat (quiet_step (fail))
            refine wpQuiet_nil ?_
            rintro _ ⟨n3, rfl⟩
            go_wp2_with (go_at_call 232; ((with_reducible refine (mix3 gv cv Y3 Tv okV3 x3 y3 lx3 ly3 _ (q3.drewN n3).v).mono ?_); rintro e u4 ⟨rfl, my3, gy3⟩))
            have q4 := (q3.drewN n3).put gy3 my3
            have mk4 := (gy3.block gk (lt_heap mk3) (fun e => by cases e; omega)).trans mk3
            have hr4 := (hr3.drewN n3).keep lgv2 gy3
            have okV4 := ok_gstep okV3 3 7 11 15 x3 y3
            have GY3 : ∃ Z, Z = gstep Y3 3 7 11 15 x3 y3 := ⟨_, rfl⟩
            obtain ⟨Y4, eY4⟩ := GY3
            rw [← eY4] at q4 okV4
            have EQ4 := Lib.hid eY4
            clear eY4 my3 gy3 q3 mk3 hr3 s3 t3 c3 d3
            have s4 : u4.cell? ⟨gk, 8, none⟩ = some (.int .i64 (S.getD 8 0 : Nat)) := by rw [cell_heap mk4]; exact rowI_get _ _ _ (by omega)
            have t4 : u4.cell? ⟨gk, 9, none⟩ = some (.int .i64 (S.getD 9 0 : Nat)) := by rw [cell_heap mk4]; exact rowI_get _ _ _ (by omega)
            obtain ⟨p4, ep4⟩ : ∃ p, p = S.getD 8 0 := ⟨_, rfl⟩
            obtain ⟨r4, er4⟩ : ∃ p, p = S.getD 9 0 := ⟨_, rfl⟩
            have lp4 : p4 < 16 := by rw [ep4]; exact hrt 8 (by decide)
            have lr4 : r4 < 16 := by rw [er4]; exact hrt 9 (by decide)
            rw [← ep4] at s4
            rw [← er4] at t4
            have ip4 : (p4 : Int) < 16 := by omega
            have ir4 : (r4 : Int) < 16 := by omega
            have c4 := q4.cm p4 (by rw [okM.len]; exact lp4)
            have d4 := q4.cm r4 (by rw [okM.len]; exact lr4)
            obtain ⟨x4, ex4⟩ : ∃ p, p = M.getD p4 0 := ⟨_, rfl⟩
            obtain ⟨y4, ey4⟩ : ∃ p, p = M.getD r4 0 := ⟨_, rfl⟩
            have lx4 : x4 < 4294967296 := by rw [ex4]; exact okM.lt _
            have ly4 : y4 < 4294967296 := by rw [ey4]; exact okM.lt _
            rw [← ex4] at c4
            rw [← ey4] at d4
            have EX4 := Lib.hid (show M.getD (S.getD 8 0) 0 = x4 by rw [ex4, ep4])
            have EY4 := Lib.hid (show M.getD (S.getD 9 0) 0 = y4 by rw [ey4, er4])
            clear ex4 ey4 ep4 er4
            refine wp_region_mix (C := fun w' => ∃ n, w' = u4.drewN n) 13 (by kernel_rfl) (by kernel_rfl) (fun _ _ d _ _ h => by cases d <;> exact h) ⟨1, rfl⟩ ?_
            simp only [List.take_succ_cons, List.take_zero, List.drop_succ_cons, List.drop_zero]
            repeat (quiet_step (fail))
            refine wpQuiet_nil ?_
            rintro _ ⟨n4, rfl⟩
            go_wp2_with (go_at_call 232; ((with_reducible refine (mix4 gv cv Y4 Tv okV4 x4 y4 lx4 ly4 _ (q4.drewN n4).v).mono ?_); rintro e u5 ⟨rfl, my4, gy4⟩))
            have q5 := (q4.drewN n4).put gy4 my4
            have mk5 := (gy4.block gk (lt_heap mk4) (fun e => by cases e; omega)).trans mk4
            have hr5 := (hr4.drewN n4).keep lgv2 gy4
            have okV5 := ok_gstep okV4 0 5 10 15 x4 y4
            have GY4 : ∃ Z, Z = gstep Y4 0 5 10 15 x4 y4 := ⟨_, rfl⟩
            obtain ⟨Y5, eY5⟩ := GY4
            rw [← eY5] at q5 okV5
            have EQ5 := Lib.hid eY5
            clear eY5 my4 gy4 q4 mk4 hr4 s4 t4 c4 d4
            have s5 : u5.cell? ⟨gk, 10, none⟩ = some (.int .i64 (S.getD 10 0 : Nat)) := by rw [cell_heap mk5]; exact rowI_get _ _ _ (by omega)
            have t5 : u5.cell? ⟨gk, 11, none⟩ = some (.int .i64 (S.getD 11 0 : Nat)) := by rw [cell_heap mk5]; exact rowI_get _ _ _ (by omega)
            obtain ⟨p5, ep5⟩ : ∃ p, p = S.getD 10 0 := ⟨_, rfl⟩
            obtain ⟨r5, er5⟩ : ∃ p, p = S.getD 11 0 := ⟨_, rfl⟩
            have lp5 : p5 < 16 := by rw [ep5]; exact hrt 10 (by decide)
            have lr5 : r5 < 16 := by rw [er5]; exact hrt 11 (by decide)
            rw [← ep5] at s5
            rw [← er5] at t5
            have ip5 : (p5 : Int) < 16 := by omega
            have ir5 : (r5 : Int) < 16 := by omega
            have c5 := q5.cm p5 (by rw [okM.len]; exact lp5)
            have d5 := q5.cm r5 (by rw [okM.len]; exact lr5)
            obtain ⟨x5, ex5⟩ : ∃ p, p = M.getD p5 0 := ⟨_, rfl⟩
            obtain ⟨y5, ey5⟩ : ∃ p, p = M.getD r5 0 := ⟨_, rfl⟩
            have lx5 : x5 < 4294967296 := by rw [ex5]; exact okM.lt _
            have ly5 : y5 < 4294967296 := by rw [ey5]; exact okM.lt _
            rw [← ex5] at c5
            rw [← ey5] at d5
            have EX5 := Lib.hid (show M.getD (S.getD 10 0) 0 = x5 by rw [ex5, ep5])
            have EY5 := Lib.hid (show M.getD (S.getD 11 0) 0 = y5 by rw [ey5, er5])
            clear ex5 ey5 ep5 er5
            refine wp_region_mix (C := fun w' => ∃ n, w' = u5.drewN n) 13 (by kernel_rfl) (by kernel_rfl) (fun _ _ d _ _ h => by cases d <;> exact h) ⟨1, rfl⟩ ?_
            simp only [List.take_succ_cons, List.take_zero, List.drop_succ_cons, List.drop_zero]
            repeat (quiet_step (fail))
            refine wpQuiet_nil ?_
            rintro _ ⟨n5, rfl⟩
            go_wp2_with (go_at_call 232; ((with_reducible refine (mix5 gv cv Y5 Tv okV5 x5 y5 lx5 ly5 _ (q5.drewN n5).v).mono ?_); rintro e u6 ⟨rfl, my5, gy5⟩))
            have q6 := (q5.drewN n5).put gy5 my5
            have mk6 := (gy5.block gk (lt_heap mk5) (fun e => by cases e; omega)).trans mk5
            have hr6 := (hr5.drewN n5).keep lgv2 gy5
            have okV6 := ok_gstep okV5 1 6 11 12 x5 y5
            have GY5 : ∃ Z, Z = gstep Y5 1 6 11 12 x5 y5 := ⟨_, rfl⟩
            obtain ⟨Y6, eY6⟩ := GY5
            rw [← eY6] at q6 okV6
            have EQ6 := Lib.hid eY6
            clear eY6 my5 gy5 q5 mk5 hr5 s5 t5 c5 d5
            have s6 : u6.cell? ⟨gk, 12, none⟩ = some (.int .i64 (S.getD 12 0 : Nat)) := by rw [cell_heap mk6]; exact rowI_get _ _ _ (by omega)
            have t6 : u6.cell? ⟨gk, 13, none⟩ = some (.int .i64 (S.getD 13 0 : Nat)) := by rw [cell_heap mk6]; exact rowI_get _ _ _ (by omega)
            obtain ⟨p6, ep6⟩ : ∃ p, p = S.getD 12 0 := ⟨_, rfl⟩
            obtain ⟨r6, er6⟩ : ∃ p, p = S.getD 13 0 := ⟨_, rfl⟩
            have lp6 : p6 < 16 := by rw [ep6]; exact hrt 12 (by decide)
            have lr6 : r6 < 16 := by rw [er6]; exact hrt 13 (by decide)
            rw [← ep6] at s6
            rw [← er6] at t6
            have ip6 : (p6 : Int) < 16 := by omega
            have ir6 : (r6 : Int) < 16 := by omega
            have c6 := q6.cm p6 (by rw [okM.len]; exact lp6)
            have d6 := q6.cm r6 (by rw [okM.len]; exact lr6)
            obtain ⟨x6, ex6⟩ : ∃ p, p = M.getD p6 0 := ⟨_, rfl⟩
            obtain ⟨y6, ey6⟩ : ∃ p, p = M.getD r6 0 := ⟨_, rfl⟩
            have lx6 : x6 < 4294967296 := by rw [ex6]; exact okM.lt _
            have ly6 : y6 < 4294967296 := by rw [ey6]; exact okM.lt _
            rw [← ex6] at c6
            rw [← ey6] at d6
            have EX6 := Lib.hid (show M.getD (S.getD 12 0) 0 = x6 by rw [ex6, ep6])
            have EY6 := Lib.hid (show M.getD (S.getD 13 0) 0 = y6 by rw [ey6, er6])
            clear ex6 ey6 ep6 er6
            refine wp_region_mix (C := fun w' => ∃ n, w' = u6.drewN n) 13 (by kernel_rfl) (by kernel_rfl) (fun _ _ d _ _ h => by cases d <;> exact h) ⟨1, rfl⟩ ?_
            simp only [List.take_succ_cons, List.take_zero, List.drop_succ_cons, List.drop_zero]
            repeat (quiet_step (fail))
            refine wpQuiet_nil ?_
            rintro _ ⟨n6, rfl⟩
            go_wp2_with (go_at_call 232; ((with_reducible refine (mix6 gv cv Y6 Tv okV6 x6 y6 lx6 ly6 _ (q6.drewN n6).v).mono ?_); rintro e u7 ⟨rfl, my6, gy6⟩))
            have q7 := (q6.drewN n6).put gy6 my6
            have mk7 := (gy6.block gk (lt_heap mk6) (fun e => by cases e; omega)).trans mk6
            have hr7 := (hr6.drewN n6).keep lgv2 gy6
            have okV7 := ok_gstep okV6 2 7 8 13 x6 y6
            have GY6 : ∃ Z, Z = gstep Y6 2 7 8 13 x6 y6 := ⟨_, rfl⟩
            obtain ⟨Y7, eY7⟩ := GY6
            rw [← eY7] at q7 okV7
            have EQ7 := Lib.hid eY7
            clear eY7 my6 gy6 q6 mk6 hr6 s6 t6 c6 d6
            have s7 : u7.cell? ⟨gk, 14, none⟩ = some (.int .i64 (S.getD 14 0 : Nat)) := by rw [cell_heap mk7]; exact rowI_get _ _ _ (by omega)
            have t7 : u7.cell? ⟨gk, 15, none⟩ = some (.int .i64 (S.getD 15 0 : Nat)) := by rw [cell_heap mk7]; exact rowI_get _ _ _ (by omega)
            obtain ⟨p7, ep7⟩ : ∃ p, p = S.getD 14 0 := ⟨_, rfl⟩
            obtain ⟨r7, er7⟩ : ∃ p, p = S.getD 15 0 := ⟨_, rfl⟩
            have lp7 : p7 < 16 := by rw [ep7]; exact hrt 14 (by decide)
            have lr7 : r7 < 16 := by rw [er7]; exact hrt 15 (by decide)
            rw [← ep7] at s7
            rw [← er7] at t7
            have ip7 : (p7 : Int) < 16 := by omega
            have ir7 : (r7 : Int) < 16 := by omega
            have c7 := q7.cm p7 (by rw [okM.len]; exact lp7)
            have d7 := q7.cm r7 (by rw [okM.len]; exact lr7)
            obtain ⟨x7, ex7⟩ : ∃ p, p = M.getD p7 0 := ⟨_, rfl⟩
            obtain ⟨y7, ey7⟩ : ∃ p, p = M.getD r7 0 := ⟨_, rfl⟩
            have lx7 : x7 < 4294967296 := by rw [ex7]; exact okM.lt _
            have ly7 : y7 < 4294967296 := by rw [ey7]; exact okM.lt _
            rw [← ex7] at c7
            rw [← ey7] at d7
            have EX7 := Lib.hid (show M.getD (S.getD 14 0) 0 = x7 by rw [ex7, ep7])
            have EY7 := Lib.hid (show M.getD (S.getD 15 0) 0 = y7 by rw [ey7, er7])
            clear ex7 ey7 ep7 er7
            refine wp_region_mix (C := fun w' => ∃ n, w' = u7.drewN n) 13 (by kernel_rfl) (by kernel_rfl) (fun _ _ d _ _ h => by cases d <;> exact h) ⟨1, rfl⟩ ?_
            simp only [List.take_succ_cons, List.take_zero, List.drop_succ_cons, List.drop_zero]
            repeat (quiet_step (fail))
            refine wpQuiet_nil ?_
            rintro _ ⟨n7, rfl⟩
            go_wp2_with (go_at_call 232; ((with_reducible refine (mix7 gv cv Y7 Tv okV7 x7 y7 lx7 ly7 _ (q7.drewN n7).v).mono ?_); rintro e u8 ⟨rfl, my7, gy7⟩))
            have q8 := (q7.drewN n7).put gy7 my7
            have mk8 := (gy7.block gk (lt_heap mk7) (fun e => by cases e; omega)).trans mk7
            have hr8 := (hr7.drewN n7).keep lgv2 gy7
            have okV8 := ok_gstep okV7 3 4 9 14 x7 y7
            have GY7 : ∃ Z, Z = gstep Y7 3 4 9 14 x7 y7 := ⟨_, rfl⟩
            obtain ⟨Y8, eY8⟩ := GY7
            rw [← eY8] at q8 okV8
            have EQ8 := Lib.hid eY8
            clear eY8 my7 gy7 q7 mk7 hr7 s7 t7 c7 d7
            go_roundw
            case rel =>
              refine ⟨k + 1, by omega, by go_num, ?_, hr8⟩
              rw [KS.out, RR.out]
              rw [EX0.out, EY0.out, EX1.out, EY1.out, EX2.out, EY2.out, EX3.out, EY3.out, EX4.out, EY4.out, EX5.out, EY5.out, EX6.out, EY6.out, EX7.out, EY7.out, ← EQ1.out, ← EQ2.out, ← EQ3.out, ← EQ4.out, ← EQ5.out, ← EQ6.out, ← EQ7.out, ← EQ8.out]
              exact q8
            case measure => simp [intOf]; omega
          · obtain rfl : k = 10 := by omega
            go_wp2_with (fail)
            go_loopw [14] (fun i wy => ∃ j : Nat, j ≤ 8 ∧ i = .int .i64 j ∧ RS w M Tm gm (prounds M V0 10) Tv gv ((fin H (prounds M V0 10)).take j ++ H.drop j) Th gh wy) (fun i _ => 8 - (intOf i).toNat)
            case atStart => exact ⟨0, by omega, rfl, by simpa using q0⟩
            case round =>
              obtain ⟨j, hj, rfl, rj⟩ := hrel
              rename World => wy
              clear q0 hr0
              have FP : Hid (press H s.data.toList nn last = fin H (prounds M V0 10)) := Lib.hid (by rw [← HM.out, ← HV0.out]; rfl)
              generalize prounds M V0 10 = V at *
              by_cases hlj : j < 8
              · have hv1 := rj.cv j (by rw [okV0.len]; omega)
                have hv2 := rj.cv (j + 8) (by rw [okV0.len]; omega)
                have hh := rj.ch j (by simp [fin, hH.len]; omega)
                have fh := rj.fh j
                have FS := Lib.hid (fin_step hH V j hlj)
                rw [fin_get hH V j hlj] at hh
                have FG := Lib.hid (fin_at H V j hlj)
                have l1 := okV0.lt j
                have l2 := okV0.lt (j + 8)
                have l3 := hH.lt j
                generalize V.getD j 0 = v1 at *
                generalize V.getD (j + 8) 0 = v2 at *
                generalize H.getD j 0 = h1 at *
                obtain ⟨x1, ex1⟩ : ∃ x, x = h1 ^^^ v1 := ⟨_, rfl⟩
                obtain ⟨x2, ex2⟩ : ∃ x, x = x1 ^^^ v2 := ⟨_, rfl⟩
                have lx1 : x1 < 4294967296 := by rw [ex1]; exact xor_lt l3 l1
                have z1 : bits .xor .i64 (h1 : Int) (v1 : Int) = (x1 : Int) := by rw [ex1]; exact i64_xor _ _ l3 l1
                have z2 : bits .xor .i64 (x1 : Int) (v2 : Int) = (x2 : Int) := by rw [ex2]; exact i64_xor _ _ lx1 l2
                have EX := Lib.hid (show h1 ^^^ (v1 ^^^ v2) = x2 by rw [ex2, ex1, Nat.xor_assoc])
                obtain ⟨j8, e8⟩ : ∃ j8, j8 = j + 8 := ⟨_, rfl⟩
                rw [← e8] at hv2
                have w8 : IntKind.i64.wrap ((j : Int) + 8) = (j8 : Int) := by rw [IntWalk.i64_in _ (by omega)]; omega
                have ij : (j : Int) < 8 := by omega
                have ij' : (j : Int) < 16 := by omega
                have ij8 : (j8 : Int) < 16 := by omega
                clear e8 ex1 ex2
                go_wp2_with (fail)
                refine wp_region_mix (C := fun w' => ∃ n, w' = wy.drewN n) 18 (by kernel_rfl) (by kernel_rfl) (fun _ _ d _ _ h => by cases d <;> exact h) ⟨1, rfl⟩ ?_
                simp only [List.take_succ_cons, List.take_zero, List.drop_succ_cons, List.drop_zero]
                repeat (quiet_step (fail))
                refine wpQuiet_nil ?_
                rintro _ ⟨n5, rfl⟩
                go_wp2_with (fail)
                go_roundw
                case rel =>
                  repeat apply Exists.intro
                  refine ⟨?_, rfl⟩
                  refine ⟨j + 1, by omega, by go_num, ?_⟩
                  rw [← FS.out, FG.out, EX.out]
                  exact (rj.drewN n5).storeh j _ (by simp [fin, hH.len]; omega)
                case measure => simp [intOf]; omega
              · obtain rfl : j = 8 := by omega
                go_wp2_with (fail)
                go_end0
                rw [FP.out]
                have := rj.h
                rw [List.take_of_length_le (by simp [fin]), List.drop_eq_nil_of_le (by rw [hH.len]; omega), List.append_nil] at this
                exact ⟨rfl, this, rj.grown⟩
end Go.Proofs.YtlndnpfjneeeeaaGreatDoor
