/- Joined by mkmerged.py: SvSame, SvSame2. -/
import Derived.Test.YtifiipmmgnmciaaGreatDoorMi16
import Derived.Test.YtifiipmmgnmciaaGreatDoorMi24
import Derived.StillTactics
/- SvSame, what a claim needs of it (prune.py). -/
namespace Go.Proofs.YtifiipmmgnmciaaGreatDoor.Sv
open Go.RowKit
open Dk (Kp)
set_option linter.unusedVariables false
set_option maxRecDepth 100000
abbrev opCells (n : ByteArray) (Ag : Option Addr) (lg cg : Nat) (Af : Option Addr) (lf cf : Nat) (go : ByteArray) (st er : Int) (at_ tx : ByteArray) (Ar : Option Addr) (lr cr : Nat) : Array Value :=
  #[.string n, .slice Ag lg cg, .slice Af lf cf, .string go, .int .i64 st, .int .i64 er, .string at_, .string tx, .slice Ar lr cr]
set_option maxHeartbeats 8000000 in
theorem same1_st (n go : ByteArray) (Ag Af Ar Bg Bf Br : Option Addr) (lg cg lf cf lr cr mg dg mf df mr dr : Nat) (s t er er' : Int) (at_ tx at' tx' : ByteArray) (hne : s ≠ t) (W : World) :
    Calls Tryz.prog 97 #[.agg (opCells n Ag lg cg Af lf cf go s er at_ tx Ar lr cr), .agg (opCells n Bg mg dg Bf mf df go t er' at' tx' Br mr dr)] W fun e w' => e = .returned (.bool false) ∧ Below W.heap.size W w' := by
  obtain ⟨W0, e0⟩ : ∃ W0, W0 = (W.alloc (.cells (opCells n Ag lg cg Af lf cf go s er at_ tx Ar lr cr) 29)).alloc (.cells (opCells n Bg mg dg Bf mf df go t er' at' tx' Br mr dr) 29) := ⟨_, rfl⟩
  have B0 : Below W.heap.size W W0 := by rw [e0]; exact ((Below.refl _ _).alloc (Nat.le_refl _) _).alloc (by simp) _
  have x0 : W0.heap[W.heap.size]? = some (.cells (opCells n Ag lg cg Af lf cf go s er at_ tx Ar lr cr) 29 (0, 0)) := by rw [e0]; exact Lg.heap_two
  have y0 : W0.heap[W.heap.size + 1]? = some (.cells (opCells n Bg mg dg Bf mf df go t er' at' tx' Br mr dr) 29 (0, 0)) := by rw [e0]; exact heap_alloc2_new W _ _
  have a0 : W0.cell? ⟨W.heap.size, 0, none⟩ = some (.string n) := (cell_heap x0 0).trans rfl
  have a3 : W0.cell? ⟨W.heap.size, 3, none⟩ = some (.string go) := (cell_heap x0 3).trans rfl
  have a4 : W0.cell? ⟨W.heap.size, 4, none⟩ = some (.int .i64 s) := (cell_heap x0 4).trans rfl
  have b0 : W0.cell? ⟨W.heap.size + 1, 0, none⟩ = some (.string n) := (cell_heap y0 0).trans rfl
  have b3 : W0.cell? ⟨W.heap.size + 1, 3, none⟩ = some (.string go) := (cell_heap y0 3).trans rfl
  have b4 : W0.cell? ⟨W.heap.size + 1, 4, none⟩ = some (.int .i64 t) := (cell_heap y0 4).trans rfl
  have HB := Lib.hid B0
  clear B0 x0 y0
  go_enter Tryz.func97, Tryz.ntmps97
  go_upto_region 1 with (fail)
  rw [← e0]
  clear e0
  refine wp_region_still_lit (by kernel_rfl) (by kernel_rfl) ?_
  repeat still_step
  refine wpStill_nil ?_
  go_wp2_with (fail)
  go_ret
  exact ⟨rfl, HB.out.drew⟩
theorem equal_len (a b : Nat) (A B f : Value) (Aa Bb : Option Addr) (ca cb : Nat) (hne : a ≠ b) (W : World) :
    Calls Tryz.prog 96 #[.slice Aa a ca, .slice Bb b cb, f] W fun e w' => e = .returned (.bool false) ∧ W = w' := by
  have h1 : ¬ (a : Int) = (b : Int) := by omega
  go_enter Tryz.func96, Tryz.ntmps96
  go_wp2_with (fail)
  go_ret
  exact ⟨rfl, rfl⟩
end Go.Proofs.YtifiipmmgnmciaaGreatDoor.Sv
/- SvSame2, what a claim needs of it (prune.py). -/
namespace Go.Proofs.YtifiipmmgnmciaaGreatDoor.Sv
open Go.RowKit
open Dk (Kp)
set_option linter.unusedVariables false
set_option maxRecDepth 100000
def OpAt (W : World) (ad : Addr) (cs : Array Value) : Prop := ad.spot = none ∧ ∀ (j : Nat) v, cs[j]? = some v → W.cell? ⟨ad.block, ad.off + j, none⟩ = some v
theorem OpAt.below {W V : World} {ad : Addr} {cs : Array Value} (h : OpAt W ad cs) (hb : Below W.heap.size W V) : OpAt V ad cs :=
  ⟨h.1, fun j v hj => (hb.cell (p := ⟨ad.block, ad.off + j, none⟩) (World.block_lt_of_cell? W ⟨ad.block, ad.off + j, none⟩ (h.2 j v hj))).trans (h.2 j v hj)⟩
theorem OpAt.nine {W : World} {ad : Addr} {n : ByteArray} {Ag : Option Addr} {lg cg : Nat} {Af : Option Addr} {lf cf : Nat} {go : ByteArray} {s er : Int} {at_ tx : ByteArray} {Ar : Option Addr} {lr cr : Nat} (h : OpAt W ad (opCells n Ag lg cg Af lf cf go s er at_ tx Ar lr cr)) : W.cell? ad = some (.string n) ∧ W.cell? ⟨ad.block, ad.off + 1, none⟩ = some (.slice Ag lg cg) ∧ W.cell? ⟨ad.block, ad.off + 2, none⟩ = some (.slice Af lf cf) ∧ W.cell? ⟨ad.block, ad.off + 3, none⟩ = some (.string go) ∧ W.cell? ⟨ad.block, ad.off + 4, none⟩ = some (.int .i64 s) ∧ W.cell? ⟨ad.block, ad.off + 5, none⟩ = some (.int .i64 er) ∧ W.cell? ⟨ad.block, ad.off + 6, none⟩ = some (.string at_) ∧ W.cell? ⟨ad.block, ad.off + 7, none⟩ = some (.string tx) ∧ W.cell? ⟨ad.block, ad.off + 8, none⟩ = some (.slice Ar lr cr) := by
  obtain ⟨h1, h2⟩ := h
  refine ⟨?_, h2 1 _ rfl, h2 2 _ rfl, h2 3 _ rfl, h2 4 _ rfl, h2 5 _ rfl, h2 6 _ rfl, h2 7 _ rfl, h2 8 _ rfl⟩
  have := h2 0 _ rfl
  cases ad
  cases h1
  exact this
set_option maxHeartbeats 2000000 in
theorem equal_one (n go : ByteArray) (Ag Af Ar Bg Bf Br : Option Addr) (lg cg lf cf lr cr mg dg mf df mr dr ca cb : Nat) (s t er er' : Int) (at_ tx at' tx' : ByteArray) (hne : s ≠ t) (W : World) (a b : Addr) (ha : OpAt W a (opCells n Ag lg cg Af lf cf go s er at_ tx Ar lr cr)) (hb : OpAt W b (opCells n Bg mg dg Bf mf df go t er' at' tx' Br mr dr)) :
    Calls Tryz.prog 96 #[.slice (some a) 1 ca, .slice (some b) 1 cb, .func (.func 97) #[] #[]] W fun e w' => e = .returned (.bool false) ∧ Below W.heap.size W w' := by
  have C := Lib.hid (same1_st n go Ag Af Ar Bg Bf Br lg cg lf cf lr cr mg dg mf df mr dr s t er er' at_ tx at' tx' hne)
  obtain ⟨x0, x1, x2, x3, x4, x5, x6, x7, x8⟩ := ha.nine
  have HB := Lib.hid hb
  clear ha hb hne
  go_enter Tryz.func96, Tryz.ntmps96
  go_wp2_with (fail)
  go_loopw [17] (fun v wr => v = .int .i64 0 ∧ wr = W) (fun _ _ => 0)
  case atStart => exact ⟨rfl, rfl⟩
  case round =>
    obtain ⟨rfl, rfl⟩ := hrel
    go_upto_region 6 with (fail)
    obtain ⟨W2, e2⟩ : ∃ W2, W2 = wr.alloc (.cells (opCells n Ag lg cg Af lf cf go s er at_ tx Ar lr cr) 29) := ⟨_, rfl⟩
    have b2 : Below wr.heap.size wr W2 := by rw [e2]; exact (Below.refl _ _).alloc (Nat.le_refl _) _
    have z2 : W2.heap[wr.heap.size]? = some (.cells (opCells n Ag lg cg Af lf cf go s er at_ tx Ar lr cr) 29 (0, 0)) := by rw [e2]; exact heap_alloc_new _ _
    obtain ⟨y0, y1, y2, y3, y4, y5, y6, y7, y8⟩ := (HB.out.below b2).nine
    rw [← e2]
    have E2 := Lib.hid e2
    clear e2 x0 x1 x2 x3 x4 x5 x6 x7 x8
    go_upto_region 7 with (fail)
    obtain ⟨W3, e3⟩ : ∃ W3, W3 = W2.alloc (.cells (opCells n Bg mg dg Bf mf df go t er' at' tx' Br mr dr) 29) := ⟨_, rfl⟩
    have b3 : Below W2.heap.size W2 W3 := by rw [e3]; exact (Below.refl _ _).alloc (Nat.le_refl _) _
    have z3 : W3.heap[W2.heap.size]? = some (.cells (opCells n Bg mg dg Bf mf df go t er' at' tx' Br mr dr) 29 (0, 0)) := by rw [e3]; exact heap_alloc_new _ _
    have z4 := (b3.block _ (Lg.lt_heap z2)).trans z2
    have p0 : W3.cell? ⟨wr.heap.size, 0, none⟩ = some (.string n) := (cell_heap z4 0).trans rfl
    have p1 : W3.cell? ⟨wr.heap.size, 1, none⟩ = some (.slice Ag lg cg) := (cell_heap z4 1).trans rfl
    have p2 : W3.cell? ⟨wr.heap.size, 2, none⟩ = some (.slice Af lf cf) := (cell_heap z4 2).trans rfl
    have p3 : W3.cell? ⟨wr.heap.size, 3, none⟩ = some (.string go) := (cell_heap z4 3).trans rfl
    have p4 : W3.cell? ⟨wr.heap.size, 4, none⟩ = some (.int .i64 s) := (cell_heap z4 4).trans rfl
    have p5 : W3.cell? ⟨wr.heap.size, 5, none⟩ = some (.int .i64 er) := (cell_heap z4 5).trans rfl
    have p6 : W3.cell? ⟨wr.heap.size, 6, none⟩ = some (.string at_) := (cell_heap z4 6).trans rfl
    have p7 : W3.cell? ⟨wr.heap.size, 7, none⟩ = some (.string tx) := (cell_heap z4 7).trans rfl
    have p8 : W3.cell? ⟨wr.heap.size, 8, none⟩ = some (.slice Ar lr cr) := (cell_heap z4 8).trans rfl
    have q0 : W3.cell? ⟨W2.heap.size, 0, none⟩ = some (.string n) := (cell_heap z3 0).trans rfl
    have q1 : W3.cell? ⟨W2.heap.size, 1, none⟩ = some (.slice Bg mg dg) := (cell_heap z3 1).trans rfl
    have q2 : W3.cell? ⟨W2.heap.size, 2, none⟩ = some (.slice Bf mf df) := (cell_heap z3 2).trans rfl
    have q3 : W3.cell? ⟨W2.heap.size, 3, none⟩ = some (.string go) := (cell_heap z3 3).trans rfl
    have q4 : W3.cell? ⟨W2.heap.size, 4, none⟩ = some (.int .i64 t) := (cell_heap z3 4).trans rfl
    have q5 : W3.cell? ⟨W2.heap.size, 5, none⟩ = some (.int .i64 er') := (cell_heap z3 5).trans rfl
    have q6 : W3.cell? ⟨W2.heap.size, 6, none⟩ = some (.string at') := (cell_heap z3 6).trans rfl
    have q7 : W3.cell? ⟨W2.heap.size, 7, none⟩ = some (.string tx') := (cell_heap z3 7).trans rfl
    have q8 : W3.cell? ⟨W2.heap.size, 8, none⟩ = some (.slice Br mr dr) := (cell_heap z3 8).trans rfl
    have BW := Lib.hid (b2.trans (b3.mono b2.size))
    have C3 := Lib.hid (C.out W3)
    rw [← e3]
    clear e3 b2 b3 z2 z3 z4 y0 y1 y2 y3 y4 y5 y6 y7 y8
    go_wp2_with (go_at_call 97; (with_reducible refine (C3.out).mono ?_); rintro e w1 ⟨rfl, hb1⟩)
    go_ret
    exact ⟨rfl, BW.out.trans (hb1.mono BW.out.size)⟩
theorem same_of (Aa Bb : Option Addr) (a b ca cb : Nat) (W : World) (h : Calls Tryz.prog 96 #[.slice Aa a ca, .slice Bb b cb, .func (.func 97) #[] #[]] W fun e w' => e = .returned (.bool false) ∧ Below W.heap.size W w') :
    Calls Tryz.prog 56 #[.slice Aa a ca, .slice Bb b cb] W fun e w' => e = .returned (.bool false) ∧ Below W.heap.size W w' := by
  have H := Lib.hid h
  clear h
  go_enter Tryz.func56, Tryz.ntmps56
  go_wp2_with (go_at_call 96; (with_reducible refine (H.out).mono ?_); rintro e w1 ⟨rfl, hb1⟩)
  go_ret
  exact ⟨rfl, hb1⟩
end Go.Proofs.YtifiipmmgnmciaaGreatDoor.Sv
