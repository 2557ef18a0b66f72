/- Joined by mkmerged.py: SvOut, SvFresh, SvEnt, SvBackD. -/
import Derived.Test.YtifiipmmgnmciaaGreatDoorMi18
import Derived.Deep.AppendLies
import Derived.Deep.CutRange
import Derived.Deep.RegionHeld3
import Derived.Test.YtifiipmmgnmciaaGreatDoorMi16
import Derived.WideKeyEntry
import Derived.RangeFuncNested
import Derived.RangeFuncBound
import Derived.RangeFuncCalls
import Derived.RangeFuncLeaves
import Derived.Shelf.Abstract
import Derived.Shelf.RegionOpen
import Derived.OwnWalkIn
import Derived.TacticsInMore
import Derived.LoopNIn
import Derived.LoopIn
/- SvOut, what a claim needs of it (prune.py). -/
namespace Go.Proofs.YtifiipmmgnmciaaGreatDoor.Sv
open Go.RowKit Go.Maps
open Dk (Kp)
set_option linter.unusedVariables false
set_option maxRecDepth 100000
def ldq (T : TypeId) (x : Operand) : Op := Op.load T x
theorem ldq_eq (T : TypeId) (x : Operand) : Op.load T x = ldq T x := rfl
attribute [local go_sem] ldq
def ocV : Option (Nat × Nat) → Array Value
  | none => #[.int .i64 0, .slice none 0 0, .string ⟨#[]⟩, .int .i64 0, .string ⟨#[]⟩, .int .i64 0]
  | some (gf, cf) => #[.int .i64 1, .slice (some ⟨gf, 0, none⟩) 1 cf, .string ⟨#[]⟩, .int .i64 0, .string ⟨#[]⟩, .int .i64 2]
abbrev noOt : Array Value := #[.int .i64 0, .slice none 0 0, .string ⟨#[]⟩, .int .i64 0, .string ⟨#[]⟩, .int .i64 0]
theorem zOut (W : World) : (zeroValue 44).run Tryz.prog W = .ok (.agg noOt) W := rfl
theorem infoTask : (Tryz.prog.info? 34).map (fun i => (i.zero, i.size, i.bytes)) = some (some (.agg #[.string ⟨#[]⟩, .int .i64 0, .string ⟨#[]⟩, .slice none 0 0, .slice none 0 0, .int .i64 0]), 6, 96) := by kernel_rfl
theorem set6' {w : World} {b : Nat} {T : TypeId} {c0 c1 c2 c3 c4 c5 : Value} (h : w.heap[b]? = some (.cells #[c0, c1, c2, c3, c4, c5] T (0, 0))) (v0 v1 v2 v3 v4 v5 : Value) :
    ((((((w.setCell ⟨b, 0, none⟩ v0).setCell ⟨b, 1, none⟩ v1).setCell ⟨b, 2, none⟩ v2).setCell ⟨b, 3, none⟩ v3).setCell ⟨b, 4, none⟩ v4).setCell ⟨b, 5, none⟩ v5).heap[b]? = some (.cells #[v0, v1, v2, v3, v4, v5] T (0, 0)) :=
  (heap_set (heap_set (heap_set (heap_set (heap_set (heap_set h)))))).trans rfl
theorem below6 {B b : Nat} {W w : World} (h : Below B W w) (hb : B ≤ b) (v0 v1 v2 v3 v4 v5 : Value) : Below B W ((((((w.setCell ⟨b, 0, none⟩ v0).setCell ⟨b, 1, none⟩ v1).setCell ⟨b, 2, none⟩ v2).setCell ⟨b, 3, none⟩ v3).setCell ⟨b, 4, none⟩ v4).setCell ⟨b, 5, none⟩ v5) :=
  (((((h.setCell (p := ⟨b, 0, none⟩) hb _).setCell (p := ⟨b, 1, none⟩) hb _).setCell (p := ⟨b, 2, none⟩) hb _).setCell (p := ⟨b, 3, none⟩) hb _).setCell (p := ⟨b, 4, none⟩) hb _).setCell (p := ⟨b, 5, none⟩) hb _
def OutT (W : World) (p tc cs dm vm om : Nat) (TG As : Option Addr) (c K : ByteArray) (w' : World) : Prop := (∃ g cc, PB w' p TG As tc cs dm vm om (.slice (some ⟨g, 0, none⟩) 1 cc) ∧ W.heap.size ≤ g ∧ ∃ gs, w'.heap[g]? = some (.cells gs 34 (0, 0)) ∧ ∀ (j : Nat) u, (taskC K c)[j]? = some u → gs[j]? = some u) ∧ Kp (fun j => j = p) W w' ∧ w'.heap[W.heap.size + 1]? = some (.cells noOt 44 (0, 0))
theorem out_facts {V : World} {b : Nat} {T : TypeId} (h : V.heap[b]? = some (.cells noOt T (0, 0))) : V.cell? ⟨b, 0, none⟩ = some (.int .i64 0) ∧ V.frozen? ⟨b, 0, none⟩ = false ∧ V.setCell ⟨b, 0, none⟩ (.int .i64 0) = V ∧ V.cell? ⟨b, 1, none⟩ = some (.slice none 0 0) ∧ V.frozen? ⟨b, 1, none⟩ = false ∧ V.setCell ⟨b, 1, none⟩ (.slice none 0 0) = V ∧ V.cell? ⟨b, 2, none⟩ = some (.string ⟨#[]⟩) ∧ V.frozen? ⟨b, 2, none⟩ = false ∧ V.setCell ⟨b, 2, none⟩ (.string ⟨#[]⟩) = V ∧ V.cell? ⟨b, 3, none⟩ = some (.int .i64 0) ∧ V.frozen? ⟨b, 3, none⟩ = false ∧ V.setCell ⟨b, 3, none⟩ (.int .i64 0) = V ∧ V.cell? ⟨b, 4, none⟩ = some (.string ⟨#[]⟩) ∧ V.frozen? ⟨b, 4, none⟩ = false ∧ V.setCell ⟨b, 4, none⟩ (.string ⟨#[]⟩) = V ∧ V.cell? ⟨b, 5, none⟩ = some (.int .i64 0) ∧ V.frozen? ⟨b, 5, none⟩ = false ∧ V.setCell ⟨b, 5, none⟩ (.int .i64 0) = V :=
  ⟨(cell_heap h 0).trans rfl, frozen_heap h 0, set_same h rfl, (cell_heap h 1).trans rfl, frozen_heap h 1, set_same h rfl, (cell_heap h 2).trans rfl, frozen_heap h 2, set_same h rfl, (cell_heap h 3).trans rfl, frozen_heap h 3, set_same h rfl, (cell_heap h 4).trans rfl, frozen_heap h 4, set_same h rfl, (cell_heap h 5).trans rfl, frozen_heap h 5, set_same h rfl⟩
def OutSays (W : World) (p tc cs dm vm om : Nat) (TG As : Option Addr) (c K : ByteArray) (o : Option (Nat × Nat)) (e : Ending) (w' : World) : Prop :=
  match o with
  | none => e = .returned (.tuple #[.agg noOt, .bool false]) ∧ (∃ g cc, PB w' p TG As tc cs dm vm om (.slice (some ⟨g, 0, none⟩) 1 cc) ∧ W.heap.size ≤ g ∧ ∃ gs, w'.heap[g]? = some (.cells gs 34 (0, 0)) ∧ ∀ (j : Nat) u, (taskC K c)[j]? = some u → gs[j]? = some u) ∧ Kp (fun j => j = p) W w'
  | some q => e = .returned (.tuple #[.agg (ocV (some q)), .bool true]) ∧ Below W.heap.size W w'
set_option maxHeartbeats 4000000 in
theorem out_any (W : World) (p tc cs dm vm om k : Nat) (TG As Ad At : Option Addr) (cd ct : Nat) (n c K : ByteArray) (M : ByteArray → Option Value) (o : Option (Nat × Nat)) (h : PB W p TG As tc cs dm vm om (.slice none 0 0)) (hm : Mv.VMap W dm k M) (hM : M K = o.map fun q => .agg (ocV (some q))) (hK : K.size ≤ maxLen) (hA : ActSays W c K) :
    Calls Tryz.prog 203 #[.pointer (some ⟨p, 0, none⟩), .agg #[.string n, .string c, .slice Ad 0 cd, .slice At 0 ct], .slice none 0 0, .slice none 0 0] W (OutSays W p tc cs dm vm om TG As c K o) := by
  obtain ⟨W0, e0⟩ : ∃ W0, W0 = (W.alloc (.cells #[.string n, .string c, .slice Ad 0 cd, .slice At 0 ct] 122)).alloc (.cells noOt 44) := ⟨_, rfl⟩
  have B0 : Below W.heap.size W W0 := by rw [e0]; exact ((Below.refl _ _).alloc (Nat.le_refl _) _).alloc (by simp) _
  have z0 : W0.heap.size = W.heap.size + 2 := by rw [e0]; simp
  have x0 : W0.heap[W.heap.size]? = some (.cells #[.string n, .string c, .slice Ad 0 cd, .slice At 0 ct] 122 (0, 0)) := by rw [e0]; exact Lg.heap_two
  have v0 : W0.heap[W.heap.size + 1]? = some (.cells noOt 44 (0, 0)) := by rw [e0]; exact heap_alloc2_new W _ _
  have p0 : PB W0 p TG As tc cs dm vm om (.slice none 0 0) := (B0.block _ (Lg.lt_heap h)).trans h
  have m0 := hm.later B0
  have hp := Lg.lt_heap h
  have EW := Lib.hid e0
  have HZ := Lib.hid z0
  have X0 := Lib.hid x0
  have V0 := Lib.hid v0
  have HB := Lib.hid B0
  have P0 := Lib.hid p0
  have M0 := Lib.hid m0
  have HA := Lib.hid hA
  have a1 : W0.cell? ⟨W.heap.size, 1, none⟩ = some (.string c) := (cell_heap x0 1).trans rfl
  have b1 : W0.cell? ⟨p, 2, none⟩ = some (.int .i64 50) := (cell_heap p0 2).trans rfl
  have a2 : ∀ o, (W0.alloc o).cell? ⟨W.heap.size, 1, none⟩ = some (.string c) := fun o => (cell_heap ((Below.heap_alloc W0 o _ (by omega)).trans x0) 1).trans rfl
  have b2 : ∀ o, (W0.alloc o).cell? ⟨p, 2, none⟩ = some (.int .i64 50) := fun o => (cell_heap ((Below.heap_alloc W0 o _ (by omega)).trans p0) 2).trans rfl
  have K0 : Hid (∀ V : World, V.heap = W0.heap → Below W0.heap.size W0 V → Calls Tryz.prog 253 #[.string c, .slice none 0 0, .slice none 0 0, .int .i64 50] V fun e w' => e = .returned (.string K) ∧ Below W0.heap.size W0 w' ∧ w'.cell? ⟨W.heap.size, 1, none⟩ = some (.string c) ∧ w'.cell? ⟨p, 2, none⟩ = some (.int .i64 50)) := Lib.hid fun V hv hb => (hA V (B0.trans (hb.mono (by omega)))).mono fun e w' ⟨h1, h2⟩ => by
    have b := hb.trans (h2.mono (by rw [hv]; exact Nat.le_refl _))
    exact ⟨h1, b, (cell_heap ((b.block _ (by omega)).trans x0) 1).trans rfl, (cell_heap ((b.block _ (by omega)).trans p0) 2).trans rfl⟩
  have K1 : Hid (∀ V : World, V.heap = (W0.alloc (.cells #[.string ⟨#[]⟩] 9)).heap → Below W0.heap.size W0 V → Calls Tryz.prog 253 #[.string c, .slice none 0 0, .slice none 0 0, .int .i64 50] V fun e w' => e = .returned (.string K) ∧ Below W0.heap.size W0 w' ∧ w'.cell? ⟨W.heap.size, 1, none⟩ = some (.string c) ∧ w'.cell? ⟨p, 2, none⟩ = some (.int .i64 50) ∧ w'.heap[W0.heap.size]? = some (.cells #[.string ⟨#[]⟩] 9 (0, 0))) := Lib.hid fun V hv hb => (hA V (B0.trans (hb.mono (by omega)))).mono fun e w' ⟨h1, h2⟩ => by
    have hs : V.heap.size = W0.heap.size + 1 := by rw [hv]; simp
    have b := hb.trans (h2.mono (by omega))
    exact ⟨h1, b, (cell_heap ((b.block _ (by omega)).trans x0) 1).trans rfl, (cell_heap ((b.block _ (by omega)).trans p0) 2).trans rfl, (h2.block _ (by omega)).trans (by rw [hv]; exact heap_alloc_new W0 _)⟩
  have F0 : Hid (∀ w', Below W0.heap.size W0 w' → OutK W0 K w'.heap.size (w'.alloc (.cells #[.string K] 9))) := Lib.hid fun w' b => ⟨b.alloc b.size _, b.size, heap_alloc_new w' _⟩
  have F1 : Hid (∀ w', Below W0.heap.size W0 w' → w'.heap[W0.heap.size]? = some (.cells #[.string ⟨#[]⟩] 9 (0, 0)) → OutK W0 K W0.heap.size (w'.setCell ⟨W0.heap.size, 0, none⟩ (.string K))) := Lib.hid fun w' b z => ⟨b.setCell (p := ⟨W0.heap.size, 0, none⟩) (Nat.le_refl _) _, Nat.le_refl _, (heap_set z).trans rfl⟩
  clear h hm x0 e0 v0 B0 z0 p0 m0 hA
  go_enter Tryz.func203, Tryz.ntmps203
  go_upto_region 1 with (fail)
  rw [← EW.out]
  go_cut [10] from 13 to 21 (fun v10 wx => ∃ g, v10 = .pointer (some ⟨g, 0, none⟩) ∧ OutK W0 K g wx)
  case first =>
    go_region_with (first
      | (go_at_call 253; (with_reducible refine (K0.out _ ?_ ?_).mono ?_); exact rfl; exact ((Below.refl _ _).drew); rintro e w' ⟨rfl, B1, y1, y2⟩; have HB1 := Lib.hid B1; clear B1)
      | (go_at_call 253; (with_reducible refine (K1.out _ ?_ ?_).mono ?_); exact rfl; exact (((Below.refl _ _).alloc (Nat.le_refl _) _).drew); rintro e w' ⟨rfl, B1, y1, y2, z1⟩; have HB1 := Lib.hid B1; have Z1 := Lib.hid z1; have y3 := cell_heap z1 0; have y4 := frozen_heap z1 0; clear B1 z1))
    all_goals (go_wp2_with (fail); go_meet; first | exact ⟨_, rfl, F0.out _ HB1.out⟩ | exact ⟨_, rfl, F1.out _ HB1.out Z1.out⟩)
  case rest =>
    clear K0 K1 F0 F1 a2 b2 a1 b1
    obtain ⟨g, rfl, hk⟩ := hcut
    obtain ⟨W1, hW1⟩ : ∃ W1, W1 = wc := ⟨_, rfl⟩
    subst hW1
    have hs := hk.1.size
    have hz := HZ.out
    have y3 : W1.cell? ⟨p, 3, none⟩ = some (.map (some dm)) := (cell_heap ((hk.1.block _ (by omega)).trans P0.out) 3).trans rfl
    have y4 : ∀ o, (W1.alloc o).cell? ⟨p, 3, none⟩ = some (.map (some dm)) := fun o => (cell_heap ((Below.heap_alloc W1 o _ (by omega)).trans ((hk.1.block _ (by omega)).trans P0.out)) 3).trans rfl
    have hgl := Lg.lt_heap hk.2.2
    have y5 : W1.cell? ⟨g, 0, none⟩ = some (.string K) := (cell_heap hk.2.2 0).trans rfl
    have y6 : ∀ o, (W1.alloc o).cell? ⟨g, 0, none⟩ = some (.string K) := fun o => (cell_heap ((Below.heap_alloc W1 o _ hgl).trans hk.2.2) 0).trans rfl
    have m1 := M0.out.later hk.1
    have l1 := (show Mv.VMap W1.drew dm k M from m1.keep rfl).look (t := 152) (e := 44) (by kernel_rfl) (zOut _) hK
    have l2 := fun o => (show Mv.VMap (W1.alloc o).drew dm k M from m1.keep (Below.heap_alloc W1 o _ m1.lt)).look (t := 152) (e := 44) (by kernel_rfl) (zOut _) hK
    have hov : (M K).getD (.agg noOt) = .agg (ocV o) := by rw [hM]; cases o <;> rfl
    have hos : (M K).isSome = o.isSome := by rw [hM]; cases o <;> rfl
    rw [hov, hos] at l1
    simp only [hov, hos] at l2
    have HK := Lib.hid hk
    clear hk hs m1 hov hos hz
    go_wp2_with (fail)
    go_cut [11, 12] from 22 to 30 (fun v11 v12 wx => ∃ g2, v11 = .pointer (some ⟨g2, 0, none⟩) ∧ v12 = .bool o.isSome ∧ Below W1.heap.size W1 wx ∧ wx.heap[g2]? = some (.cells (ocV o) 44 (0, 0)))
    case first =>
      rcases o with _ | ⟨gf, cf⟩
      · simp only [ocV, Option.isSome_none] at l1 l2 ⊢
        go_region
        go_wp2_with (fail)
        go_meet
        exact ⟨_, rfl, rfl, ((Below.refl _ _).alloc (Nat.le_refl _) _).drew, heap_alloc_new W1 _⟩
      · simp only [ocV, Option.isSome_some] at l1 l2 ⊢
        go_region
        go_wp2_with (fail)
        go_meet
        exact ⟨_, rfl, rfl, ((Below.refl _ _).alloc (Nat.le_refl _) _).drew, heap_alloc_new W1 _⟩
    case rest =>
      clear l1 l2 y3 y4 y5 y6
      obtain ⟨g2, rfl, rfl, B2, v2⟩ := hcut
      obtain ⟨W2, hW2⟩ : ∃ W2, W2 = wc := ⟨_, rfl⟩
      subst hW2
      have hz := HZ.out
      have hk := HK.out
      have hs := hk.1.size
      have bb := hk.1.trans (B2.mono hs)
      have rb := (bb.block (W.heap.size + 1) (by omega)).trans V0.out
      rcases o with _ | ⟨gf, cf⟩
      · simp only [Option.isSome_none]
        have gl := Lg.lt_heap hk.2.2
        have hsz := bb.size
        have hs2 := B2.size
        have p2 : PB W2 p TG As tc cs dm vm om (.slice none 0 0) := (bb.block p (by omega)).trans P0.out
        have x2 := (bb.block W.heap.size (by omega)).trans X0.out
        have kg := (B2.block g gl).trans hk.2.2
        have lp : p < W2.heap.size := by omega
        have lx : W.heap.size < W2.heap.size := by omega
        have lg : g < W2.heap.size := by omega
        have y6 : W2.cell? ⟨p, 6, none⟩ = some (.slice none 0 0) := (cell_heap p2 6).trans rfl
        have y2 : W2.cell? ⟨p, 2, none⟩ = some (.int .i64 50) := (cell_heap p2 2).trans rfl
        have t1 : W2.cell? ⟨W.heap.size, 1, none⟩ = some (.string c) := (cell_heap x2 1).trans rfl
        have k0 : W2.cell? ⟨g, 0, none⟩ = some (.string K) := (cell_heap kg 0).trans rfl
        have y6a : ∀ o, (W2.alloc o).cell? ⟨p, 6, none⟩ = some (.slice none 0 0) := fun o => (cell_heap ((Below.heap_alloc W2 o _ lp).trans p2) 6).trans rfl
        have y2a : ∀ o, (W2.alloc o).cell? ⟨p, 2, none⟩ = some (.int .i64 50) := fun o => (cell_heap ((Below.heap_alloc W2 o _ lp).trans p2) 2).trans rfl
        have t1a : ∀ o, (W2.alloc o).cell? ⟨W.heap.size, 1, none⟩ = some (.string c) := fun o => (cell_heap ((Below.heap_alloc W2 o _ lx).trans x2) 1).trans rfl
        have k0a : ∀ o, (W2.alloc o).cell? ⟨g, 0, none⟩ = some (.string K) := fun o => (cell_heap ((Below.heap_alloc W2 o _ lg).trans kg) 0).trans rfl
        have FN : Hid (∀ o w4 v', (W2.alloc o).drew.grownBy w4 none → w4.ownsRow W2.heap.size 34 6 v' 1 (taskC K c) → w4.cell? ⟨p, 6, none⟩ = some (.slice none 0 0) ∧ w4.frozen? ⟨p, 6, none⟩ = false ∧ (w4.cell? ⟨p, 2, none⟩ = some (.int .i64 50) ∧ w4.cell? ⟨W.heap.size, 1, none⟩ = some (.string c) ∧ w4.cell? ⟨g, 0, none⟩ = some (.string K)) ∧ ∃ g3 c3, v' = .slice (some ⟨g3, 0, none⟩) 1 c3 ∧ ((w4.setCell ⟨p, 6, none⟩ (.slice (some ⟨g3, 0, none⟩) 1 c3)).cell? ⟨p, 2, none⟩ = some (.int .i64 50) ∧ (w4.setCell ⟨p, 6, none⟩ (.slice (some ⟨g3, 0, none⟩) 1 c3)).cell? ⟨W.heap.size, 1, none⟩ = some (.string c) ∧ (w4.setCell ⟨p, 6, none⟩ (.slice (some ⟨g3, 0, none⟩) 1 c3)).cell? ⟨g, 0, none⟩ = some (.string K)) ∧ OutT W p tc cs dm vm om TG As c K (w4.setCell ⟨p, 6, none⟩ (.slice (some ⟨g3, 0, none⟩) 1 c3))) := Lib.hid fun o w4 v' hg ho => by
          have hb : ∀ j, j < W2.heap.size → w4.heap[j]? = W2.heap[j]? := fun j hj => (hg.block j (by simp; omega) (fun e => by cases e)).trans (Below.heap_alloc W2 o _ hj)
          have p4 : PB w4 p TG As tc cs dm vm om (.slice none 0 0) := (hb _ lp).trans p2
          obtain ⟨g3, c3, gs, rfl, h1, h2, h3, h4, h5⟩ := own_one ho
          have hne : g3 ≠ p := by omega
          have hgW : W0.heap.size ≤ g := hk.2.1
          have k4 : Kp (fun j => j = p) W w4 := ((Kp.of_below ((HB.out.trans (bb.mono (by omega))).trans (((Below.refl W2.heap.size W2).alloc (Nat.le_refl _) o).mono (by omega)))).drew).grown hg (fun j e => by cases e)
          have q1 : w4.cell? ⟨p, 2, none⟩ = some (.int .i64 50) := (cell_heap p4 2).trans rfl
          have q2 : w4.cell? ⟨W.heap.size, 1, none⟩ = some (.string c) := (cell_heap ((hb _ lx).trans x2) 1).trans rfl
          have q3 : w4.cell? ⟨g, 0, none⟩ = some (.string K) := (cell_heap ((hb _ lg).trans kg) 0).trans rfl
          refine ⟨(cell_heap p4 6).trans rfl, frozen_heap p4 6, ⟨q1, q2, q3⟩, g3, c3, rfl, ⟨?_, ?_, ?_⟩, ⟨g3, c3, (heap_set p4).trans rfl, by omega, gs, (heap_set_ne (fun e => hne e.symm)).trans h1, h2⟩, k4.setCell (p := ⟨p, 6, none⟩) rfl _, (heap_set_ne (by omega)).trans ((hb _ (by omega)).trans rb)⟩
          · exact (World.cell?_setCell_other _ _ _ _ (by intro e; injection e with e1 e2; omega)).trans q1
          · exact (World.cell?_setCell_other _ _ _ _ (by intro e; injection e with e1 e2; omega)).trans q2
          · exact (World.cell?_setCell_other _ _ _ _ (by intro e; injection e with e1 e2; omega)).trans q3
        have kS0 : W2.drew.cell? ⟨p, 2, none⟩ = some (.int .i64 50) ∧ W2.drew.cell? ⟨W.heap.size, 1, none⟩ = some (.string c) ∧ W2.drew.cell? ⟨g, 0, none⟩ = some (.string K) := ⟨y2, t1, k0⟩
        have kSA : ∀ o, (W2.alloc o).drew.cell? ⟨p, 2, none⟩ = some (.int .i64 50) ∧ (W2.alloc o).drew.cell? ⟨W.heap.size, 1, none⟩ = some (.string c) ∧ (W2.alloc o).drew.cell? ⟨g, 0, none⟩ = some (.string K) := fun o => ⟨y2a o, t1a o, k0a o⟩
        have kSB : ∀ o, (W2.drew.alloc o).cell? ⟨p, 2, none⟩ = some (.int .i64 50) ∧ (W2.drew.alloc o).cell? ⟨W.heap.size, 1, none⟩ = some (.string c) ∧ (W2.drew.alloc o).cell? ⟨g, 0, none⟩ = some (.string K) := fun o => ⟨y2a o, t1a o, k0a o⟩
        obtain ⟨i0, hi, hz0, hz1, hz2⟩ := info_parts infoTask
        have hzs : (Value.agg #[.string ⟨#[]⟩, .int .i64 0, .string ⟨#[]⟩, .slice none 0 0, .slice none 0 0, .int .i64 0]).cells.size = 6 := rfl
        clear p2 x2 kg rb bb hk B2 v2 hs hz hsz hs2 gl
        go_wp2_with (go_at_call 254; (with_reducible refine (contains_nil _ _).mono ?_); rintro e w' ⟨rfl, rfl⟩)
        go_cut [] from 40 to 59 (fun wx => OutT W p tc cs dm vm om TG As c K wx)
        case first =>
          rw [ldq_eq 95 (.tmp 43)]
          go_region_held3 (fun V => V.cell? ⟨p, 2, none⟩ = some (.int .i64 50) ∧ V.cell? ⟨W.heap.size, 1, none⟩ = some (.string c) ∧ V.cell? ⟨g, 0, none⟩ = some (.string K)) (first | (with_reducible exact kS0) | (with_reducible exact kSA _) | (with_reducible exact kSB _) | (with_reducible exact kS4) | (with_reducible exact kS5) | go_keep) (first
            | (refine step_append_any _ rfl (.tmp 44) (.tmp 56) _ rfl W2.heap.size 34 i0 _ 6 96 Tryz.underlying95 hi hz0 hz1 hz2 hzs (by omega) (.slice none 0 0) 0 [] rfl (World.ownsRow_nil _ _ _ _) _ (some ⟨W2.heap.size, 0, none⟩) 1 1 (taskC K c) rfl (reads_one (heap_alloc_new W2 _) rfl) (task_cells K c) (by simp only [maxLen]; omega) (by omega) (by simp) ?_; intro v' w4 hown hgr hat; obtain ⟨u1, u2, kS4, g3, c3, rfl, kS5, hQ⟩ := FN.out _ w4 v' hgr hown; have HQ := Lib.hid hQ; clear hown hgr hat hQ)
            | (go_at_call 256; (with_reducible refine (clone_nil _).mono ?_); rintro e w' ⟨rfl, rfl⟩))
          all_goals
            go_wp2_with (fail)
            go_meet
            exact HQ.out
        case rest =>
          obtain ⟨hrow, hkp, hres⟩ := hcut
          obtain ⟨a0, a1, a2, b0, b1, b2, c0, c1, c2, d0, d1, d2, e0, e1, e2, f0, f1, f2⟩ := out_facts hres
          have FIN : Hid (OutSays W p tc cs dm vm om TG As c K none (.returned (.tuple #[.agg noOt, .bool false])) wc) := Lib.hid ⟨rfl, hrow, hkp⟩
          have RS := Lib.hid hres
          clear hrow hkp hres FN
          go_wp2_with (fail)
          refine bodyPost_ret_by (Lg.results_cell_row2 rfl _ _ (W.heap.size + 1) 44 _ (0, 0) _ rfl RS.out rfl rfl (by kernel_rfl)) rfl ?_
          exact FIN.out
      · simp only [ocV, Option.isSome_some] at v2 ⊢
        have d0 : W2.cell? ⟨g2, 0, none⟩ = some (.int .i64 1) := (cell_heap v2 0).trans rfl
        have d1 : W2.cell? ⟨g2, 1, none⟩ = some (.slice (some ⟨gf, 0, none⟩) 1 cf) := (cell_heap v2 1).trans rfl
        have d2 : W2.cell? ⟨g2, 2, none⟩ = some (.string ⟨#[]⟩) := (cell_heap v2 2).trans rfl
        have d3 : W2.cell? ⟨g2, 3, none⟩ = some (.int .i64 0) := (cell_heap v2 3).trans rfl
        have d4 : W2.cell? ⟨g2, 4, none⟩ = some (.string ⟨#[]⟩) := (cell_heap v2 4).trans rfl
        have d5 : W2.cell? ⟨g2, 5, none⟩ = some (.int .i64 2) := (cell_heap v2 5).trans rfl
        have r0 : W2.cell? ⟨W.heap.size + 1, 0, none⟩ = some (.int .i64 0) := (cell_heap rb 0).trans rfl
        have r1 : W2.cell? ⟨W.heap.size + 1, 1, none⟩ = some (.slice none 0 0) := (cell_heap rb 1).trans rfl
        have r2 : W2.cell? ⟨W.heap.size + 1, 2, none⟩ = some (.string ⟨#[]⟩) := (cell_heap rb 2).trans rfl
        have r3 : W2.cell? ⟨W.heap.size + 1, 3, none⟩ = some (.int .i64 0) := (cell_heap rb 3).trans rfl
        have r4 : W2.cell? ⟨W.heap.size + 1, 4, none⟩ = some (.string ⟨#[]⟩) := (cell_heap rb 4).trans rfl
        have r5 : W2.cell? ⟨W.heap.size + 1, 5, none⟩ = some (.int .i64 0) := (cell_heap rb 5).trans rfl
        have s0 := frozen_heap rb 0
        have s1 := frozen_heap rb 1
        have s2 := frozen_heap rb 2
        have s3 := frozen_heap rb 3
        have s4 := frozen_heap rb 4
        have s5 := frozen_heap rb 5
        have FIN : Hid (OutSays W p tc cs dm vm om TG As c K (some (gf, cf)) (.returned (.tuple #[.agg (ocV (some (gf, cf))), .bool true])) ((((((W2.setCell ⟨W.heap.size + 1, 0, none⟩ (.int .i64 1)).setCell ⟨W.heap.size + 1, 1, none⟩ (.slice (some ⟨gf, 0, none⟩) 1 cf)).setCell ⟨W.heap.size + 1, 2, none⟩ (.string ⟨#[]⟩)).setCell ⟨W.heap.size + 1, 3, none⟩ (.int .i64 0)).setCell ⟨W.heap.size + 1, 4, none⟩ (.string ⟨#[]⟩)).setCell ⟨W.heap.size + 1, 5, none⟩ (.int .i64 2))) := Lib.hid ⟨rfl, below6 (HB.out.trans (bb.mono (by omega))) (by omega) _ _ _ _ _ _⟩
        have RB := Lib.hid rb
        clear v2 rb bb hs hk hz B2
        go_wp2_with (fail)
        refine bodyPost_ret_by (Lg.results_cell_row2 rfl _ _ (W.heap.size + 1) 44 _ (0, 0) _ rfl (set6' RB.out _ _ _ _ _ _) rfl rfl (by kernel_rfl)) rfl ?_
        exact FIN.out
end Go.Proofs.YtifiipmmgnmciaaGreatDoor.Sv
/- SvFresh, what a claim needs of it (prune.py). -/
namespace Go.Proofs.YtifiipmmgnmciaaGreatDoor.Sv
open Go.RowKit Go.Maps
open Dk (Kp)
set_option linter.unusedVariables false
set_option maxRecDepth 100000
abbrev lateV : Array Value := #[.int .i64 0, .string ⟨#[]⟩, .string ⟨#[]⟩, .slice none 0 0, .bool true]
abbrev gotV (gf cf : Nat) : Array Value := #[.int .i64 0, .string ⟨#[]⟩, .string ⟨#[]⟩, .slice (some ⟨gf, 0, none⟩) 1 cf, .bool false]
def TaskAt (W : World) (p tc cs dm vm om : Nat) (TG As : Option Addr) (c K : ByteArray) (w' : World) : Prop := ∃ g cc, PB w' p TG As tc cs dm vm om (.slice (some ⟨g, 0, none⟩) 1 cc) ∧ W.heap.size ≤ g ∧ ∃ gs, w'.heap[g]? = some (.cells gs 34 (0, 0)) ∧ ∀ (j : Nat) u, (taskC K c)[j]? = some u → gs[j]? = some u
theorem TaskAt.keep {W w w' : World} {p tc cs dm vm om : Nat} {TG As : Option Addr} {c K : ByteArray} (h : TaskAt W p tc cs dm vm om TG As c K w) (hb : Below w.heap.size w w') : TaskAt W p tc cs dm vm om TG As c K w' := by
  obtain ⟨g, cc, h1, h2, gs, h3, h4⟩ := h
  exact ⟨g, cc, (hb.block _ (Lg.lt_heap h1)).trans h1, h2, gs, (hb.block _ (Lg.lt_heap h3)).trans h3, h4⟩
theorem TaskAt.set1 {W w : World} {p tc cs dm vm om b : Nat} {TG As : Option Addr} {c K : ByteArray} (h : TaskAt W p tc cs dm vm om TG As c K w) (hp : b ≠ p) (hT : ∃ cs' T, w.heap[b]? = some (.cells cs' T (0, 0)) ∧ T ≠ 34) (j : Nat) (v : Value) : TaskAt W p tc cs dm vm om TG As c K (w.setCell ⟨b, j, none⟩ v) := by
  obtain ⟨g, cc, h1, h2, gs, h3, h4⟩ := h
  obtain ⟨cs', T, ht, hne⟩ := hT
  have hg : b ≠ g := by rintro rfl; rw [ht] at h3; injection h3 with h3; injection h3 with _ h3; exact hne h3
  exact ⟨g, cc, (heap_set_ne hp).trans h1, h2, gs, (heap_set_ne hg).trans h3, h4⟩
def FreshSays (W : World) (p tc cs dm vm om : Nat) (TG As : Option Addr) (c K : ByteArray) (o : Option (Nat × Nat)) (e : Ending) (w' : World) : Prop :=
  match o with
  | none => e = .returned (.agg lateV) ∧ TaskAt W p tc cs dm vm om TG As c K w' ∧ Kp (fun j => j = p) W w'
  | some (gf, cf) => e = .returned (.agg (gotV gf cf)) ∧ Below W.heap.size W w'
set_option maxHeartbeats 2000000 in
theorem fresh_any (W : World) (p tc cs dm vm om k : Nat) (TG As Ad At : Option Addr) (cd ct : Nat) (n c K : ByteArray) (M : ByteArray → Option Value) (o : Option (Nat × Nat)) (h : PB W p TG As tc cs dm vm om (.slice none 0 0)) (hm : Mv.VMap W dm k M) (hM : M K = o.map fun q => .agg (ocV (some q))) (hK : K.size ≤ maxLen) (hA : ActSays W c K) :
    Calls Tryz.prog 144 #[.pointer (some ⟨p, 0, none⟩), .agg #[.string n, .string c, .slice Ad 0 cd, .slice At 0 ct]] W (FreshSays W p tc cs dm vm om TG As c K o) := by
  obtain ⟨W0, e0⟩ : ∃ W0, W0 = (W.alloc (.cells #[.string n, .string c, .slice Ad 0 cd, .slice At 0 ct] 122)).alloc (.cells noVal 162) := ⟨_, rfl⟩
  have B0 : Below W.heap.size W W0 := by rw [e0]; exact ((Below.refl _ _).alloc (Nat.le_refl _) _).alloc (by simp) _
  have z0 : W0.heap.size = W.heap.size + 2 := by rw [e0]; simp
  have x0 : W0.heap[W.heap.size]? = some (.cells #[.string n, .string c, .slice Ad 0 cd, .slice At 0 ct] 122 (0, 0)) := by rw [e0]; exact Lg.heap_two
  have v0 : W0.heap[W.heap.size + 1]? = some (.cells noVal 162 (0, 0)) := by rw [e0]; exact heap_alloc2_new W _ _
  have hp := Lg.lt_heap h
  have c0 : W0.cell? ⟨W.heap.size, 0, none⟩ = some (.string n) := (cell_heap x0 0).trans rfl
  have c1 : W0.cell? ⟨W.heap.size, 1, none⟩ = some (.string c) := (cell_heap x0 1).trans rfl
  have c2 : W0.cell? ⟨W.heap.size, 2, none⟩ = some (.slice Ad 0 cd) := (cell_heap x0 2).trans rfl
  have c3 : W0.cell? ⟨W.heap.size, 3, none⟩ = some (.slice At 0 ct) := (cell_heap x0 3).trans rfl
  have HZ := Lib.hid z0
  have X0 := Lib.hid x0
  have HB := Lib.hid B0
  have EW := Lib.hid e0
  have V0 := Lib.hid v0
  have H := Lib.hid h
  have HM := Lib.hid hm
  have HA := Lib.hid hA
  clear x0 e0 v0 B0 z0 h hm hA
  go_enter Tryz.func144, Tryz.ntmps144
  go_upto_region 1 with (fail)
  rw [← EW.out]
  go_wp2_with (fail)
  go_at_call 201
  (with_reducible refine (inputs_none _ _ _ _ _ _ _ _).mono ?_)
  rintro e W1 ⟨rfl, B1⟩
  have b1 := HB.out.trans (B1.mono (by rw [HZ.out]; omega))
  have hs1 : W.heap.size + 2 ≤ W1.heap.size := by have := B1.size; rw [HZ.out] at this; exact this
  obtain ⟨p0, p1, p2, p3, p4, p5, p6, p7, p8, p9, p10, p11, p12, p13, p14⟩ := val_facts (heap_alloc_new W1 (.cells noVal 162))
  have u1 := (B1.block (W.heap.size + 1) (by rw [HZ.out]; omega)).trans V0.out
  have t1 := (B1.block W.heap.size (by rw [HZ.out]; omega)).trans X0.out
  have HB1 := Lib.hid b1
  have HS1 := Lib.hid hs1
  have U1 := Lib.hid u1
  have T1 := Lib.hid t1
  clear b1 hs1 u1 t1 B1
  go_wp2_with (fail)
  go_at_call 202
  (with_reducible refine (over_no _ _ _ _).mono ?_)
  rintro e W2 ⟨rfl, B2⟩
  have hs := HS1.out
  have t2 := (B2.block W.heap.size (by simp; omega)).trans ((Below.heap_alloc W1 (.cells noVal 162) W.heap.size (by omega)).trans T1.out)
  have u2 := (B2.block (W.heap.size + 1) (by simp; omega)).trans ((Below.heap_alloc W1 (.cells noVal 162) (W.heap.size + 1) (by omega)).trans U1.out)
  have b2 : Below W.heap.size W W2 := HB1.out.trans (((Below.refl _ _).alloc (by omega) _).trans (B2.mono (by simp; omega)))
  have hs2 : W.heap.size + 2 ≤ W2.heap.size := by have := B2.size; simp at this; omega
  have c0 : W2.cell? ⟨W.heap.size, 0, none⟩ = some (.string n) := (cell_heap t2 0).trans rfl
  have c1 : W2.cell? ⟨W.heap.size, 1, none⟩ = some (.string c) := (cell_heap t2 1).trans rfl
  have c2 : W2.cell? ⟨W.heap.size, 2, none⟩ = some (.slice Ad 0 cd) := (cell_heap t2 2).trans rfl
  have c3 : W2.cell? ⟨W.heap.size, 3, none⟩ = some (.slice At 0 ct) := (cell_heap t2 3).trans rfl
  have h2 : PB W2 p TG As tc cs dm vm om (.slice none 0 0) := (b2.block _ hp).trans H.out
  have m2 := HM.out.later b2
  have OU := Lib.hid (out_any W2 p tc cs dm vm om k TG As Ad At cd ct n c K M o h2 m2 hM hK (fun V hV => HA.out V (b2.trans (hV.mono (by omega)))))
  have HB2 := Lib.hid b2
  have HS2 := Lib.hid hs2
  have U2 := Lib.hid u2
  clear p0 p1 p2 p3 p4 p5 p6 p7 p8 p9 p10 p11 p12 p13 p14 B2 hs hs2 t2 u2 b2 h2 m2
  go_wp2_with (fail)
  go_loopw [5, 7] (fun v5 v7 wr => v5 = .slice none 0 0 ∧ v7 = .slice none 0 0 ∧ wr = W2) (fun _ _ _ => 0)
  case atStart => exact ⟨rfl, rfl, rfl⟩
  case round =>
    obtain ⟨rfl, rfl, rfl⟩ := hrel
    go_wp2_with (fail)
    rcases o with _ | ⟨gf, cf⟩
    · go_at_call 203
      (with_reducible refine (OU.out).mono ?_)
      rintro e w3 ⟨rfl, hrow, hkp⟩
      have hs := HS2.out
      have u3 := (hkp.block (W.heap.size + 1) (by omega) (by omega)).trans U2.out
      have t3 : TaskAt W p tc cs dm vm om TG As c K w3 := by
        obtain ⟨g, cc, q1, q2, q3⟩ := hrow
        exact ⟨g, cc, q1, Nat.le_trans (Nat.le_of_lt (by omega)) q2, q3⟩
      have k3 : Kp (fun j => j = p) W w3 := (Kp.of_below HB2.out).trans hkp
      have s3 : W.heap.size + 2 ≤ w3.heap.size := Nat.le_trans hs hkp.size
      have T3 := Lib.hid t3
      have K3 := Lib.hid k3
      have S3 := Lib.hid s3
      have U3 := Lib.hid u3
      clear hrow hkp hs u3 t3 k3 s3 c0 c1 c2 c3
      go_wp2_with (fail)
      go_at_call 204
      (with_reducible refine (late_any _).mono ?_)
      rintro e w4 ⟨rfl, B4⟩
      have hs := S3.out
      have ha : (w3.alloc (.cells noOt 44)).heap.size = w3.heap.size + 1 := by simp
      have u4 := (B4.block (W.heap.size + 1) (by rw [ha]; omega)).trans ((Below.heap_alloc w3 (.cells noOt 44) (W.heap.size + 1) (by omega)).trans U3.out)
      have b4 : Below w3.heap.size w3 w4 := ((Below.refl _ _).alloc (Nat.le_refl _) _).trans (B4.mono (by rw [ha]; omega))
      have t4 := T3.out.keep b4
      have k4 := K3.out.then b4
      obtain ⟨p0, p1, p2, p3, p4, p5, p6, p7, p8, p9, p10, p11, p12, p13, p14⟩ := val_facts u4
      have FIN : Hid (FreshSays W p tc cs dm vm om TG As c K none (.returned (.agg lateV)) (w4.setCell ⟨W.heap.size + 1, 4, none⟩ (.bool true))) := Lib.hid ⟨rfl, t4.set1 (by omega) ⟨_, _, u4, by decide⟩ 4 (.bool true), k4.setNew (p := ⟨W.heap.size + 1, 4, none⟩) (by show W.heap.size ≤ W.heap.size + 1; omega) _⟩
      have U4 := Lib.hid u4
      clear hs ha u4 b4 t4 k4 B4
      go_wp2_with (fail)
      refine bodyPost_ret_by (results_row1 rfl _ _ (W.heap.size + 1) _ _ (0, 0) _ rfl ((heap_set U4.out).trans rfl) rfl rfl (by kernel_rfl)) rfl ?_
      exact FIN.out
    · go_at_call 203
      (with_reducible refine (OU.out).mono ?_)
      rintro e w3 ⟨rfl, B3⟩
      simp only [ocV]
      have hs := HS2.out
      have u3 := (B3.block (W.heap.size + 1) (by omega)).trans U2.out
      have b3 : Below W.heap.size W w3 := HB2.out.trans (B3.mono (by omega))
      have s3 : W.heap.size + 2 ≤ w3.heap.size := Nat.le_trans hs B3.size
      have S3 := Lib.hid s3
      have B3' := Lib.hid b3
      have U3 := Lib.hid u3
      obtain ⟨p0, p1, p2, p3, p4, p5, p6, p7, p8, p9, p10, p11, p12, p13, p14⟩ := val_facts ((Below.heap_alloc w3 (.cells (ocV (some (gf, cf))) 44) (W.heap.size + 1) (by omega)).trans u3)
      simp only [ocV] at p0 p1 p2 p3 p4 p5 p6 p7 p8 p9 p10 p11 p12 p13 p14
      clear B3 hs u3 b3 s3 c0 c1 c2 c3
      go_wp2_with (fail)
      refine bodyPost_ret_by (results_row1 rfl _ _ (W.heap.size + 1) _ _ (0, 0) _ rfl ((heap_set (heap_set ((Below.heap_alloc w3 _ (W.heap.size + 1) (by have := S3.out; omega)).trans U3.out))).trans rfl) rfl rfl (by kernel_rfl)) rfl ?_
      exact ⟨rfl, ((B3'.out.alloc (by have := S3.out; omega) _).setCell (p := ⟨W.heap.size + 1, 3, none⟩) (by show W.heap.size ≤ W.heap.size + 1; omega) _).setCell (p := ⟨W.heap.size + 1, 4, none⟩) (by show W.heap.size ≤ W.heap.size + 1; omega) _⟩
end Go.Proofs.YtifiipmmgnmciaaGreatDoor.Sv
/- SvEnt, what a claim needs of it (prune.py). -/
namespace Go.Proofs.YtifiipmmgnmciaaGreatDoor.Sv
open Go.RowKit Go.Maps
open Dk (Kp)
set_option linter.unusedVariables false
set_option maxRecDepth 100000
theorem kp_block {V : World} {m : Nat} {o : Obj} (h : m < V.heap.size) : Kp (fun k => k = m) V (Go.ChangeMaps.setBlock V m o) :=
  ⟨rfl, rfl, rfl, by simp [Go.ChangeMaps.setBlock], fun k hk hne => by simp only [Go.ChangeMaps.setBlock]; rw [Array.getElem?_setIfInBounds_ne (fun e => hne e.symm)]⟩
theorem block_new {V : World} {m : Nat} {o : Obj} (h : m < V.heap.size) : (Go.ChangeMaps.setBlock V m o).heap[m]? = some o := by
  simp only [Go.ChangeMaps.setBlock]
  rw [Array.getElem?_setIfInBounds_self_of_lt h]
theorem entry_two {V : World} {m n : Nat} {f : ByteArray → Option Value} (h : Mv.VMap V m n f) {t e : TypeId} (ht : Tryz.prog.underlying t = some (.map 9 e)) {z : Value} (hz : ∀ u : World, (zeroValue e).run Tryz.prog u = .ok z u) {s : ByteArray} (hs : s.size ≤ maxLen) :
    ∃ (a : Value) (st : Nat) (V1 : World), (Instr.mapEntry t (.map (some m)) (.string s)).run Tryz.prog V = .ok (.tuple #[a, .int .i64 (st : Int)]) V1 ∧ Kp (fun k => k = m) V V1 ∧
      ∀ (V' : World) (val : Value), V'.heap[m]? = V1.heap[m]? → ∃ V2, (Instr.entryStore t (.map (some m)) (.int .i64 (st : Int)) val).run Tryz.prog V' = .ok () V2 ∧ Kp (fun k => k = m) V' V2 := by
  have hl := h.lt
  obtain ⟨D, ⟨es, cl, h1, h2, h3, h4⟩, _⟩ := h
  obtain ⟨v0, st, es1, cl1, hrun, _, hst⟩ := Go.WideElems.entry_then_store (WideMaps.string_law Tryz.underlying9) ht hz h1 h2 (Mv.kof hs)
  refine ⟨v0, st, _, hrun, kp_block hl, fun V' val hV => ?_⟩
  rw [block_new hl] at hV
  obtain ⟨es', cl', hr, _⟩ := hst V' val hV
  exact ⟨_, hr, kp_block (Lg.lt_heap hV)⟩
end Go.Proofs.YtifiipmmgnmciaaGreatDoor.Sv
/- SvBackD, what a claim needs of it (prune.py). -/
namespace Go.Proofs.YtifiipmmgnmciaaGreatDoor.Sv
open Go.RowKit Go.Maps Go.Shelf
open Dk (Kp)
set_option linter.unusedVariables false
set_option maxRecDepth 100000
structure KpN (n₀ m : Nat) (W W' : World) : Prop where
  size : W.heap.size ≤ W'.heap.size
  block : ∀ b, b < n₀ → b ≠ m → W'.heap[b]? = W.heap[b]?
theorem KpN.trans {n₀ m : Nat} {A B C : World} (h : KpN n₀ m A B) (k : KpN n₀ m B C) : KpN n₀ m A C := ⟨Nat.le_trans h.size k.size, fun b h1 h2 => (k.block b h1 h2).trans (h.block b h1 h2)⟩
theorem KpN.put {n₀ m : Nat} {w : World} (hn : n₀ ≤ w.heap.size) (W : World) (l : Nat) (o o' : Obj) (hl : w.heap.size ≤ l) (h : W.heap[l]? = some o) (_ : o.isCells = false) (_ : o.isWalk = false) : KpN n₀ m W (W.putObj l o') := by
  have hg := grownBy_putObj' W l o'
  exact ⟨hg.size, fun b h1 h2 => hg.block b (by have := (Array.getElem?_eq_some_iff.1 h).1; omega) (fun e => by injection e with e; omega)⟩
abbrev doneC (K : ByteArray) (gf cf : Nat) : Array Value := #[.string K, .int .i64 1, .slice (some ⟨gf, 0, none⟩) 1 cf, .string ⟨#[]⟩, .int .i64 0, .string ⟨#[]⟩, .int .i64 2]
set_option maxHeartbeats 1000000 in
theorem backwardD_in (F : Fence) (n : Nat) (hF : F.fn 70) (hro : F.round = none) (a : Option Addr) (len cap : Nat) (w : World) :
    CallsIn F n Tryz.prog 70 #[.slice a len cap] w fun e w' => e = .returned (.func (.func 142) #[] #[.pointer (some ⟨w.heap.size, 0, none⟩)]) ∧ w' = w.alloc (.cells #[.slice a len cap] 98) := by
  refine callsIn_of_wp Tryz.func70 rfl hF ?_ hro
  simp only [Tryz.ntmps70, List.size_toArray, List.length_cons, List.length_nil, Nat.reduceAdd, Nat.reduceSub, Array.replicate_succ, Array.replicate_zero, List.push_toArray, List.append_toArray, List.nil_append, List.cons_append]
  gi_wp2
  go_ret
  exact ⟨rfl, rfl⟩
set_option maxHeartbeats 2000000 in
theorem backD_nil (F : Fence) (n : Nat) (hF : F.fn 142) (hro : F.round = none) (Bs : Nat) (w : World) (hBs : Bs < w.heap.size) (hc : w.cell? ⟨Bs, 0, none⟩ = some (.slice none 0 0)) :
    SeqStopsK F n Tryz.prog 142 #[.pointer (some ⟨Bs, 0, none⟩)] (fun x : Empty => #[.int .i64 0, .int .i64 0]) (Below w.heap.size) (fun ys => ys = []) (fun pre => False) 0 w := fun l J Jx W hW _ _ hY h0 => by
  have hc' := (hW.cell (p := ⟨Bs, 0, none⟩) hBs).trans hc
  refine callsIn_of_wp Tryz.func142 rfl hF ?_ hro
  simp only [Tryz.ntmps142, List.size_toArray, List.length_cons, List.length_nil, Nat.reduceAdd, Nat.reduceSub, Array.replicate_succ, Array.replicate_zero, List.push_toArray, List.append_toArray, List.nil_append, List.cons_append]
  gi_wp2
  gi_loopw [3] (fun i wr => i = .int .i64 (-1) ∧ J [] wr) (fun _ _ => 0)
  case atStart => exact ⟨rfl, h0⟩
  case round =>
    obtain ⟨rfl, hJs⟩ := hrel
    gi_wp2
    go_end0
    exact ⟨⟨_, rfl⟩, .inl ⟨_, rfl, hJs⟩⟩
set_option maxHeartbeats 2000000 in
theorem backD_one (F : Fence) (n : Nat) (hF : F.fn 142) (hro : F.round = none) (hn : 1 ≤ n) (Bs gd cap gf cf : Nat) (K : ByteArray) (w : World) (hBs : Bs < w.heap.size) (hc : w.cell? ⟨Bs, 0, none⟩ = some (.slice (some ⟨gd, 0, none⟩) 1 cap)) (hgd : gd < w.heap.size) (hrow : ∀ (j : Nat) v, (doneC K gf cf)[j]? = some v → w.cell? ⟨gd, j, none⟩ = some v) (mm : Nat) (hgm : gd ≠ mm) (hBm : Bs ≠ mm) :
    SeqStopsK F n Tryz.prog 142 #[.pointer (some ⟨Bs, 0, none⟩)] (fun x : Unit => #[.int .i64 0, .agg (doneC K gf cf)]) (KpN w.heap.size mm) (fun ys => ys = [()]) (fun pre => pre = [()]) 1 w := fun l J Jx W hW _ _ hY h0 => by
  have hc' := (hW.cell (p := ⟨Bs, 0, none⟩) hBs).trans hc
  have r0 := (hW.cell (p := ⟨gd, 0, none⟩) hgd).trans (hrow 0 _ rfl)
  have r1 := (hW.cell (p := ⟨gd, 1, none⟩) hgd).trans (hrow 1 _ rfl)
  have r2 := (hW.cell (p := ⟨gd, 2, none⟩) hgd).trans (hrow 2 _ rfl)
  have r3 := (hW.cell (p := ⟨gd, 3, none⟩) hgd).trans (hrow 3 _ rfl)
  have r4 := (hW.cell (p := ⟨gd, 4, none⟩) hgd).trans (hrow 4 _ rfl)
  have r5 := (hW.cell (p := ⟨gd, 5, none⟩) hgd).trans (hrow 5 _ rfl)
  have r6 := (hW.cell (p := ⟨gd, 6, none⟩) hgd).trans (hrow 6 _ rfl)
  refine callsIn_of_wp Tryz.func142 rfl hF ?_ hro
  simp only [Tryz.ntmps142, List.size_toArray, List.length_cons, List.length_nil, Nat.reduceAdd, Nat.reduceSub, Array.replicate_succ, Array.replicate_zero, List.push_toArray, List.append_toArray, List.nil_append, List.cons_append]
  gi_wp2
  gi_loopw [3] (fun i wr => (i = .int .i64 0 ∧ J [] wr ∧ wr = W) ∨ (i = .int .i64 (-1) ∧ J [()] wr)) (fun i _ => (intOf i + 1).toNat)
  case atStart => exact .inl ⟨rfl, h0, rfl⟩
  case round =>
    rcases hrel with ⟨rfl, hJs, rfl⟩ | ⟨rfl, hJs⟩
    · obtain ⟨fn, tmps, assign, body, hy, hR⟩ := hY [] () wr hJs (by decide)
      gi_wp2
      refine hR.mono ?_
      rintro e W3 (⟨rfl, hJ3, hk3⟩ | ⟨rfl, hJx3⟩)
      · gi_wp2
        go_roundw
        case rel => exact .inr ⟨rfl, hJ3⟩
        case measure => first | (simp [intOf]; done) | (simp [intOf]; omega)
      · gi_wp2
        refine bodyPost_ret (results_none rfl _ _ _) rfl ?_
        exact ⟨⟨_, rfl⟩, .inr ⟨_, rfl, hJx3⟩⟩
    · gi_wp2
      go_end0
      exact ⟨⟨_, rfl⟩, .inl ⟨_, rfl, hJs⟩⟩
end Go.Proofs.YtifiipmmgnmciaaGreatDoor.Sv
