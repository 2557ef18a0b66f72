/- Joined by mkmerged.py: SvGoesK, SvNextS. -/
import Derived.Test.YtifiipmmgnmciaaGreatDoorMi35
import Derived.Test.YtifiipmmgnmciaaGreatDoorMi30
/- SvGoesK, what a claim needs of it (prune.py). -/
namespace Go.Proofs.YtifiipmmgnmciaaGreatDoor.Sv
open Go.RowKit Go.Maps
open Dk (Kp)
set_option linter.unusedVariables false
set_option maxRecDepth 100000
def RowD (K : ByteArray) (gf cf : Nat) (V : World) (gd : Nat) : Prop := gd < V.heap.size ∧ ∀ (j : Nat) v, (doneC K gf cf)[j]? = some v → V.cell? ⟨gd, j, none⟩ = some v
set_option maxHeartbeats 4000000 in
theorem goes_known (R : World → Prop) (W : World) (sc bs bo cb mc mk th gf cf : Nat) (K n go : ByteArray) (Ag Af : Option Addr) (cg cf2 : Nat) (at_ tx : ByteArray) (Ar : Option Addr) (lr cr : Nat) (st er clock : Int) (h : SB W bs bo sc cb mk clock) (hcb : cb < W.heap.size) (hth : th < W.heap.size) (hd : bs ≠ cb ∧ bs ≠ th)
    (hkn : ∀ V, Below W.heap.size W V → Calls Tryz.prog 37 #[.pointer (some ⟨bs, 0, none⟩)] V (KnSays V cb mc th gf cf K))
    (hpl : ∀ V, Kp (fun j => j = cb ∨ j = th) W V → ∀ gd cap, RowD K gf cf V gd → Calls Tryz.prog 36 #[.slice Ag 1 cg, .slice Af 0 cf2, .string go, .int .i64 50, .slice (some ⟨gd, 0, none⟩) 1 cap] V (PlanGot V gf cf))
    (hdo : ∀ V, Kp (fun j => j = cb ∨ j = th) W V → TH V th gf cf 2 → CB V cb mc 2 → Calls Tryz.prog 17 #[.pointer (some ⟨bs, 0, none⟩), .int .i64 3, .agg (opC n Ag 1 cg Af 0 cf2 go st 0 ⟨#[]⟩ ⟨#[]⟩ (some ⟨gf, 0, none⟩) 1 cf)] V fun e w' => e = .returned (.int .i64 0) ∧ R w') :
    Calls Tryz.prog 20 #[.pointer (some ⟨bs, 0, none⟩), .int .i64 0, .agg (opC n Ag 1 cg Af 0 cf2 go st er at_ tx Ar lr cr)] W fun e w' => e = .returned (.int .i64 0) ∧ R w' := by
  obtain ⟨W0, e0⟩ : ∃ W0, W0 = W.alloc (.cells (opC n Ag 1 cg Af 0 cf2 go st er at_ tx Ar lr cr) 29) := ⟨_, rfl⟩
  have B0 : Below W.heap.size W W0 := by rw [e0]; exact (Below.refl _ _).alloc (Nat.le_refl _) _
  have z0 : W0.heap[W.heap.size]? = some (.cells (opC n Ag 1 cg Af 0 cf2 go st er at_ tx Ar lr cr) 29 (0, 0)) := by rw [e0]; exact heap_alloc_new _ _
  have hs0 : W0.heap.size = W.heap.size + 1 := by rw [e0]; simp
  have hbs := h.lt
  obtain ⟨d1, d2⟩ := hd
  obtain ⟨KS, hKS⟩ : ∃ KS : Nat → Prop, KS = (fun j => j = cb ∨ j = th) := ⟨_, rfl⟩
  have ksb : ∀ j, KS j → j < W.heap.size ∧ j ≠ bs := fun j hj => by
    rw [hKS] at hj
    rcases hj with rfl | rfl
    · exact ⟨hcb, fun e => d1 e.symm⟩
    · exact ⟨hth, fun e => d2 e.symm⟩
  have K0 : Kp KS W W0 := Kp.of_below B0
  have SX : Hid (∀ V, Kp KS W0 V → V.cell? ⟨W.heap.size, 1, none⟩ = some (.slice Ag 1 cg) ∧ V.cell? ⟨W.heap.size, 2, none⟩ = some (.slice Af 0 cf2) ∧ V.cell? ⟨W.heap.size, 3, none⟩ = some (.string go) ∧ V.cell? ⟨bs, 4, none⟩ = some (.int .i64 50)) := Lib.hid fun V hV => by
    have z := (hV.block _ (by omega) (fun e => by have := (ksb _ e).1; omega)).trans z0
    exact ⟨(cell_heap z 1).trans rfl, (cell_heap z 2).trans rfl, (cell_heap z 3).trans rfl, (cell_heap (((h.below B0).keep (hV.block _ (by omega) (fun e => (ksb _ e).2 rfl)))) 4).trans rfl⟩
  obtain ⟨x1, x2, x3, b4⟩ := SX.out W0 (Kp.refl _ _)
  have xa := fun o => SX.out (W0.alloc o) (kp_alloc W0 o)
  have BD : Hid (Below W0.heap.size W0 W0.drew) := Lib.hid (Below.refl _ _).drew
  have BA : Hid (∀ o, Below W0.heap.size W0 (W0.alloc o).drew) := Lib.hid fun o => ((Below.refl _ _).alloc (Nat.le_refl _) o).drew
  have TR : ∀ V w' gd, Below W0.heap.size W0 V → KnAt V cb mc th gf cf K w' gd → Kp KS W0 w' ∧ RowD K gf cf w' gd ∧ TH w' th gf cf 2 ∧ CB w' cb mc 2 := fun V w' gd hV hk => by
    obtain ⟨h1, h2, h3, h4, h5, h6⟩ := hk
    rw [← hKS] at h6
    exact ⟨(Kp.of_below hV).trans h6, ⟨h2, h3⟩, h4, h5⟩
  have KA : Hid (∀ V : World, V.heap = (W0.alloc (.cells noRes 27)).heap → Below W0.heap.size W0 V → Calls Tryz.prog 37 #[.pointer (some ⟨bs, 0, none⟩)] V fun e w' => ∃ gd cap, e = .returned (.slice (some ⟨gd, 0, none⟩) 1 cap) ∧ (Kp KS W0 w' ∧ RowD K gf cf w' gd ∧ TH w' th gf cf 2 ∧ CB w' cb mc 2) ∧ w'.heap[W0.heap.size]? = some (.cells noRes 27 (0, 0))) := Lib.hid fun V hv hb => (hkn V (B0.trans (hb.mono B0.size))).mono fun e w' ⟨gd, cap, h1, h2⟩ => ⟨gd, cap, h1, TR V w' gd hb h2, (h2.2.2.2.2.2.block _ (by rw [hv]; simp) (by
      intro e
      have := (ksb _ (by rw [hKS]; exact e)).1
      omega)).trans (by rw [hv]; exact heap_alloc_new W0 _)⟩
  have KB : Hid (∀ V : World, V.heap = W0.heap → Below W0.heap.size W0 V → Calls Tryz.prog 37 #[.pointer (some ⟨bs, 0, none⟩)] V fun e w' => ∃ gd cap, e = .returned (.slice (some ⟨gd, 0, none⟩) 1 cap) ∧ (Kp KS W0 w' ∧ RowD K gf cf w' gd ∧ TH w' th gf cf 2 ∧ CB w' cb mc 2)) := Lib.hid fun V hv hb => (hkn V (B0.trans (hb.mono B0.size))).mono fun e w' ⟨gd, cap, h1, h2⟩ => ⟨gd, cap, h1, TR V w' gd hb h2⟩
  -- what is held of the world behind known
  obtain ⟨KR, hKR⟩ : ∃ KR : World → Prop, KR = fun V => Kp KS W0 V ∧ TH V th gf cf 2 ∧ CB V cb mc 2 := ⟨_, rfl⟩
  have KRB : ∀ {V V' : World}, KR V → Below V.heap.size V V' → KR V' := fun {V V'} hq hb => by
    rw [hKR] at hq ⊢
    obtain ⟨h1, h3, h4⟩ := hq
    exact ⟨h1.then hb, (hb.block _ (Lg.lt_heap h3)).trans h3, h4.keep (hb.block _ h4.lt)⟩
  have RA : Hid (∀ V o, Hid (KR V) → Hid (KR (V.alloc o))) := Lib.hid fun V o hq => Lib.hid (KRB hq.out ((Below.refl _ _).alloc (Nat.le_refl _) o))
  have RW : Hid (∀ V gd o, Hid (KR V) → Hid (RowD K gf cf V gd) → Hid (RowD K gf cf (V.alloc o) gd)) := Lib.hid fun V gd o _ hr => Lib.hid (by
    have hb := (Below.refl V.heap.size V).alloc (Nat.le_refl _) o
    exact ⟨Nat.lt_of_lt_of_le hr.out.1 hb.size, fun j v hj => (hb.cell (p := ⟨gd, j, none⟩) hr.out.1).trans (hr.out.2 j v hj)⟩)
  have KA : Hid (∀ V : World, V.heap = (W0.alloc (.cells noRes 27)).heap → Below W0.heap.size W0 V → Calls Tryz.prog 37 #[.pointer (some ⟨bs, 0, none⟩)] V fun e w' => ∃ gd cap, e = .returned (.slice (some ⟨gd, 0, none⟩) 1 cap) ∧ KR w' ∧ RowD K gf cf w' gd ∧ w'.heap[W0.heap.size]? = some (.cells noRes 27 (0, 0))) := Lib.hid fun V hv hb => (hkn V (B0.trans (hb.mono B0.size))).mono fun e w' ⟨gd, cap, h1, h2⟩ => ⟨gd, cap, h1, by rw [hKR]; exact ⟨(TR V w' gd hb h2).1, (TR V w' gd hb h2).2.2⟩, (TR V w' gd hb h2).2.1, (h2.2.2.2.2.2.block _ (by rw [hv]; simp) (by
      intro e
      have := (ksb _ (by rw [hKS]; exact e)).1
      omega)).trans (by rw [hv]; exact heap_alloc_new W0 _)⟩
  have KB : Hid (∀ V : World, V.heap = W0.heap → Below W0.heap.size W0 V → Calls Tryz.prog 37 #[.pointer (some ⟨bs, 0, none⟩)] V fun e w' => ∃ gd cap, e = .returned (.slice (some ⟨gd, 0, none⟩) 1 cap) ∧ KR w' ∧ RowD K gf cf w' gd) := Lib.hid fun V hv hb => (hkn V (B0.trans (hb.mono B0.size))).mono fun e w' ⟨gd, cap, h1, h2⟩ => ⟨gd, cap, h1, by rw [hKR]; exact ⟨(TR V w' gd hb h2).1, (TR V w' gd hb h2).2.2⟩, (TR V w' gd hb h2).2.1⟩
  have hplW : ∀ V gd cap, KR V → RowD K gf cf V gd → Calls Tryz.prog 36 #[.slice Ag 1 cg, .slice Af 0 cf2, .string go, .int .i64 50, .slice (some ⟨gd, 0, none⟩) 1 cap] V (PlanGot V gf cf) := fun V gd cap hq hr => by
    rw [hKR] at hq
    exact hpl V (by rw [← hKS]; exact K0.trans hq.1) gd cap hr
  have PA : Hid (∀ (V : World) (b gd cap : Nat), Hid (KR V) → Hid (RowD K gf cf V gd) → V.heap[b]? = some (.cells noRes 27 (0, 0)) → Calls Tryz.prog 36 #[.slice Ag 1 cg, .slice Af 0 cf2, .string go, .int .i64 50, .slice (some ⟨gd, 0, none⟩) 1 cap] V fun e w' => e = .returned (.tuple #[.agg (gotRes gf cf), .bool true, .slice none 0 0]) ∧ KR w' ∧ w'.heap[b]? = some (.cells noRes 27 (0, 0))) := Lib.hid fun V b gd cap hq hr hz => (hplW V gd cap hq.out hr.out).mono fun e w' ⟨h1, h2⟩ => ⟨h1, KRB hq.out h2, (h2.block _ (Lg.lt_heap hz)).trans hz⟩
  have PC : Hid (∀ (V : World) (gd cap : Nat), Hid (KR V) → Hid (RowD K gf cf V gd) → Calls Tryz.prog 36 #[.slice Ag 1 cg, .slice Af 0 cf2, .string go, .int .i64 50, .slice (some ⟨gd, 0, none⟩) 1 cap] V fun e w' => e = .returned (.tuple #[.agg (gotRes gf cf), .bool true, .slice none 0 0]) ∧ KR w') := Lib.hid fun V gd cap hq hr => (hplW V gd cap hq.out hr.out).mono fun e w' ⟨h1, h2⟩ => ⟨h1, KRB hq.out h2⟩
  have SR : Hid (∀ V, Hid (KR V) → V.cell? ⟨W.heap.size, 1, none⟩ = some (.slice Ag 1 cg) ∧ V.cell? ⟨W.heap.size, 2, none⟩ = some (.slice Af 0 cf2) ∧ V.cell? ⟨W.heap.size, 3, none⟩ = some (.string go) ∧ V.cell? ⟨bs, 4, none⟩ = some (.int .i64 50)) := Lib.hid fun V hq => SX.out V (by have := hq.out; rw [hKR] at this; exact this.1)
  have SD : Hid (W0.drew.cell? ⟨W.heap.size, 1, none⟩ = some (.slice Ag 1 cg) ∧ W0.drew.cell? ⟨W.heap.size, 2, none⟩ = some (.slice Af 0 cf2) ∧ W0.drew.cell? ⟨W.heap.size, 3, none⟩ = some (.string go) ∧ W0.drew.cell? ⟨bs, 4, none⟩ = some (.int .i64 50)) := Lib.hid ⟨x1, x2, x3, b4⟩
  have SA : Hid (∀ o, (W0.alloc o).drew.cell? ⟨W.heap.size, 1, none⟩ = some (.slice Ag 1 cg) ∧ (W0.alloc o).drew.cell? ⟨W.heap.size, 2, none⟩ = some (.slice Af 0 cf2) ∧ (W0.alloc o).drew.cell? ⟨W.heap.size, 3, none⟩ = some (.string go) ∧ (W0.alloc o).drew.cell? ⟨bs, 4, none⟩ = some (.int .i64 50)) := Lib.hid xa
  -- the result stored into its block
  have QS : Hid (∀ V b v, Hid (KR V) → Hid (W0.heap.size ≤ b) → Hid (KR (V.setCell ⟨b, 3, none⟩ v))) := Lib.hid fun V b v hq hb => Lib.hid (by
    have hq := hq.out
    have hb := hb.out
    rw [hKR] at hq ⊢
    obtain ⟨h1, h3, h4⟩ := hq
    have n1 : b ≠ th := fun e => by omega
    have n2 : b ≠ cb := fun e => by omega
    exact ⟨h1.setNew (p := ⟨b, 3, none⟩) hb _, (heap_set_ne n1).trans h3, h4.keep (heap_set_ne n2)⟩)
  have RS : Hid (∀ V, Hid (KR V) → Hid (W0.heap.size ≤ V.heap.size)) := Lib.hid fun V hq => Lib.hid (by have := hq.out; rw [hKR] at this; exact this.1.size)
  have LE : Hid (W0.heap.size ≤ W0.heap.size) := Lib.hid (Nat.le_refl _)
  have HB3 : Hid (∀ V, KR V → V.heap[W.heap.size]? = some (.cells (opC n Ag 1 cg Af 0 cf2 go st er at_ tx Ar lr cr) 29 (0, 0))) := Lib.hid fun V hq => by
    rw [hKR] at hq
    exact (hq.1.block _ (by omega) (fun e => by have := (ksb _ e).1; omega)).trans z0
  have HDO : Hid (∀ V V2, KR V → Below W.heap.size V V2 → Calls Tryz.prog 17 #[.pointer (some ⟨bs, 0, none⟩), .int .i64 3, .agg (opC n Ag 1 cg Af 0 cf2 go st 0 ⟨#[]⟩ ⟨#[]⟩ (some ⟨gf, 0, none⟩) 1 cf)] V2 fun e w' => e = .returned (.int .i64 0) ∧ R w') := Lib.hid fun V V2 hq hk => by
    rw [hKR] at hq
    obtain ⟨h1, h3, h4⟩ := hq
    have k2 : Kp KS W V := K0.trans h1
    exact hdo V2 (by rw [← hKS]; exact ⟨hk.os.trans k2.os, hk.tape.trans k2.tape, hk.output.trans k2.output, Nat.le_trans k2.size hk.size, fun j h5 h6 => (hk.block j h5).trans (k2.block j h5 h6)⟩) ((hk.block _ hth).trans h3) (h4.keep (hk.block _ hcb))
  clear h B0 z0 hs0 hkn hpl hdo hplW KRB TR K0 xa x1 x2 x3 b4 ksb SX
  go_enter Tryz.func20, Tryz.ntmps20
  go_upto_region 1 with (fail)
  rw [← e0]
  clear e0
  go_cut [7, 8, 9] from 13 to 28 (fun v7 v8 v9 wx => v8 = .bool true ∧ ∃ b, v7 = .pointer (some ⟨b, 0, none⟩) ∧ KR wx ∧ W0.heap.size ≤ b ∧ wx.heap[b]? = some (.cells (gotRes gf cf) 27 (0, 0)))
  case first =>
    go_region_held3 (fun V => V.cell? ⟨W.heap.size, 1, none⟩ = some (.slice Ag 1 cg) ∧ V.cell? ⟨W.heap.size, 2, none⟩ = some (.slice Af 0 cf2) ∧ V.cell? ⟨W.heap.size, 3, none⟩ = some (.string go) ∧ V.cell? ⟨bs, 4, none⟩ = some (.int .i64 50)) (first | (with_reducible exact SD.out) | (with_reducible exact SA.out _) | (with_reducible exact SR.out _ h2) | (with_reducible exact SR.out _ (RA.out _ _ h2)) | (with_reducible exact SR.out _ (QS.out _ _ _ h2 LE)) | (with_reducible exact SR.out _ (QS.out _ _ _ h2 (RS.out _ h1))) | (with_reducible exact SR.out _ h1) | (with_reducible exact SR.out _ (RA.out _ _ h1)) | go_keep) (first
      | (go_at_call 37; (with_reducible refine (KB.out _ ?_ ?_).mono ?_); exact rfl; exact BD.out; rintro e w1 ⟨gd, cap, rfl, hb1, hr1⟩; have h1 := Lib.hid hb1; have r1 := Lib.hid hr1; clear hb1 hr1)
      | (go_at_call 37; (with_reducible refine (KA.out _ ?_ ?_).mono ?_); exact rfl; exact (BA.out _); rintro e w1 ⟨gd, cap, rfl, hb1, hr1, zb1⟩; have h1 := Lib.hid hb1; have r1 := Lib.hid hr1; have z1 := Lib.hid zb1; clear hb1 zb1 hr1)
      | (go_at_call 36; (with_reducible refine (PA.out _ _ _ _ h1 r1 z1.out).mono ?_); rintro e w2 ⟨rfl, hb2, zb2⟩; have h2 := Lib.hid hb2; have Z2 := Lib.hid zb2; obtain ⟨a0, a1, a2, a3, a4, a5, a6, a7, a8, a9, a10, a11⟩ := res_facts zb2; clear hb2 zb2)
      | (go_at_call 36; (with_reducible refine (PC.out _ _ _ h1 r1).mono ?_); rintro e w2 ⟨rfl, hb2⟩; have h2 := Lib.hid hb2; clear hb2)
      | (go_at_call 36; (with_reducible refine (PA.out _ w1.heap.size _ _ (RA.out _ _ h1) (RW.out _ _ _ h1 r1) (heap_alloc_new w1 _)).mono ?_); rintro e w2 ⟨rfl, hb2, zb2⟩; have h2 := Lib.hid hb2; have Z2 := Lib.hid zb2; obtain ⟨a0, a1, a2, a3, a4, a5, a6, a7, a8, a9, a10, a11⟩ := res_facts zb2; clear hb2 zb2))
    all_goals
      go_wp2_with (fail)
      go_meet
      first
        | exact ⟨rfl, _, rfl, (QS.out _ _ _ h2 LE).out, Nat.le_refl _, (heap_set Z2.out).trans rfl⟩
        | exact ⟨rfl, _, rfl, (QS.out _ _ _ h2 (RS.out _ h1)).out, (RS.out _ h1).out, (heap_set Z2.out).trans rfl⟩
        | exact ⟨rfl, _, rfl, (RA.out _ _ h2).out, (RS.out _ h2).out, heap_alloc_new _ _⟩
  case rest =>
    obtain ⟨rfl, b, rfl, hkr, hle, hz⟩ := hcut
    obtain ⟨W1, hW1⟩ : ∃ W1, W1 = wc := ⟨_, rfl⟩
    subst hW1
    have x := HB3.out W1 hkr
    have r0 : W1.cell? ⟨b, 0, none⟩ = some (.int .i64 0) := (cell_heap hz 0).trans rfl
    have r1 : W1.cell? ⟨b, 1, none⟩ = some (.string ⟨#[]⟩) := (cell_heap hz 1).trans rfl
    have r2 : W1.cell? ⟨b, 2, none⟩ = some (.string ⟨#[]⟩) := (cell_heap hz 2).trans rfl
    have r3 : W1.cell? ⟨b, 3, none⟩ = some (.slice (some ⟨gf, 0, none⟩) 1 cf) := (cell_heap hz 3).trans rfl
    obtain ⟨W2, e2⟩ : ∃ W2, W2 = (((W1.setCell ⟨W.heap.size, 5, none⟩ (.int .i64 0)).setCell ⟨W.heap.size, 6, none⟩ (.string ⟨#[]⟩)).setCell ⟨W.heap.size, 7, none⟩ (.string ⟨#[]⟩)).setCell ⟨W.heap.size, 8, none⟩ (.slice (some ⟨gf, 0, none⟩) 1 cf) := ⟨_, rfl⟩
    have x2 : W2.heap[W.heap.size]? = some (.cells (opC n Ag 1 cg Af 0 cf2 go st 0 ⟨#[]⟩ ⟨#[]⟩ (some ⟨gf, 0, none⟩) 1 cf) 29 (0, 0)) := by
      rw [e2]
      exact (heap_set (heap_set (heap_set (heap_set x)))).trans rfl
    have b2 : Below W.heap.size W1 W2 := by
      rw [e2]
      have b0 : Below W.heap.size W1 W1 := Below.refl _ _
      exact ((((b0.setCell (p := ⟨W.heap.size, 5, none⟩) (Nat.le_refl _) _).setCell (p := ⟨W.heap.size, 6, none⟩) (Nat.le_refl _) _).setCell (p := ⟨W.heap.size, 7, none⟩) (Nat.le_refl _) _).setCell (p := ⟨W.heap.size, 8, none⟩) (Nat.le_refl _) _)
    have DO := Lib.hid (HDO.out W1 W2 hkr b2)
    have f5 := frozen_heap x 5
    have f6 := frozen_heap x 6
    have f7 := frozen_heap x 7
    have f8 := frozen_heap x 8
    have q5 := cell_heap x 5
    have q6 := cell_heap x 6
    have q7 := cell_heap x 7
    have q8 := cell_heap x 8
    have y0 : W2.cell? ⟨W.heap.size, 0, none⟩ = some (.string n) := (cell_heap x2 0).trans rfl
    have y1 : W2.cell? ⟨W.heap.size, 1, none⟩ = some (.slice Ag 1 cg) := (cell_heap x2 1).trans rfl
    have y2 : W2.cell? ⟨W.heap.size, 2, none⟩ = some (.slice Af 0 cf2) := (cell_heap x2 2).trans rfl
    have y3 : W2.cell? ⟨W.heap.size, 3, none⟩ = some (.string go) := (cell_heap x2 3).trans rfl
    have y4 : W2.cell? ⟨W.heap.size, 4, none⟩ = some (.int .i64 st) := (cell_heap x2 4).trans rfl
    have y5 : W2.cell? ⟨W.heap.size, 5, none⟩ = some (.int .i64 0) := (cell_heap x2 5).trans rfl
    have y6 : W2.cell? ⟨W.heap.size, 6, none⟩ = some (.string ⟨#[]⟩) := (cell_heap x2 6).trans rfl
    have y7 : W2.cell? ⟨W.heap.size, 7, none⟩ = some (.string ⟨#[]⟩) := (cell_heap x2 7).trans rfl
    have y8 : W2.cell? ⟨W.heap.size, 8, none⟩ = some (.slice (some ⟨gf, 0, none⟩) 1 cf) := (cell_heap x2 8).trans rfl
    clear x x2 b2 hkr hz HDO HB3 KA KB PA PC SR SD SA QS RS RA RW BD BA LE
    go_upto_region 4 with (fail)
    rw [← e2]
    clear e2 q5 q6 q7 q8 f5 f6 f7 f8 r0 r1 r2 r3
    go_wp2_with (go_at_call 17; (with_reducible refine (DO.out).mono ?_); rintro e w4 ⟨rfl, hR⟩)
    go_ret
    exact ⟨rfl, hR⟩
end Go.Proofs.YtifiipmmgnmciaaGreatDoor.Sv
/- SvNextS, what a claim needs of it (prune.py). -/
namespace Go.Proofs.YtifiipmmgnmciaaGreatDoor.Sv
open Go.RowKit Go.Maps
open Dk (Kp)
set_option linter.unusedVariables false
set_option maxRecDepth 100000
abbrev noTask : Array Value := #[.string ⟨#[]⟩, .int .i64 0, .string ⟨#[]⟩, .slice none 0 0, .slice none 0 0, .int .i64 0]
abbrev leaseC (K wk : ByteArray) : Array Value := #[.string K, .int .i64 0, .int .i64 1, .string wk, .int .i64 1, .int .i64 12]
theorem zTask (W : World) : (zeroValue 34).run Tryz.prog W = .ok (.agg noTask) W := rfl
theorem lease_facts {V : World} {b : Nat} {T : TypeId} (h : V.heap[b]? = some (.cells noLease T (0, 0))) : (V.cell? ⟨b, 0, none⟩ = some (.string ⟨#[]⟩) ∧ V.cell? ⟨b, 1, none⟩ = some (.int .i64 0) ∧ V.cell? ⟨b, 2, none⟩ = some (.int .i64 0) ∧ V.cell? ⟨b, 3, none⟩ = some (.string ⟨#[]⟩) ∧ V.cell? ⟨b, 4, none⟩ = some (.int .i64 0) ∧ V.cell? ⟨b, 5, none⟩ = some (.int .i64 0)) ∧ V.frozen? ⟨b, 0, none⟩ = false ∧ V.frozen? ⟨b, 1, none⟩ = false ∧ V.frozen? ⟨b, 2, none⟩ = false ∧ V.frozen? ⟨b, 3, none⟩ = false ∧ V.frozen? ⟨b, 4, none⟩ = false ∧ V.frozen? ⟨b, 5, none⟩ = false ∧ V.setCell ⟨b, 1, none⟩ (.int .i64 0) = V :=
  ⟨⟨(cell_heap h 0).trans rfl, (cell_heap h 1).trans rfl, (cell_heap h 2).trans rfl, (cell_heap h 3).trans rfl, (cell_heap h 4).trans rfl, (cell_heap h 5).trans rfl⟩, frozen_heap h 0, frozen_heap h 1, frozen_heap h 2, frozen_heap h 3, frozen_heap h 4, frozen_heap h 5, set_same h rfl⟩
def NxAt (W : World) (s : Sb) (k : Nat) (K wk : ByteArray) (there : ByteArray → Option Value) (W0 wx : World) (b : Nat) : Prop := (∃ A c, ScAt wx s (k + 3) 1 (rowM wk A c) there (Mv.putM NoM K (leaseV K wk))) ∧ Q0 wx s.q 1 ∧ Kp (ScS s) W0 wx ∧ W0.heap.size ≤ b
theorem NxAt.below {W W0 wx V : World} {s : Sb} {k b : Nat} {K wk : ByteArray} {there : ByteArray → Option Value} (h : NxAt W s k K wk there W0 wx b) (hb : Below wx.heap.size wx V) : NxAt W s k K wk there W0 V b := by
  obtain ⟨⟨A, c, h1⟩, h2, h3, h4⟩ := h
  exact ⟨⟨A, c, h1.below hb⟩, h2.keep (hb.block _ h2.lt), h3.then hb, h4⟩
theorem NxAt.new {W W0 wx : World} {s : Sb} {k b : Nat} {K wk : ByteArray} {there : ByteArray → Option Value} (h : NxAt W s k K wk there W0 wx b) {j i : Nat} (hj : W0.heap.size ≤ j) (hs : s.sc < W0.heap.size ∧ s.tb < W0.heap.size ∧ s.mr < W0.heap.size ∧ s.mt < W0.heap.size ∧ s.ml < W0.heap.size ∧ s.q < W0.heap.size) (v : Value) : NxAt W s k K wk there W0 (wx.setCell ⟨j, i, none⟩ v) b := by
  obtain ⟨⟨A, c, h1⟩, h2, h3, h4⟩ := h
  obtain ⟨l1, l2, l3, l4, l5, l6⟩ := hs
  have ho : ∀ i', i' < W0.heap.size → (wx.setCell ⟨j, i, none⟩ v).heap[i']? = wx.heap[i']? := fun i' hi' => heap_set_ne (by omega)
  exact ⟨⟨A, c, h1.keep (ho _ l1) (ho _ l2) (ho _ l3) (ho _ l4) (ho _ l5)⟩, h2.keep (ho _ l6), h3.setNew (p := ⟨j, i, none⟩) hj _, h4⟩
def NextSays (W : World) (s : Sb) (k : Nat) (K wk c : ByteArray) (there : ByteArray → Option Value) (e : Ending) (w' : World) : Prop := e = .returned (.tuple #[.agg #[.string K, .int .i64 1, .string c, .slice none 0 0, .slice none 0 0, .int .i64 50], .int .i64 0]) ∧ (∃ A c', ScAt w' s (k + 3) 1 (rowM wk A c') there (Mv.putM NoM K (leaseV K wk))) ∧ Q0 w' s.q 1 ∧ Kp (ScS s) W w'
set_option maxHeartbeats 4000000 in
theorem snextS (W : World) (s : Sb) (k gq nt bs bo cb mk : Nat) (K wk c : ByteArray) (there : ByteArray → Option Value) (h : SB W bs bo s.sc cb mk 2) (hs : ScAt W s k 0 (rowM wk none 0) there NoM) (hq : Q1 W s.q gq K) (hm : Mv.VMap W mk nt (Mv.putM NoM K (taskV K c))) (hk : k ≤ 1000) (hK : K.size ≤ maxLen) (hw : wk.size ≤ 1000000000) (hw2 : Lg.nameE (Lg.tl wk) = 0) (hd : ∀ j, ScS s j → j ≠ bs ∧ j ≠ mk) :
    Calls Tryz.prog 5 #[.pointer (some ⟨bs, 0, none⟩), .string wk] W (NextSays W s k K wk c there) := by
  obtain ⟨W0, e0⟩ : ∃ W0, W0 = W.alloc (.cells noTask 34) := ⟨_, rfl⟩
  have B0 : Below W.heap.size W W0 := by rw [e0]; exact (Below.refl _ _).alloc (Nat.le_refl _) _
  have z0 : W0.heap[W.heap.size]? = some (.cells noTask 34 (0, 0)) := by rw [e0]; exact heap_alloc_new _ _
  have hs0 : W0.heap.size = W.heap.size + 1 := by rw [e0]; simp
  obtain ⟨l1, l2, l3, l4, l5⟩ := hs.lt
  have l6 := hq.lt.1
  have l7 := hq.lt.2
  have hbs := h.lt
  have hmk := hm.lt
  have sb0 := h.below B0
  have c1 : W0.cell? ⟨bs, 1, none⟩ = some (.pointer (some ⟨s.sc, 0, none⟩)) := (cell_heap sb0 1).trans rfl
  have c5 : W0.cell? ⟨bs, 5, none⟩ = some (.int .i64 2) := (cell_heap sb0 5).trans rfl
  have ca1 : ∀ o, (W0.alloc o).cell? ⟨bs, 1, none⟩ = some (.pointer (some ⟨s.sc, 0, none⟩)) := fun o => (cell_heap (sb0.keep (Below.heap_alloc W0 o _ (by omega))) 1).trans rfl
  have ca5 : ∀ o, (W0.alloc o).cell? ⟨bs, 5, none⟩ = some (.int .i64 2) := fun o => (cell_heap (sb0.keep (Below.heap_alloc W0 o _ (by omega))) 5).trans rfl
  have hst : ∀ j, ScS s j → j < W0.heap.size := fun j hj => by rcases hj with rfl | rfl | rfl | rfl | rfl <;> omega
  have NX0 : ∀ V, Below W0.heap.size W0 V → Calls Tryz.prog 16 #[.pointer (some ⟨s.sc, 0, none⟩), .string wk, .int .i64 2] V (SNextSays V s k K wk there) := fun V hV => by
    have bV := B0.trans (hV.mono B0.size)
    exact snext_job V s k gq K wk there (hs.below bV) (hq.keep (bV.block _ l6) (bV.block _ l7)) hk hK hw hw2
  have NA : Hid (∀ V : World, V.heap = (W0.alloc (.cells noLease 60)).heap → Below W0.heap.size W0 V → Calls Tryz.prog 16 #[.pointer (some ⟨s.sc, 0, none⟩), .string wk, .int .i64 2] V fun e w' => e = .returned (.tuple #[leaseV K wk, .int .i64 0]) ∧ NxAt W s k K wk there W0 w' W0.heap.size ∧ w'.heap[W0.heap.size]? = some (.cells noLease 60 (0, 0))) := Lib.hid fun V hv hb => (NX0 V hb).mono fun e w' ⟨h1, h2, h3, h4⟩ => ⟨h1, ⟨h2, h3, (Kp.of_below hb).trans h4, Nat.le_refl _⟩, (h4.block _ (by rw [hv]; simp) (fun e => by have := hst _ e; omega)).trans (by rw [hv]; exact heap_alloc_new W0 _)⟩
  have NB : Hid (∀ V : World, V.heap = W0.heap → Below W0.heap.size W0 V → Calls Tryz.prog 16 #[.pointer (some ⟨s.sc, 0, none⟩), .string wk, .int .i64 2] V fun e w' => e = .returned (.tuple #[leaseV K wk, .int .i64 0]) ∧ NxAt W s k K wk there W0 w' w'.heap.size) := Lib.hid fun V hv hb => (NX0 V hb).mono fun e w' ⟨h1, h2, h3, h4⟩ => ⟨h1, ⟨h2, h3, (Kp.of_below hb).trans h4, Nat.le_trans hb.size h4.size⟩⟩
  have BD : Hid (Below W0.heap.size W0 W0.drew) := Lib.hid (Below.refl _ _).drew
  have BA : Hid (∀ o, Below W0.heap.size W0 (W0.alloc o).drew) := Lib.hid fun o => ((Below.refl _ _).alloc (Nat.le_refl _) o).drew
  have LL : Hid (s.sc < W0.heap.size ∧ s.tb < W0.heap.size ∧ s.mr < W0.heap.size ∧ s.mt < W0.heap.size ∧ s.ml < W0.heap.size ∧ s.q < W0.heap.size) := Lib.hid ⟨by omega, by omega, by omega, by omega, by omega, by omega⟩
  -- the lease stored into its block
  have ST : Hid (∀ wx b, NxAt W s k K wk there W0 wx b → W0.heap.size ≤ b → NxAt W s k K wk there W0 ((((((wx.setCell ⟨b, 0, none⟩ (.string K)).setCell ⟨b, 1, none⟩ (.int .i64 0)).setCell ⟨b, 2, none⟩ (.int .i64 1)).setCell ⟨b, 3, none⟩ (.string wk)).setCell ⟨b, 4, none⟩ (.int .i64 1)).setCell ⟨b, 5, none⟩ (.int .i64 12)) b) := Lib.hid fun wx b hx hb => (((((hx.new hb LL.out _).new hb LL.out _).new hb LL.out _).new hb LL.out _).new hb LL.out _).new hb LL.out _
  -- what is found behind it
  have AFT : Hid (∀ wx b, NxAt W s k K wk there W0 wx b → wx.heap[b]? = some (.cells (leaseC K wk) 60 (0, 0)) → wx.cell? ⟨bs, 3, none⟩ = some (.map (some mk)) ∧ Mv.VMap wx mk nt (Mv.putM NoM K (taskV K c)) ∧ wx.heap[W.heap.size]? = some (.cells noTask 34 (0, 0))) := Lib.hid fun wx b hx hz => by
    obtain ⟨_, _, h3, h4⟩ := hx
    exact ⟨(cell_heap (sb0.keep (h3.block _ (by omega) (fun e => (hd _ e).1 rfl))) 3).trans rfl, (hm.later B0).keep (h3.block _ (by omega) (fun e => (hd _ e).2 rfl)), (h3.block _ (by omega) (fun e => by rcases e with e | e | e | e | e <;> omega)).trans z0⟩
  have FIN : Hid (∀ wx V b, NxAt W s k K wk there W0 wx b → Below W.heap.size wx V → (∀ j, j < W.heap.size → V.heap[j]? = wx.heap[j]?) → NextSays W s k K wk c there (.returned (.tuple #[.agg #[.string K, .int .i64 1, .string c, .slice none 0 0, .slice none 0 0, .int .i64 50], .int .i64 0])) V) := Lib.hid fun wx V b hx hb ho => by
    obtain ⟨⟨A, c', h1⟩, h2, h3, h4⟩ := hx
    have k3 : Kp (ScS s) W wx := (Kp.of_below B0).trans h3
    exact ⟨rfl, ⟨A, c', h1.keep (ho _ l1) (ho _ l2) (ho _ l3) (ho _ l4) (ho _ l5)⟩, h2.keep (ho _ l6), ⟨hb.os.trans k3.os, hb.tape.trans k3.tape, hb.output.trans k3.output, Nat.le_trans k3.size hb.size, fun j h5 h6 => (ho j h5).trans (k3.block j h5 h6)⟩⟩
  have SN : Hid (∀ V b, NxAt W s k K wk there W0 V b → V.cell? ⟨bs, 1, none⟩ = some (.pointer (some ⟨s.sc, 0, none⟩)) ∧ V.cell? ⟨bs, 5, none⟩ = some (.int .i64 2)) := Lib.hid fun V b hx => by
    have hb := sb0.keep (hx.2.2.1.block _ (by omega) (fun e => (hd _ e).1 rfl))
    exact ⟨(cell_heap hb 1).trans rfl, (cell_heap hb 5).trans rfl⟩
  have SD : W0.drew.cell? ⟨bs, 1, none⟩ = some (.pointer (some ⟨s.sc, 0, none⟩)) ∧ W0.drew.cell? ⟨bs, 5, none⟩ = some (.int .i64 2) := ⟨c1, c5⟩
  have SA : ∀ o, (W0.alloc o).drew.cell? ⟨bs, 1, none⟩ = some (.pointer (some ⟨s.sc, 0, none⟩)) ∧ (W0.alloc o).drew.cell? ⟨bs, 5, none⟩ = some (.int .i64 2) := fun o => ⟨ca1 o, ca5 o⟩
  have NB1 := Lib.hid (NB.out W0.drew rfl BD.out)
  have NA1 := Lib.hid (NA.out (W0.alloc (.cells noLease 60)).drew rfl (BA.out _))
  have HS0 := Lib.hid hs0
  clear NA NB BD BA h hs hq hm hd hst NX0 z0 B0 sb0 l1 l2 l3 l4 l5 l6 l7 hbs hmk hs0
  go_enter Tryz.func5, Tryz.ntmps5
  go_upto_region 3 with (fail)
  rw [← e0]
  clear e0
  go_cut [6, 7] from 13 to 24 (fun v6 v7 wx => v7 = .int .i64 0 ∧ ∃ b, v6 = .pointer (some ⟨b, 0, none⟩) ∧ NxAt W s k K wk there W0 wx b ∧ wx.heap[b]? = some (.cells (leaseC K wk) 60 (0, 0)))
  case first =>
    go_region_held3 (fun V => V.cell? ⟨bs, 1, none⟩ = some (.pointer (some ⟨s.sc, 0, none⟩)) ∧ V.cell? ⟨bs, 5, none⟩ = some (.int .i64 2)) (first | (with_reducible exact SD) | (with_reducible exact SA _) | (with_reducible exact SN.out _ _ N1.out) | (with_reducible exact SN.out _ _ (ST.out _ _ N1.out (Nat.le_refl _))) | (with_reducible exact SN.out _ _ (N1.out.below ((Below.refl _ _).alloc (Nat.le_refl _) _))) | go_keep) (first
      | (go_at_call 16; (with_reducible refine (NB1.out).mono ?_); rintro e w1 ⟨rfl, hn1⟩; have N1 := Lib.hid hn1; clear hn1)
      | (go_at_call 16; (with_reducible refine (NA1.out).mono ?_); rintro e w1 ⟨rfl, hn1, hz1⟩; have N1 := Lib.hid hn1; have Z1 := Lib.hid hz1; obtain ⟨⟨a0, a1, a2, a3, a4, a5⟩, f0, f1, f2, f3, f4, f5, s1⟩ := lease_facts hz1; clear hn1 hz1))
    all_goals
      go_wp2_with (fail)
      go_meet
      first
        | (with_reducible refine ⟨rfl, _, rfl, ST.out _ _ N1.out (Nat.le_refl _), ?_⟩; exact (heap_set (heap_set (heap_set (heap_set (heap_set (heap_set Z1.out)))))).trans rfl)
        | (with_reducible refine ⟨rfl, _, rfl, N1.out.below ((Below.refl _ _).alloc (Nat.le_refl _) _), ?_⟩; exact heap_alloc_new _ _)
  case rest =>
    clear NA1 NB1 ST c1 c5 ca1 ca5 SN SD SA
    obtain ⟨rfl, b, rfl, hn, hz⟩ := hcut
    obtain ⟨W1, hW1⟩ : ∃ W1, W1 = wc := ⟨_, rfl⟩
    subst hW1
    obtain ⟨m3, hmm, hzt⟩ := AFT.out W1 b hn hz
    have hle := hn.2.2.2
    have hs0 := HS0.out
    have hbl := Lg.lt_heap hz
    have hzl := Lg.lt_heap hzt
    have b3a : ∀ o, (W1.alloc o).cell? ⟨bs, 3, none⟩ = some (.map (some mk)) := fun o => (World.cell?_alloc_lt W1 o ⟨bs, 3, none⟩ (World.block_lt_of_cell? W1 ⟨bs, 3, none⟩ m3)).trans m3
    have p0 : W1.cell? ⟨b, 0, none⟩ = some (.string K) := (cell_heap hz 0).trans rfl
    have p0a : ∀ o, (W1.alloc o).cell? ⟨b, 0, none⟩ = some (.string K) := fun o => (cell_heap ((Below.heap_alloc W1 o _ hbl).trans hz) 0).trans rfl
    have lk := (show Mv.VMap W1.drew mk nt (Mv.putM NoM K (taskV K c)) from hmm.keep rfl).look1 (t := 54) (e := 34) (by kernel_rfl) (zTask _) hK
    have lka := fun o => (show Mv.VMap (W1.alloc o).drew mk nt (Mv.putM NoM K (taskV K c)) from hmm.later (((Below.refl _ _).alloc (Nat.le_refl _) o).drew)).look1 (t := 54) (e := 34) (by kernel_rfl) (zTask _) hK
    simp only [put_at, Option.getD_some] at lk lka
    obtain ⟨W2, e2⟩ : ∃ W2, W2 = (W1.alloc (.cells #[.string K, .int .i64 0, .string c, .slice none 0 0, .slice none 0 0, .int .i64 50] 34)).drew := ⟨_, rfl⟩
    have B2 : Below W1.heap.size W1 W2 := by rw [e2]; exact ((Below.refl _ _).alloc (Nat.le_refl _) _).drew
    have z2 : W2.heap[W1.heap.size]? = some (.cells #[.string K, .int .i64 0, .string c, .slice none 0 0, .slice none 0 0, .int .i64 50] 34 (0, 0)) := by rw [e2]; exact heap_alloc_new W1 _
    have q4 : W2.cell? ⟨b, 4, none⟩ = some (.int .i64 1) := (cell_heap ((B2.block _ hbl).trans hz) 4).trans rfl
    have t1 : W2.cell? ⟨W1.heap.size, 1, none⟩ = some (.int .i64 0) := (cell_heap z2 1).trans rfl
    have g1 : W2.frozen? ⟨W1.heap.size, 1, none⟩ = false := frozen_heap z2 1
    obtain ⟨W3, e3⟩ : ∃ W3, W3 = W2.setCell ⟨W1.heap.size, 1, none⟩ (.int .i64 1) := ⟨_, rfl⟩
    have z3 : W3.heap[W1.heap.size]? = some (.cells #[.string K, .int .i64 1, .string c, .slice none 0 0, .slice none 0 0, .int .i64 50] 34 (0, 0)) := by rw [e3]; exact (heap_set z2).trans rfl
    have y3 : W3.heap[W.heap.size]? = some (.cells noTask 34 (0, 0)) := by rw [e3]; exact (heap_set_ne (by omega)).trans ((B2.block _ hzl).trans hzt)
    have x0 : W3.cell? ⟨W1.heap.size, 0, none⟩ = some (.string K) := (cell_heap z3 0).trans rfl
    have x1 : W3.cell? ⟨W1.heap.size, 1, none⟩ = some (.int .i64 1) := (cell_heap z3 1).trans rfl
    have x2 : W3.cell? ⟨W1.heap.size, 2, none⟩ = some (.string c) := (cell_heap z3 2).trans rfl
    have x3 : W3.cell? ⟨W1.heap.size, 3, none⟩ = some (.slice none 0 0) := (cell_heap z3 3).trans rfl
    have x4 : W3.cell? ⟨W1.heap.size, 4, none⟩ = some (.slice none 0 0) := (cell_heap z3 4).trans rfl
    have x5 : W3.cell? ⟨W1.heap.size, 5, none⟩ = some (.int .i64 50) := (cell_heap z3 5).trans rfl
    have h0 := (cell_heap y3 0).trans (show _ = some (Value.string ⟨#[]⟩) from rfl)
    have h1 := (cell_heap y3 1).trans (show _ = some (Value.int .i64 0) from rfl)
    have h2 := (cell_heap y3 2).trans (show _ = some (Value.string ⟨#[]⟩) from rfl)
    have h3 := (cell_heap y3 3).trans (show _ = some (Value.slice none 0 0) from rfl)
    have h4 := (cell_heap y3 4).trans (show _ = some (Value.slice none 0 0) from rfl)
    have h5 := (cell_heap y3 5).trans (show _ = some (Value.int .i64 0) from rfl)
    have r0 := frozen_heap y3 0
    have r1 := frozen_heap y3 1
    have r2 := frozen_heap y3 2
    have r3 := frozen_heap y3 3
    have r4 := frozen_heap y3 4
    have r5 := frozen_heap y3 5
    have s3 : W3.setCell ⟨W.heap.size, 3, none⟩ (.slice none 0 0) = W3 := set_same y3 rfl
    have s4 : W3.setCell ⟨W.heap.size, 4, none⟩ (.slice none 0 0) = W3 := set_same y3 rfl
    obtain ⟨W4, e4⟩ : ∃ W4, W4 = (((((W3.setCell ⟨W.heap.size, 0, none⟩ (.string K)).setCell ⟨W.heap.size, 1, none⟩ (.int .i64 1)).setCell ⟨W.heap.size, 2, none⟩ (.string c)).setCell ⟨W.heap.size, 3, none⟩ (.slice none 0 0)).setCell ⟨W.heap.size, 4, none⟩ (.slice none 0 0)).setCell ⟨W.heap.size, 5, none⟩ (.int .i64 50) := ⟨_, rfl⟩
    have y4 : Hid (W4.heap[W.heap.size]? = some (.cells #[.string K, .int .i64 1, .string c, .slice none 0 0, .slice none 0 0, .int .i64 50] 34 (0, 0))) := Lib.hid (by rw [e4]; exact (heap_set (heap_set (heap_set (heap_set (heap_set (heap_set y3)))))).trans rfl)
    have F4 : Hid (NextSays W s k K wk c there (.returned (.tuple #[.agg #[.string K, .int .i64 1, .string c, .slice none 0 0, .slice none 0 0, .int .i64 50], .int .i64 0])) W4) := Lib.hid (FIN.out W1 W4 b hn (by
      have b0 : Below W.heap.size W1 W3 := by rw [e3]; exact (B2.mono (by omega)).setCell (p := ⟨W1.heap.size, 1, none⟩) (by show W.heap.size ≤ W1.heap.size; omega) _
      rw [e4]
      exact (((((b0.setCell (p := ⟨W.heap.size, 0, none⟩) (Nat.le_refl _) _).setCell (p := ⟨W.heap.size, 1, none⟩) (Nat.le_refl _) _).setCell (p := ⟨W.heap.size, 2, none⟩) (Nat.le_refl _) _).setCell (p := ⟨W.heap.size, 3, none⟩) (Nat.le_refl _) _).setCell (p := ⟨W.heap.size, 4, none⟩) (Nat.le_refl _) _).setCell (p := ⟨W.heap.size, 5, none⟩) (Nat.le_refl _) _) (fun j hj => by
      have ne : W.heap.size ≠ j := by omega
      rw [e4, heap_set_ne ne, heap_set_ne ne, heap_set_ne ne, heap_set_ne ne, heap_set_ne ne, heap_set_ne ne, e3, heap_set_ne (by omega)]
      exact B2.block j (by omega)))
    have E2 := Lib.hid e2
    have E3 := Lib.hid e3
    have E4 := Lib.hid e4
    clear hn hz hzt hle hs0 hbl hzl hmm AFT FIN B2 z2 z3 y3 e2 e3 e4
    go_upto_region 6 with (fail)
    go_cut [8] from 29 to 36 (fun v8 wx => v8 = .pointer (some ⟨W1.heap.size, 0, none⟩) ∧ wx = W2)
    case first =>
      go_region
      all_goals
        go_wp2_with (fail)
        go_meet
        exact ⟨rfl, E2.out.symm⟩
    case rest =>
      obtain ⟨rfl, rfl⟩ := hcut
      go_upto_region 8 with (fail)
      rw [← E3.out]
      go_wp2_with (fail)
      rw [← E4.out]
      refine bodyPost_ret_by (Lg.results_cell_row2 rfl _ _ W.heap.size 34 _ (0, 0) _ rfl y4.out rfl rfl (by kernel_rfl)) rfl ?_
      exact F4.out
end Go.Proofs.YtifiipmmgnmciaaGreatDoor.Sv
