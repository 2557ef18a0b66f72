/- Joined by mkmerged.py: OpApply. -/
import Derived.Test.YtifiipmmgnmciaaGreatDoorMi24
/- OpApply, what a claim needs of it (prune.py). -/
namespace Go.Proofs.YtifiipmmgnmciaaGreatDoor.Ops
open Go.RowKit
open Gr (idx NoneTo idx_hit idx_miss idx_cases)
set_option linter.unusedVariables false
set_option maxRecDepth 100000
theorem chain9_below {Bn : Nat} {w0 w : World} (h : Below Bn w0 w) {g : Nat} (hg : Bn ≤ g) (b0 b1 b2 b3 b4 b5 b6 b7 b8 : Value) : Below Bn w0 (((((((((w.setCell ⟨g, 0, none⟩ b0).setCell ⟨g, 1, none⟩ b1).setCell ⟨g, 2, none⟩ b2).setCell ⟨g, 3, none⟩ b3).setCell ⟨g, 4, none⟩ b4).setCell ⟨g, 5, none⟩ b5).setCell ⟨g, 6, none⟩ b6).setCell ⟨g, 7, none⟩ b7).setCell ⟨g, 8, none⟩ b8) := set9_below h hg b0 b1 b2 b3 b4 b5 b6 b7 b8
theorem at_put3' {W1 : World} {b : Nat} {cs : Array Value} {T : TypeId} (h : W1.heap[b]? = some (.cells cs T (0, 0))) : ∀ w', Below W1.heap.size W1 w' → w'.heap[b]? = some (.cells cs T (0, 0)) := fun w' hb => heap_below hb (Lg.lt_heap h) h
theorem own_some {w : World} {B : Nat} {v : Value} {n : Nat} {xs : List Value} (h : w.ownsRow B 29 9 v n xs) (hn : 0 < n) : ∃ gg cap, v = .slice (some ⟨gg, 0, none⟩) n cap := by
  rcases h.2 with ⟨_, h0⟩ | ⟨g, cap, cur, hv, _⟩
  · omega
  · exact ⟨g, cap, hv⟩
theorem own_at {w : World} {B gg n cap : Nat} {xs : List Value} (h : w.ownsRow B 29 9 (.slice (some ⟨gg, 0, none⟩) n cap) n xs) {j : Nat} (hj : j < n * 9) : (∃ u, w.cell? ⟨gg, j, none⟩ = some u) ∧ w.frozen? ⟨gg, j, none⟩ = false := by
  have hx : j < xs.length := by rw [h.1]; exact hj
  have hc := h.cells (g := gg) rfl j xs[j] (List.getElem?_eq_getElem hx)
  rw [Lg.add_eq] at hc
  refine ⟨⟨_, hc⟩, ?_⟩
  rcases h.2 with ⟨h0, _⟩ | ⟨g, cap', cur, hv, _, hg, _⟩
  · cases h0
  · injection hv with hA _ _
    injection hA with hA
    injection hA with hA _ _
    subst hA
    exact frozen_of_row w _ j _ _ hg
theorem own_le {w : World} {B gg n cap : Nat} {xs : List Value} (h : w.ownsRow B 29 9 (.slice (some ⟨gg, 0, none⟩) n cap) n xs) : B ≤ gg ∧ n ≤ cap := by
  rcases h.2 with ⟨h0, _⟩ | ⟨g, cap', cur, hv, hB, _, h1, _⟩
  · cases h0
  · injection hv with hA _ hc
    injection hA with hA
    injection hA with hA _ _
    subst hA hc
    exact ⟨hB, h1⟩
theorem put_fin {w w5 : World} {B gg cap i : Nat} {l : List Op} {cs : List Value} {y : Op} {Og : Option Addr} {og : Nat} {Of : Option Addr} {of : Nat} {Yr : Option Addr} {yr : Nat} (hb : Below w.heap.size w w5) (ho : w5.ownsRow B 29 9 (.slice (some ⟨gg, 0, none⟩) l.length cap) l.length cs) (hB : w.heap.size ≤ B) (hv : OVs w l cs) (hp : Parts w y Og og Of of Yr yr) (hi : i < l.length) :
    ApplySays (l.set i y) 0 w (.returned (.tuple #[.slice (some ⟨gg, 0, none⟩) l.length cap, .int .i64 0])) (((((((((w5.setCell ⟨gg, i * 9, none⟩ (.string y.n)).setCell ⟨gg, i * 9 + 1, none⟩ (.slice Og y.gr.length og)).setCell ⟨gg, i * 9 + 2, none⟩ (.slice Of y.sn.length of)).setCell ⟨gg, i * 9 + 3, none⟩ (.string y.go)).setCell ⟨gg, i * 9 + 4, none⟩ (.int .i64 y.st)).setCell ⟨gg, i * 9 + 5, none⟩ (.int .i64 y.r.e)).setCell ⟨gg, i * 9 + 6, none⟩ (.string y.r.at_)).setCell ⟨gg, i * 9 + 7, none⟩ (.string y.r.tx)).setCell ⟨gg, i * 9 + 8, none⟩ (.slice Yr y.r.fs.length yr)) := by
  obtain ⟨hg, hc⟩ := own_le ho
  have hg2 : w.heap.size ≤ gg := by omega
  have o9 := own9 ho hi (.string y.n) (.slice Og y.gr.length og) (.slice Of y.sn.length of) (.string y.go) (.int .i64 y.st) (.int .i64 y.r.e) (.string y.r.at_) (.string y.r.tx) (.slice Yr y.r.fs.length yr)
  have hbf := (((((((((hb.setCell (p := ⟨gg, i * 9, none⟩) hg2 (.string y.n)).setCell (p := ⟨gg, i * 9 + 1, none⟩) hg2 (.slice Og y.gr.length og)).setCell (p := ⟨gg, i * 9 + 2, none⟩) hg2 (.slice Of y.sn.length of)).setCell (p := ⟨gg, i * 9 + 3, none⟩) hg2 (.string y.go)).setCell (p := ⟨gg, i * 9 + 4, none⟩) hg2 (.int .i64 y.st)).setCell (p := ⟨gg, i * 9 + 5, none⟩) hg2 (.int .i64 y.r.e)).setCell (p := ⟨gg, i * 9 + 6, none⟩) hg2 (.string y.r.at_)).setCell (p := ⟨gg, i * 9 + 7, none⟩) hg2 (.string y.r.tx)).setCell (p := ⟨gg, i * 9 + 8, none⟩) hg2 (.slice Yr y.r.fs.length yr))
  have e : (l.set i y).length = l.length := by simp
  have hs := OVs.set hv hi (⟨Og, og, Of, of, Yr, yr, rfl, hp⟩ : OV w y (cellsOf y Og og Of of Yr yr))
  rw [show (i + 1) * 9 = i * 9 + 9 by omega] at hs
  refine ⟨⟨some ⟨gg, 0, none⟩, cap, by rw [e], by rw [e]; exact hc, _, hs.below hbf, by rw [e]; exact Reads.of_own o9⟩, hbf⟩
set_option maxHeartbeats 16000000 in
theorem apply_put2 (A : Option Addr) (l : List Op) (c : Nat) (x : Op) (Ag : Option Addr) (cg : Nat) (Af : Option Addr) (cf : Nat) (Ar : Option Addr) (cr : Nat) (w : World) (hr : Ops w A l) (hll : l.length ≤ 1000) (hlc : l.length ≤ c) (hp : Parts w x Ag cg Af cf Ar cr) {i : Nat} (hi : i < l.length) (h1 : idx (named x.n) l = i) {y0 : Op} (ht : turned l[i] ⟨2, x⟩ = some y0) :
    Calls Tryz.prog 55 #[.slice A l.length c, evOf 2 x Ag cg Af cf Ar cr] w (ApplySays (l.set i y0) 0 w) := by
  obtain ⟨W1, eW⟩ : ∃ W1, W1 = w.alloc (.cells #[.int .i64 2, .string x.n, .slice Ag x.gr.length cg, .slice Af x.sn.length cf, .string x.go, .int .i64 x.st, .int .i64 x.r.e, .string x.r.at_, .string x.r.tx, .slice Ar x.r.fs.length cr] 92) := ⟨_, rfl⟩
  have hb1 : Below w.heap.size w W1 := by rw [eW]; exact (Below.refl _ _).alloc (Nat.le_refl _) _
  have k1 : W1.heap[w.heap.size]? = some (.cells #[.int .i64 2, .string x.n, .slice Ag x.gr.length cg, .slice Af x.sn.length cf, .string x.go, .int .i64 x.st, .int .i64 x.r.e, .string x.r.at_, .string x.r.tx, .slice Ar x.r.fs.length cr] 92 (0, 0)) := by rw [eW]; exact heap_alloc_new w _
  have AT := at_any A l c x.n W1 (hr.below hb1) (by omega)
  rw [h1] at AT
  have ATH := Lib.hid AT
  have n0 : ¬ (i : Int) < 0 := by omega
  have hiI : (i : Int) < (l.length : Int) := by omega
  have CL : Hid (∀ W, Below w.heap.size w W → Calls Tryz.prog 29 #[.slice A l.length c] W (CloneFrom l w W)) := Lib.hid fun W hW => clone_from A l c w W hr hW (by omega)
  obtain ⟨ad, Og, og, Of, of, Or, or_, rfl, had, hps, d0, d1, d2, d3, d4, d5, d6, d7, d8⟩ := hr.nine_at hi
  have BW : Hid (∀ W, Below W1.heap.size W1 W → Below w.heap.size w W) := Lib.hid fun W hW => hb1.trans (hW.mono hb1.size)
  have TN : Hid (∀ W, Calls Tryz.prog 95 #[.agg #[.string l[i].n, .slice Og l[i].gr.length og, .slice Of l[i].sn.length of, .string l[i].go, .int .i64 l[i].st, .int .i64 l[i].r.e, .string l[i].r.at_, .string l[i].r.tx, .slice Or l[i].r.fs.length or_], .agg #[.int .i64 2, .string x.n, .slice Ag x.gr.length cg, .slice Af x.sn.length cf, .string x.go, .int .i64 x.st, .int .i64 x.r.e, .string x.r.at_, .string x.r.tx, .slice Ar x.r.fs.length cr]] W fun e w' => (∃ (y : Op) (Yr : Option Addr) (yr : Nat), e = .returned (.tuple #[.agg #[.string y.n, .slice Og y.gr.length og, .slice Of y.sn.length of, .string y.go, .int .i64 y.st, .int .i64 y.r.e, .string y.r.at_, .string y.r.tx, .slice Yr y.r.fs.length yr], .bool true]) ∧ (∀ y', turned l[i] ⟨2, x⟩ = some y' → y' = y) ∧ Parts w y Og og Of of Yr yr) ∧ Below W.heap.size W w') := Lib.hid fun W => turned_any l[i] x 2 (by omega) Og og Of of Or or_ Ag cg Af cf Ar cr w W hps hp (by rw [ht]; rfl)
  have cat : ∀ (W : World), Below W1.heap.size W1 W → ∀ j u, w.cell? ⟨(ad.add (i * 9)).block, j, none⟩ = some u → W.cell? ⟨(ad.add (i * 9)).block, j, none⟩ = some u := fun W hW j u h => ((BW.out _ hW).cell (by show (ad.add (i * 9)).block < _; rw [block_of_add]; exact had)).trans h
  have SX : Hid (∀ w', Below W1.heap.size W1 w' → w'.cell? (ad.add (i * 9)) = some (.string l[i].n) ∧ w'.cell? ⟨(ad.add (i * 9)).block, (ad.add (i * 9)).off + 1, none⟩ = some (.slice Og l[i].gr.length og) ∧ w'.cell? ⟨(ad.add (i * 9)).block, (ad.add (i * 9)).off + 2, none⟩ = some (.slice Of l[i].sn.length of) ∧ w'.cell? ⟨(ad.add (i * 9)).block, (ad.add (i * 9)).off + 3, none⟩ = some (.string l[i].go) ∧ w'.cell? ⟨(ad.add (i * 9)).block, (ad.add (i * 9)).off + 4, none⟩ = some (.int .i64 l[i].st) ∧ w'.cell? ⟨(ad.add (i * 9)).block, (ad.add (i * 9)).off + 5, none⟩ = some (.int .i64 l[i].r.e) ∧ w'.cell? ⟨(ad.add (i * 9)).block, (ad.add (i * 9)).off + 6, none⟩ = some (.string l[i].r.at_) ∧ w'.cell? ⟨(ad.add (i * 9)).block, (ad.add (i * 9)).off + 7, none⟩ = some (.string l[i].r.tx) ∧ w'.cell? ⟨(ad.add (i * 9)).block, (ad.add (i * 9)).off + 8, none⟩ = some (.slice Or l[i].r.fs.length or_) ∧ w'.cell? ⟨w.heap.size, 0, none⟩ = some (.int .i64 2) ∧ w'.cell? ⟨w.heap.size, 1, none⟩ = some (.string x.n) ∧ w'.cell? ⟨w.heap.size, 2, none⟩ = some (.slice Ag x.gr.length cg) ∧ w'.cell? ⟨w.heap.size, 3, none⟩ = some (.slice Af x.sn.length cf) ∧ w'.cell? ⟨w.heap.size, 4, none⟩ = some (.string x.go) ∧ w'.cell? ⟨w.heap.size, 5, none⟩ = some (.int .i64 x.st) ∧ w'.cell? ⟨w.heap.size, 6, none⟩ = some (.int .i64 x.r.e) ∧ w'.cell? ⟨w.heap.size, 7, none⟩ = some (.string x.r.at_) ∧ w'.cell? ⟨w.heap.size, 8, none⟩ = some (.string x.r.tx) ∧ w'.cell? ⟨w.heap.size, 9, none⟩ = some (.slice Ar x.r.fs.length cr)) := Lib.hid fun W hW => ⟨((BW.out _ hW).cell (by rw [block_of_add]; exact had)).trans d0, cat W hW _ _ d1, cat W hW _ _ d2, cat W hW _ _ d3, cat W hW _ _ d4, cat W hW _ _ d5, cat W hW _ _ d6, cat W hW _ _ d7, cat W hW _ _ d8, at_put3 k1 0 rfl W hW, at_put3 k1 1 rfl W hW, at_put3 k1 2 rfl W hW, at_put3 k1 3 rfl W hW, at_put3 k1 4 rfl W hW, at_put3 k1 5 rfl W hW, at_put3 k1 6 rfl W hW, at_put3 k1 7 rfl W hW, at_put3 k1 8 rfl W hW, at_put3 k1 9 rfl W hW⟩
  clear hps hp hr h1 AT d0 d1 d2 d3 d4 d5 d6 d7 d8 cat k1
  have HT := Lib.hid ht
  clear ht
  generalize l[i] = o at *
  unfold evOf
  go_enter Tryz.func55, Tryz.ntmps55
  go_wp2_with (go_at_call 28; rw [← eW]; clear eW; (with_reducible refine (ATH.out).mono ?_); rintro e V ⟨rfl, hbV⟩)
  have hVs := hbV.size
  have dA : Below W1.heap.size W1 V.drew := hbV.drew
  have dB : Below W1.heap.size W1 (V.alloc (.cells #[.string ⟨#[]⟩, .slice none 0 0, .slice none 0 0, .string ⟨#[]⟩, .int .i64 0, .int .i64 0, .string ⟨#[]⟩, .string ⟨#[]⟩, .slice none 0 0] 29)).drew := (hbV.alloc hbV.size _).drew
  have xB : ((V.alloc (.cells #[.string ⟨#[]⟩, .slice none 0 0, .slice none 0 0, .string ⟨#[]⟩, .int .i64 0, .int .i64 0, .string ⟨#[]⟩, .string ⟨#[]⟩, .slice none 0 0] 29)).drew).heap[V.heap.size]? = some (.cells #[.string ⟨#[]⟩, .slice none 0 0, .slice none 0 0, .string ⟨#[]⟩, .int .i64 0, .int .i64 0, .string ⟨#[]⟩, .string ⟨#[]⟩, .slice none 0 0] 29 (0, 0)) := heap_alloc_new V _
  obtain ⟨s0, s1, s2, s3, s4, s5, s6, s7, s8, s9, s10, s11, s12, s13, s14, s15, s16, s17, s18⟩ := SX.out _ hbV
  go_region_held3 (fun w' => w'.cell? (ad.add (i * 9)) = some (.string o.n) ∧ w'.cell? ⟨(ad.add (i * 9)).block, (ad.add (i * 9)).off + 1, none⟩ = some (.slice Og o.gr.length og) ∧ w'.cell? ⟨(ad.add (i * 9)).block, (ad.add (i * 9)).off + 2, none⟩ = some (.slice Of o.sn.length of) ∧ w'.cell? ⟨(ad.add (i * 9)).block, (ad.add (i * 9)).off + 3, none⟩ = some (.string o.go) ∧ w'.cell? ⟨(ad.add (i * 9)).block, (ad.add (i * 9)).off + 4, none⟩ = some (.int .i64 o.st) ∧ w'.cell? ⟨(ad.add (i * 9)).block, (ad.add (i * 9)).off + 5, none⟩ = some (.int .i64 o.r.e) ∧ w'.cell? ⟨(ad.add (i * 9)).block, (ad.add (i * 9)).off + 6, none⟩ = some (.string o.r.at_) ∧ w'.cell? ⟨(ad.add (i * 9)).block, (ad.add (i * 9)).off + 7, none⟩ = some (.string o.r.tx) ∧ w'.cell? ⟨(ad.add (i * 9)).block, (ad.add (i * 9)).off + 8, none⟩ = some (.slice Or o.r.fs.length or_) ∧ w'.cell? ⟨w.heap.size, 0, none⟩ = some (.int .i64 2) ∧ w'.cell? ⟨w.heap.size, 1, none⟩ = some (.string x.n) ∧ w'.cell? ⟨w.heap.size, 2, none⟩ = some (.slice Ag x.gr.length cg) ∧ w'.cell? ⟨w.heap.size, 3, none⟩ = some (.slice Af x.sn.length cf) ∧ w'.cell? ⟨w.heap.size, 4, none⟩ = some (.string x.go) ∧ w'.cell? ⟨w.heap.size, 5, none⟩ = some (.int .i64 x.st) ∧ w'.cell? ⟨w.heap.size, 6, none⟩ = some (.int .i64 x.r.e) ∧ w'.cell? ⟨w.heap.size, 7, none⟩ = some (.string x.r.at_) ∧ w'.cell? ⟨w.heap.size, 8, none⟩ = some (.string x.r.tx) ∧ w'.cell? ⟨w.heap.size, 9, none⟩ = some (.slice Ar x.r.fs.length cr))
    (first | (with_reducible exact SX.out _ dA) | (with_reducible exact SX.out _ dB) | (with_reducible exact SX.out _ hv2) | (with_reducible exact SX.out _ (hv2.alloc hv2.size _)) | (with_reducible exact SX.out _ (chain9_below hv2 hVs _ _ _ _ _ _ _ _ _)))
    (first | ((go_at_call 95; (with_reducible refine (TN.out _).mono ?_); rintro e w2 ⟨⟨y, Yr, yr, rfl, hy, hyp⟩, hb2⟩; first | (have hv2 : Below W1.heap.size W1 w2 := dA.trans (hb2.mono dA.size)) | (have hv2 : Below W1.heap.size W1 w2 := dB.trans (hb2.mono dB.size); have K2 := (hb2.block V.heap.size (by simp)).trans xB; obtain ⟨c0, c1, c2, c3, c4, c5, c6, c7, c8, f0, f1, f2, f3, f4, f5, f6, f7, f8⟩ := nine K2))))
  all_goals
    first
    | (have KK := K2; generalize eF : (((((((((w2.setCell ⟨V.heap.size, 0, none⟩ (.string y.n)).setCell ⟨V.heap.size, 1, none⟩ (.slice Og y.gr.length og)).setCell ⟨V.heap.size, 2, none⟩ (.slice Of y.sn.length of)).setCell ⟨V.heap.size, 3, none⟩ (.string y.go)).setCell ⟨V.heap.size, 4, none⟩ (.int .i64 y.st)).setCell ⟨V.heap.size, 5, none⟩ (.int .i64 y.r.e)).setCell ⟨V.heap.size, 6, none⟩ (.string y.r.at_)).setCell ⟨V.heap.size, 7, none⟩ (.string y.r.tx)).setCell ⟨V.heap.size, 8, none⟩ (.slice Yr y.r.fs.length yr)) = WF; have hF : Below W1.heap.size W1 WF := (by rw [← eF]; exact chain9_below hv2 hVs _ _ _ _ _ _ _ _ _); have kF : WF.heap[V.heap.size]? = some (.cells #[.string y.n, .slice Og y.gr.length og, .slice Of y.sn.length of, .string y.go, .int .i64 y.st, .int .i64 y.r.e, .string y.r.at_, .string y.r.tx, .slice Yr y.r.fs.length yr] 29 (0, 0)) := (by rw [← eF]; exact set9 K2 _ _ _ _ _ _ _ _ _); clear K2 KK c0 c1 c2 c3 c4 c5 c6 c7 c8 f0 f1 f2 f3 f4 f5 f6 f7 f8 eF)
    | (generalize eF : w2.alloc (.cells #[.string y.n, .slice Og y.gr.length og, .slice Of y.sn.length of, .string y.go, .int .i64 y.st, .int .i64 y.r.e, .string y.r.at_, .string y.r.tx, .slice Yr y.r.fs.length yr] 29) = WF; have hF : Below W1.heap.size W1 WF := (by rw [← eF]; exact hv2.alloc hv2.size _); have kF : WF.heap[w2.heap.size]? = some (.cells #[.string y.n, .slice Og y.gr.length og, .slice Of y.sn.length of, .string y.go, .int .i64 y.st, .int .i64 y.r.e, .string y.r.at_, .string y.r.tx, .slice Yr y.r.fs.length yr] 29 (0, 0)) := (by rw [← eF]; exact heap_alloc_new w2 _); clear eF)
    have C1 := Lib.hid (CL.out WF (BW.out _ hF))
    unfold CloneFrom at C1
    have HP := Lib.hid hyp
    have HY := Lib.hid hy
    have H0 := Lib.hid (at_put3' kF)
    clear hyp hy kF
    go_wp2_with (go_at_call 29; (with_reducible refine (C1.out).mono ?_); rintro e w5 ⟨⟨v5, cs, rfl, ho5, hv5⟩, hb5⟩; obtain ⟨gg, cap, rfl⟩ := own_some ho5 (by omega); obtain ⟨y0', y1', y2', y3', y4', y5', y6', y7', y8', _⟩ := nine (H0.out _ hb5); obtain ⟨⟨u0, q0⟩, r0⟩ := own_at ho5 (j := i * 9) (by omega); obtain ⟨⟨u1, q1⟩, r1⟩ := own_at ho5 (j := i * 9 + 1) (by omega); obtain ⟨⟨u2, q2⟩, r2⟩ := own_at ho5 (j := i * 9 + 2) (by omega); obtain ⟨⟨u3, q3⟩, r3⟩ := own_at ho5 (j := i * 9 + 3) (by omega); obtain ⟨⟨u4, q4⟩, r4⟩ := own_at ho5 (j := i * 9 + 4) (by omega); obtain ⟨⟨u5, q5⟩, r5⟩ := own_at ho5 (j := i * 9 + 5) (by omega); obtain ⟨⟨u6, q6⟩, r6⟩ := own_at ho5 (j := i * 9 + 6) (by omega); obtain ⟨⟨u7, q7⟩, r7⟩ := own_at ho5 (j := i * 9 + 7) (by omega); obtain ⟨⟨u8, q8⟩, r8⟩ := own_at ho5 (j := i * 9 + 8) (by omega); have HO := Lib.hid ho5; have HV := Lib.hid hv5; have hb5' := hF.trans (hb5.mono hF.size); clear ho5 hv5)
    go_ret2
    rw [HY.out y0 HT.out]
    exact put_fin (BW.out _ hb5') HO.out (BW.out _ hF).size HV.out HP.out hi
set_option maxHeartbeats 16000000 in
theorem apply_put3 (A : Option Addr) (l : List Op) (c : Nat) (x : Op) (Ag : Option Addr) (cg : Nat) (Af : Option Addr) (cf : Nat) (Ar : Option Addr) (cr : Nat) (w : World) (hr : Ops w A l) (hll : l.length ≤ 1000) (hlc : l.length ≤ c) (hp : Parts w x Ag cg Af cf Ar cr) {i : Nat} (hi : i < l.length) (h1 : idx (named x.n) l = i) {y0 : Op} (ht : turned l[i] ⟨3, x⟩ = some y0) :
    Calls Tryz.prog 55 #[.slice A l.length c, evOf 3 x Ag cg Af cf Ar cr] w (ApplySays (l.set i y0) 0 w) := by
  obtain ⟨W1, eW⟩ : ∃ W1, W1 = w.alloc (.cells #[.int .i64 3, .string x.n, .slice Ag x.gr.length cg, .slice Af x.sn.length cf, .string x.go, .int .i64 x.st, .int .i64 x.r.e, .string x.r.at_, .string x.r.tx, .slice Ar x.r.fs.length cr] 92) := ⟨_, rfl⟩
  have hb1 : Below w.heap.size w W1 := by rw [eW]; exact (Below.refl _ _).alloc (Nat.le_refl _) _
  have k1 : W1.heap[w.heap.size]? = some (.cells #[.int .i64 3, .string x.n, .slice Ag x.gr.length cg, .slice Af x.sn.length cf, .string x.go, .int .i64 x.st, .int .i64 x.r.e, .string x.r.at_, .string x.r.tx, .slice Ar x.r.fs.length cr] 92 (0, 0)) := by rw [eW]; exact heap_alloc_new w _
  have AT := at_any A l c x.n W1 (hr.below hb1) (by omega)
  rw [h1] at AT
  have ATH := Lib.hid AT
  have n0 : ¬ (i : Int) < 0 := by omega
  have hiI : (i : Int) < (l.length : Int) := by omega
  have CL : Hid (∀ W, Below w.heap.size w W → Calls Tryz.prog 29 #[.slice A l.length c] W (CloneFrom l w W)) := Lib.hid fun W hW => clone_from A l c w W hr hW (by omega)
  obtain ⟨ad, Og, og, Of, of, Or, or_, rfl, had, hps, d0, d1, d2, d3, d4, d5, d6, d7, d8⟩ := hr.nine_at hi
  have BW : Hid (∀ W, Below W1.heap.size W1 W → Below w.heap.size w W) := Lib.hid fun W hW => hb1.trans (hW.mono hb1.size)
  have TN : Hid (∀ W, Calls Tryz.prog 95 #[.agg #[.string l[i].n, .slice Og l[i].gr.length og, .slice Of l[i].sn.length of, .string l[i].go, .int .i64 l[i].st, .int .i64 l[i].r.e, .string l[i].r.at_, .string l[i].r.tx, .slice Or l[i].r.fs.length or_], .agg #[.int .i64 3, .string x.n, .slice Ag x.gr.length cg, .slice Af x.sn.length cf, .string x.go, .int .i64 x.st, .int .i64 x.r.e, .string x.r.at_, .string x.r.tx, .slice Ar x.r.fs.length cr]] W fun e w' => (∃ (y : Op) (Yr : Option Addr) (yr : Nat), e = .returned (.tuple #[.agg #[.string y.n, .slice Og y.gr.length og, .slice Of y.sn.length of, .string y.go, .int .i64 y.st, .int .i64 y.r.e, .string y.r.at_, .string y.r.tx, .slice Yr y.r.fs.length yr], .bool true]) ∧ (∀ y', turned l[i] ⟨3, x⟩ = some y' → y' = y) ∧ Parts w y Og og Of of Yr yr) ∧ Below W.heap.size W w') := Lib.hid fun W => turned_any l[i] x 3 (by omega) Og og Of of Or or_ Ag cg Af cf Ar cr w W hps hp (by rw [ht]; rfl)
  have cat : ∀ (W : World), Below W1.heap.size W1 W → ∀ j u, w.cell? ⟨(ad.add (i * 9)).block, j, none⟩ = some u → W.cell? ⟨(ad.add (i * 9)).block, j, none⟩ = some u := fun W hW j u h => ((BW.out _ hW).cell (by show (ad.add (i * 9)).block < _; rw [block_of_add]; exact had)).trans h
  have SX : Hid (∀ w', Below W1.heap.size W1 w' → w'.cell? (ad.add (i * 9)) = some (.string l[i].n) ∧ w'.cell? ⟨(ad.add (i * 9)).block, (ad.add (i * 9)).off + 1, none⟩ = some (.slice Og l[i].gr.length og) ∧ w'.cell? ⟨(ad.add (i * 9)).block, (ad.add (i * 9)).off + 2, none⟩ = some (.slice Of l[i].sn.length of) ∧ w'.cell? ⟨(ad.add (i * 9)).block, (ad.add (i * 9)).off + 3, none⟩ = some (.string l[i].go) ∧ w'.cell? ⟨(ad.add (i * 9)).block, (ad.add (i * 9)).off + 4, none⟩ = some (.int .i64 l[i].st) ∧ w'.cell? ⟨(ad.add (i * 9)).block, (ad.add (i * 9)).off + 5, none⟩ = some (.int .i64 l[i].r.e) ∧ w'.cell? ⟨(ad.add (i * 9)).block, (ad.add (i * 9)).off + 6, none⟩ = some (.string l[i].r.at_) ∧ w'.cell? ⟨(ad.add (i * 9)).block, (ad.add (i * 9)).off + 7, none⟩ = some (.string l[i].r.tx) ∧ w'.cell? ⟨(ad.add (i * 9)).block, (ad.add (i * 9)).off + 8, none⟩ = some (.slice Or l[i].r.fs.length or_) ∧ w'.cell? ⟨w.heap.size, 0, none⟩ = some (.int .i64 3) ∧ w'.cell? ⟨w.heap.size, 1, none⟩ = some (.string x.n) ∧ w'.cell? ⟨w.heap.size, 2, none⟩ = some (.slice Ag x.gr.length cg) ∧ w'.cell? ⟨w.heap.size, 3, none⟩ = some (.slice Af x.sn.length cf) ∧ w'.cell? ⟨w.heap.size, 4, none⟩ = some (.string x.go) ∧ w'.cell? ⟨w.heap.size, 5, none⟩ = some (.int .i64 x.st) ∧ w'.cell? ⟨w.heap.size, 6, none⟩ = some (.int .i64 x.r.e) ∧ w'.cell? ⟨w.heap.size, 7, none⟩ = some (.string x.r.at_) ∧ w'.cell? ⟨w.heap.size, 8, none⟩ = some (.string x.r.tx) ∧ w'.cell? ⟨w.heap.size, 9, none⟩ = some (.slice Ar x.r.fs.length cr)) := Lib.hid fun W hW => ⟨((BW.out _ hW).cell (by rw [block_of_add]; exact had)).trans d0, cat W hW _ _ d1, cat W hW _ _ d2, cat W hW _ _ d3, cat W hW _ _ d4, cat W hW _ _ d5, cat W hW _ _ d6, cat W hW _ _ d7, cat W hW _ _ d8, at_put3 k1 0 rfl W hW, at_put3 k1 1 rfl W hW, at_put3 k1 2 rfl W hW, at_put3 k1 3 rfl W hW, at_put3 k1 4 rfl W hW, at_put3 k1 5 rfl W hW, at_put3 k1 6 rfl W hW, at_put3 k1 7 rfl W hW, at_put3 k1 8 rfl W hW, at_put3 k1 9 rfl W hW⟩
  clear hps hp hr h1 AT d0 d1 d2 d3 d4 d5 d6 d7 d8 cat k1
  have HT := Lib.hid ht
  clear ht
  generalize l[i] = o at *
  unfold evOf
  go_enter Tryz.func55, Tryz.ntmps55
  go_wp2_with (go_at_call 28; rw [← eW]; clear eW; (with_reducible refine (ATH.out).mono ?_); rintro e V ⟨rfl, hbV⟩)
  have hVs := hbV.size
  have dA : Below W1.heap.size W1 V.drew := hbV.drew
  have dB : Below W1.heap.size W1 (V.alloc (.cells #[.string ⟨#[]⟩, .slice none 0 0, .slice none 0 0, .string ⟨#[]⟩, .int .i64 0, .int .i64 0, .string ⟨#[]⟩, .string ⟨#[]⟩, .slice none 0 0] 29)).drew := (hbV.alloc hbV.size _).drew
  have xB : ((V.alloc (.cells #[.string ⟨#[]⟩, .slice none 0 0, .slice none 0 0, .string ⟨#[]⟩, .int .i64 0, .int .i64 0, .string ⟨#[]⟩, .string ⟨#[]⟩, .slice none 0 0] 29)).drew).heap[V.heap.size]? = some (.cells #[.string ⟨#[]⟩, .slice none 0 0, .slice none 0 0, .string ⟨#[]⟩, .int .i64 0, .int .i64 0, .string ⟨#[]⟩, .string ⟨#[]⟩, .slice none 0 0] 29 (0, 0)) := heap_alloc_new V _
  obtain ⟨s0, s1, s2, s3, s4, s5, s6, s7, s8, s9, s10, s11, s12, s13, s14, s15, s16, s17, s18⟩ := SX.out _ hbV
  go_region_held3 (fun w' => w'.cell? (ad.add (i * 9)) = some (.string o.n) ∧ w'.cell? ⟨(ad.add (i * 9)).block, (ad.add (i * 9)).off + 1, none⟩ = some (.slice Og o.gr.length og) ∧ w'.cell? ⟨(ad.add (i * 9)).block, (ad.add (i * 9)).off + 2, none⟩ = some (.slice Of o.sn.length of) ∧ w'.cell? ⟨(ad.add (i * 9)).block, (ad.add (i * 9)).off + 3, none⟩ = some (.string o.go) ∧ w'.cell? ⟨(ad.add (i * 9)).block, (ad.add (i * 9)).off + 4, none⟩ = some (.int .i64 o.st) ∧ w'.cell? ⟨(ad.add (i * 9)).block, (ad.add (i * 9)).off + 5, none⟩ = some (.int .i64 o.r.e) ∧ w'.cell? ⟨(ad.add (i * 9)).block, (ad.add (i * 9)).off + 6, none⟩ = some (.string o.r.at_) ∧ w'.cell? ⟨(ad.add (i * 9)).block, (ad.add (i * 9)).off + 7, none⟩ = some (.string o.r.tx) ∧ w'.cell? ⟨(ad.add (i * 9)).block, (ad.add (i * 9)).off + 8, none⟩ = some (.slice Or o.r.fs.length or_) ∧ w'.cell? ⟨w.heap.size, 0, none⟩ = some (.int .i64 3) ∧ w'.cell? ⟨w.heap.size, 1, none⟩ = some (.string x.n) ∧ w'.cell? ⟨w.heap.size, 2, none⟩ = some (.slice Ag x.gr.length cg) ∧ w'.cell? ⟨w.heap.size, 3, none⟩ = some (.slice Af x.sn.length cf) ∧ w'.cell? ⟨w.heap.size, 4, none⟩ = some (.string x.go) ∧ w'.cell? ⟨w.heap.size, 5, none⟩ = some (.int .i64 x.st) ∧ w'.cell? ⟨w.heap.size, 6, none⟩ = some (.int .i64 x.r.e) ∧ w'.cell? ⟨w.heap.size, 7, none⟩ = some (.string x.r.at_) ∧ w'.cell? ⟨w.heap.size, 8, none⟩ = some (.string x.r.tx) ∧ w'.cell? ⟨w.heap.size, 9, none⟩ = some (.slice Ar x.r.fs.length cr))
    (first | (with_reducible exact SX.out _ dA) | (with_reducible exact SX.out _ dB) | (with_reducible exact SX.out _ hv2) | (with_reducible exact SX.out _ (hv2.alloc hv2.size _)) | (with_reducible exact SX.out _ (chain9_below hv2 hVs _ _ _ _ _ _ _ _ _)))
    (first | ((go_at_call 95; (with_reducible refine (TN.out _).mono ?_); rintro e w2 ⟨⟨y, Yr, yr, rfl, hy, hyp⟩, hb2⟩; first | (have hv2 : Below W1.heap.size W1 w2 := dA.trans (hb2.mono dA.size)) | (have hv2 : Below W1.heap.size W1 w2 := dB.trans (hb2.mono dB.size); have K2 := (hb2.block V.heap.size (by simp)).trans xB; obtain ⟨c0, c1, c2, c3, c4, c5, c6, c7, c8, f0, f1, f2, f3, f4, f5, f6, f7, f8⟩ := nine K2))))
  all_goals
    first
    | (have KK := K2; generalize eF : (((((((((w2.setCell ⟨V.heap.size, 0, none⟩ (.string y.n)).setCell ⟨V.heap.size, 1, none⟩ (.slice Og y.gr.length og)).setCell ⟨V.heap.size, 2, none⟩ (.slice Of y.sn.length of)).setCell ⟨V.heap.size, 3, none⟩ (.string y.go)).setCell ⟨V.heap.size, 4, none⟩ (.int .i64 y.st)).setCell ⟨V.heap.size, 5, none⟩ (.int .i64 y.r.e)).setCell ⟨V.heap.size, 6, none⟩ (.string y.r.at_)).setCell ⟨V.heap.size, 7, none⟩ (.string y.r.tx)).setCell ⟨V.heap.size, 8, none⟩ (.slice Yr y.r.fs.length yr)) = WF; have hF : Below W1.heap.size W1 WF := (by rw [← eF]; exact chain9_below hv2 hVs _ _ _ _ _ _ _ _ _); have kF : WF.heap[V.heap.size]? = some (.cells #[.string y.n, .slice Og y.gr.length og, .slice Of y.sn.length of, .string y.go, .int .i64 y.st, .int .i64 y.r.e, .string y.r.at_, .string y.r.tx, .slice Yr y.r.fs.length yr] 29 (0, 0)) := (by rw [← eF]; exact set9 K2 _ _ _ _ _ _ _ _ _); clear K2 KK c0 c1 c2 c3 c4 c5 c6 c7 c8 f0 f1 f2 f3 f4 f5 f6 f7 f8 eF)
    | (generalize eF : w2.alloc (.cells #[.string y.n, .slice Og y.gr.length og, .slice Of y.sn.length of, .string y.go, .int .i64 y.st, .int .i64 y.r.e, .string y.r.at_, .string y.r.tx, .slice Yr y.r.fs.length yr] 29) = WF; have hF : Below W1.heap.size W1 WF := (by rw [← eF]; exact hv2.alloc hv2.size _); have kF : WF.heap[w2.heap.size]? = some (.cells #[.string y.n, .slice Og y.gr.length og, .slice Of y.sn.length of, .string y.go, .int .i64 y.st, .int .i64 y.r.e, .string y.r.at_, .string y.r.tx, .slice Yr y.r.fs.length yr] 29 (0, 0)) := (by rw [← eF]; exact heap_alloc_new w2 _); clear eF)
    have C1 := Lib.hid (CL.out WF (BW.out _ hF))
    unfold CloneFrom at C1
    have HP := Lib.hid hyp
    have HY := Lib.hid hy
    have H0 := Lib.hid (at_put3' kF)
    clear hyp hy kF
    go_wp2_with (go_at_call 29; (with_reducible refine (C1.out).mono ?_); rintro e w5 ⟨⟨v5, cs, rfl, ho5, hv5⟩, hb5⟩; obtain ⟨gg, cap, rfl⟩ := own_some ho5 (by omega); obtain ⟨y0', y1', y2', y3', y4', y5', y6', y7', y8', _⟩ := nine (H0.out _ hb5); obtain ⟨⟨u0, q0⟩, r0⟩ := own_at ho5 (j := i * 9) (by omega); obtain ⟨⟨u1, q1⟩, r1⟩ := own_at ho5 (j := i * 9 + 1) (by omega); obtain ⟨⟨u2, q2⟩, r2⟩ := own_at ho5 (j := i * 9 + 2) (by omega); obtain ⟨⟨u3, q3⟩, r3⟩ := own_at ho5 (j := i * 9 + 3) (by omega); obtain ⟨⟨u4, q4⟩, r4⟩ := own_at ho5 (j := i * 9 + 4) (by omega); obtain ⟨⟨u5, q5⟩, r5⟩ := own_at ho5 (j := i * 9 + 5) (by omega); obtain ⟨⟨u6, q6⟩, r6⟩ := own_at ho5 (j := i * 9 + 6) (by omega); obtain ⟨⟨u7, q7⟩, r7⟩ := own_at ho5 (j := i * 9 + 7) (by omega); obtain ⟨⟨u8, q8⟩, r8⟩ := own_at ho5 (j := i * 9 + 8) (by omega); have HO := Lib.hid ho5; have HV := Lib.hid hv5; have hb5' := hF.trans (hb5.mono hF.size); clear ho5 hv5)
    go_ret2
    rw [HY.out y0 HT.out]
    exact put_fin (BW.out _ hb5') HO.out (BW.out _ hF).size HV.out HP.out hi
end Go.Proofs.YtifiipmmgnmciaaGreatDoor.Ops
