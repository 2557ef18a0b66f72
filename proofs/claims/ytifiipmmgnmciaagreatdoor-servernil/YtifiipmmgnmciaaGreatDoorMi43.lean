/- Joined by mkmerged.py: SvMem, SvTurn, SvEx, SvOw. -/
import Derived.Test.YtifiipmmgnmciaaGreatDoorMi42
import Derived.Test.YtifiipmmgnmciaaGreatDoorMi32
import Derived.StillTailTactics
/- SvMem, what a claim needs of it (prune.py). -/
namespace Go.Proofs.YtifiipmmgnmciaaGreatDoor.Sv
open Go.RowKit
open Dk (Dk Kp DkAt)
open Ops (OV OVs Parts OkO)
open Ol (Ol OlAt)
set_option linter.unusedVariables false
set_option maxRecDepth 100000
def SS (v : Value) : Prop := (∃ s, v = .string s) ∨ ∃ A n c, v = .slice A n c
def NoS (W : World) (b : Nat) : Prop := ∀ (a : Addr) s v, a.block = b → W.cell? a = some (.string s) → W.cell? (a.add 1) = some v → ¬ SS v
theorem noS_cells {W : World} {b : Nat} {cs : Array Value} {T : TypeId} (h : W.heap[b]? = some (.cells cs T (0, 0))) (hc : ∀ (k : Nat) s v, cs[k]? = some (.string s) → cs[k + 1]? = some v → ¬ SS v) : NoS W b := fun a s v hb e e2 => by
  have key : ∀ (x : Addr) u, x.block = b → W.cell? x = some u → cs[x.off]? = some u := fun x u hx hu => by
    unfold World.cell? at hu
    rw [hx, h] at hu
    simp only at hu
    split at hu
    · cases hu
    · exact hu
  exact hc _ _ _ (key a _ hb e) (key (a.add 1) _ ((block_of_add a 1).trans hb) e2)
theorem reads_ss {S : Nat → Prop} {W W' : World} {B0 s n : Nat} {A : Option Addr} {xs : List Value} (h : Reads W B0 s A n xs) (hk : Kp S W W') (hB : B0 ≤ W.heap.size) (hS : ∀ k, S k → NoS W k) (hx : 0 < n → ∃ t v, xs[0]? = some (.string t) ∧ xs[1]? = some v ∧ SS v) : Reads W' W'.heap.size s A n xs :=
  ⟨h.1, fun hn => by
    obtain ⟨ad, e, hb, hc⟩ := h.2 hn
    obtain ⟨t, v, ht, hv, hs⟩ := hx hn
    have h0 := hc 0 _ ht
    have h1 := hc 1 _ hv
    have hns : ¬ S ad.block := fun hq => hS _ hq (ad.add 0) t v (block_of_add ad 0) h0 (by rw [show (ad.add 0).add 1 = ad.add 1 from by simp [Addr.add]]; exact h1) hs
    exact ⟨ad, e, by have := hk.size; omega, fun j u hu => (World.cell?_of_block (by rw [block_of_add]; exact hk.block _ (by omega) hns)).trans (hc j u hu)⟩⟩
theorem fls_ss {S : Nat → Prop} {W W' : World} {A : Option Addr} {l : List Fl} (h : Fs.Fls W A l) (hk : Kp S W W') (hS : ∀ k, S k → NoS W k) : Fs.Fls W' A l :=
  reads_ss h hk (Nat.le_refl _) hS (fun hn => by
    cases l with
    | nil => simp at hn
    | cons x l => exact ⟨x.p, .string x.d, rfl, rfl, .inl ⟨_, rfl⟩⟩)
def Bare (l : List Tg) : Prop := ∀ t ∈ l, t.ds = [] ∧ t.ss = []
theorem strs_none {W : World} {B0 : Nat} {A : Option Addr} {l : List ByteArray} (h : l = []) : Strs W B0 A l := by subst h; exact Reads.none_
theorem tgs_ss {S : Nat → Prop} {W W' : World} {A : Option Addr} {l : List Tg} (h : Tgs W W.heap.size A l) (hk : Kp S W W') (hS : ∀ k, S k → NoS W k) (hb : Bare l) : Tgs W' W'.heap.size A l := fun hl => by
  obtain ⟨ad, e, h1, h2⟩ := h hl
  refine ⟨ad, e, Nat.lt_of_lt_of_le h1 hk.size, fun k hk' => ?_⟩
  obtain ⟨Ad, cd, As, cs, c0, c1, c2, c3, c4, c5⟩ := h2 k hk'
  obtain ⟨b1, b2⟩ := hb _ (List.getElem_mem hk')
  have hl2 : (ad.add (k * 4)).block < W.heap.size := by rw [block_of_add]; exact h1
  have hns : ¬ S (ad.add (k * 4)).block := fun hq => hS _ hq (ad.add (k * 4)) _ _ rfl c0 c1 (.inl ⟨_, rfl⟩)
  have hc : ∀ j, W'.cell? ((ad.add (k * 4)).add j) = W.cell? ((ad.add (k * 4)).add j) := fun j => World.cell?_of_block (by rw [block_of_add]; exact hk.block _ hl2 hns)
  exact ⟨Ad, cd, As, cs, (hc 0).trans c0, (hc 1).trans c1, (hc 2).trans c2, (hc 3).trans c3, strs_none b1, strs_none b2⟩
theorem ovs_ss {S : Nat → Prop} {W W' : World} (hk : Kp S W W') (hS : ∀ k, S k → NoS W k) : ∀ {l : List Ol.Op} {cs : List Value}, (∀ x ∈ l, Bare x.gr) → OVs W l cs → OVs W' l cs
  | [], cs, _, h => h
  | x :: l, cs, hb, ⟨a, b, e, ⟨Ag, cg, Af, cf, Ar, cr, e2, hp⟩, h2⟩ => ⟨a, b, e, ⟨Ag, cg, Af, cf, Ar, cr, e2, ⟨tgs_ss hp.g hk hS (hb x (by simp)), fls_ss hp.f hk hS, fls_ss hp.r hk hS, hp.gc, hp.fc, hp.rc⟩⟩, ovs_ss hk hS (fun y hy => hb y (by simp [hy])) h2⟩
theorem ops_ss {S : Nat → Prop} {W W' : World} {A : Option Addr} {l : List Ol.Op} (h : Ops.Ops W A l) (hk : Kp S W W') (hS : ∀ k, S k → NoS W k) (hb : ∀ x ∈ l, Bare x.gr) : Ops.Ops W' A l := by
  obtain ⟨cs, h1, h2⟩ := h
  refine ⟨cs, ovs_ss hk hS hb h1, reads_ss h2 hk (Nat.le_refl _) hS (fun hn => ?_)⟩
  cases l with
  | nil => simp at hn
  | cons x l =>
    obtain ⟨a, b, e, ⟨Ag, cg, Af, cf, Ar, cr, e2, hp⟩, h3⟩ := h1
    exact ⟨x.n, .slice Ag x.gr.length cg, by rw [e, e2]; rfl, by rw [e, e2]; rfl, .inr ⟨_, _, _, rfl⟩⟩
theorem olAt_ss {S : Nat → Prop} {W W' : World} {bo bl b m nn : Nat} {o : Ol} (h : OlAt W bo bl b m nn o) (hk : Kp S W W') (hS : ∀ k, S k → NoS W k ∧ k ≠ bo ∧ k ≠ bl ∧ k ≠ b ∧ k ≠ m) (hb : ∀ x ∈ o.l, Bare x.gr) : OlAt W' bo bl b m nn o := by
  obtain ⟨A, c, hs, hc, ho⟩ := h.st
  obtain ⟨l1, l2, l3, l4⟩ := h.lt
  exact ⟨⟨A, c, (hk.block _ l1 (fun e => (hS _ e).2.1 rfl)).trans hs, hc, ops_ss ho hk (fun k hk => (hS k hk).1) hb⟩, ⟨(hk.block _ l2 (fun e => (hS _ e).2.2.1 rfl)).trans h.log.st⟩, h.dk.keep (hk.block _ l3 (fun e => (hS _ e).2.2.2.1 rfl)) (hk.block _ l4 (fun e => (hS _ e).2.2.2.2 rfl)), h.ok, h.few⟩
end Go.Proofs.YtifiipmmgnmciaaGreatDoor.Sv
/- SvTurn, what a claim needs of it (prune.py). -/
namespace Go.Proofs.YtifiipmmgnmciaaGreatDoor.Sv
open Go.RowKit Go.Maps
open Dk (Kp)
open Ol (Ol OlAt)
set_option linter.unusedVariables false
set_option maxRecDepth 100000
abbrev xC (x : Ol.Op) (Ag : Option Addr) (cg : Nat) (Af : Option Addr) (cf : Nat) (Ar : Option Addr) (cr : Nat) : Array Value := opC x.n Ag x.gr.length cg Af x.sn.length cf x.go x.st x.r.e x.r.at_ x.r.tx Ar x.r.fs.length cr
def ListOne (W : World) (x : Ol.Op) (e : Ending) (w' : World) : Prop := ∃ g c Ag cg Af cf Ar cr, e = .returned (.slice (some ⟨g, 0, none⟩) 1 c) ∧ Ops.Parts w' x Ag cg Af cf Ar cr ∧ (∀ (j : Nat) u, (xC x Ag cg Af cf Ar cr)[j]? = some u → w'.cell? ⟨g, j, none⟩ = some u) ∧ Below W.heap.size W w'
theorem plist_one (W : World) (bo bl b m nn : Nat) (o : Ol) (x : Ol.Op) (h : OlAt W bo bl b m nn o) (hl : o.l = [x]) : Calls Tryz.prog 15 #[.pointer (some ⟨bo, 0, none⟩)] W (ListOne W x) := by
  obtain ⟨A, c, hs, hc, ho⟩ := h.st
  rw [hl] at hs hc ho
  have c1 : W.cell? ⟨bo, 1, none⟩ = some (.slice A 1 c) := (cell_heap hs 1).trans rfl
  have CL : Hid (Calls Tryz.prog 29 #[.slice A 1 c] W (Ops.CloneFrom [x] W W)) := Lib.hid (Ops.clone_from A [x] c W W ho (Below.refl _ _) (by simp))
  have FN : Hid (∀ e w', Ops.CloneFrom [x] W W e w' → ListOne W x e w') := Lib.hid fun e w' hh => by
    obtain ⟨⟨v, cs, he, hown, hov⟩, hb⟩ := hh
    obtain ⟨g, c, gs, rfl, h1, h2, h3, h4, h5⟩ := own_one hown
    obtain ⟨a, b, rfl, ⟨Ag, cg, Af, cf, Ar, cr, rfl, hp⟩, rfl⟩ := hov
    refine ⟨g, c, Ag, cg, Af, cf, Ar, cr, he, hp.below hb, fun j u hj => (cell_heap h1 j).trans (h2 j u ?_), hb⟩
    rw [List.append_nil]
    simpa [Ops.cellsOf] using hj
  have CL2 := Lib.hid (CL.out.mono FN.out)
  clear hs hc ho h FN CL
  go_enter Tryz.func15, Tryz.ntmps15
  go_wp2_with (go_at_call 29; (with_reducible refine (CL2.out).mono ?_); rintro e w1 ⟨g, c, Ag, cg, Af, cf, Ar, cr, rfl, hp, hrow, hb⟩)
  go_ret
  exact ⟨g, c, Ag, cg, Af, cf, Ar, cr, rfl, hp, hrow, hb⟩
set_option maxHeartbeats 2000000 in
theorem turn_do (R Q : World → Prop) (W : World) (bs bo sc cb mk : Nat) (clk : Nat) (x : Ol.Op) (hx : x.st = 1) (h : SB W bs bo sc cb mk (clk : Int)) (hclk : clk ≤ 100)
    (hli : Calls Tryz.prog 15 #[.pointer (some ⟨bo, 0, none⟩)] W (ListOne W x))
    (hD : ∀ V Ag cg Af cf Ar cr, Below W.heap.size W V → Ops.Parts V x Ag cg Af cf Ar cr → Calls Tryz.prog 17 #[.pointer (some ⟨bs, 0, none⟩), .int .i64 2, .agg (xC x Ag cg Af cf Ar cr)] V fun e w' => e = .returned (.int .i64 0) ∧ R w')
    (hR : ∀ w', R w' → SB w' bs bo sc cb mk (clk : Int) ∧ Calls Tryz.prog 21 #[.pointer (some ⟨sc, 0, none⟩), .int .i64 ((clk : Int) + 1)] ((w'.setCell ⟨bs, 5, none⟩ (.int .i64 ((clk : Int) + 1))).drew) fun e w'' => e = .returned (.int .i64 0) ∧ Q w'') :
    Calls Tryz.prog 11 #[.pointer (some ⟨bs, 0, none⟩)] W fun e w' => e = .returned (.int .i64 0) ∧ Q w' := by
  have c0 : W.cell? ⟨bs, 0, none⟩ = some (.pointer (some ⟨bo, 0, none⟩)) := (cell_heap h 0).trans rfl
  have LI := Lib.hid hli
  have DD : Hid (∀ w1 (g : Nat) Ag cg Af cf Ar cr, Below W.heap.size W w1 → Ops.Parts w1 x Ag cg Af cf Ar cr → (∀ (j : Nat) u, (xC x Ag cg Af cf Ar cr)[j]? = some u → w1.cell? ⟨g, j, none⟩ = some u) →
      Calls Tryz.prog 17 #[.pointer (some ⟨bs, 0, none⟩), .int .i64 2, .agg (xC x Ag cg Af cf Ar cr)] (w1.alloc (.cells (xC x Ag cg Af cf Ar cr) 29)) fun e w' => e = .returned (.int .i64 0) ∧ R w') := Lib.hid fun w1 g Ag cg Af cf Ar cr hb hp hr => by
    have b2 : Below w1.heap.size w1 (w1.alloc (.cells (xC x Ag cg Af cf Ar cr) 29)) := (Below.refl _ _).alloc (Nat.le_refl _) _
    exact hD _ Ag cg Af cf Ar cr (hb.trans (b2.mono hb.size)) (hp.below b2)
  have RR : Hid (∀ w', R w' → (w'.cell? ⟨bs, 5, none⟩ = some (.int .i64 (clk : Int)) ∧ w'.frozen? ⟨bs, 5, none⟩ = false ∧ (w'.setCell ⟨bs, 5, none⟩ (.int .i64 ((clk : Int) + 1))).cell? ⟨bs, 1, none⟩ = some (.pointer (some ⟨sc, 0, none⟩)) ∧ (w'.setCell ⟨bs, 5, none⟩ (.int .i64 ((clk : Int) + 1))).cell? ⟨bs, 5, none⟩ = some (.int .i64 ((clk : Int) + 1))) ∧ Calls Tryz.prog 21 #[.pointer (some ⟨sc, 0, none⟩), .int .i64 ((clk : Int) + 1)] ((w'.setCell ⟨bs, 5, none⟩ (.int .i64 ((clk : Int) + 1))).drew) fun e w'' => e = .returned (.int .i64 0) ∧ Q w'') := Lib.hid fun w' hr => by
    obtain ⟨sb, hT⟩ := hR w' hr
    have sb2 := heap_set (off := 5) (v := .int .i64 ((clk : Int) + 1)) sb
    exact ⟨⟨(cell_heap sb 5).trans rfl, frozen_heap sb 5, (cell_heap sb2 1).trans rfl, (cell_heap sb2 5).trans rfl⟩, hT⟩
  have ew : IntKind.i64.wrap ((clk : Int) + 1) = (clk : Int) + 1 := IntWalk.i64_in _ (by omega)
  clear h hli hD hR
  go_enter Tryz.func11, Tryz.ntmps11
  go_wp2_with (go_at_call 15; (with_reducible refine (LI.out).mono ?_); rintro e w1 ⟨g, c, Ag, cg, Af, cf, Ar, cr, rfl, hp, hrow, hb⟩)
  go_loopw [14] (fun v14 wr => (v14 = .int .i64 0 ∧ wr = w1) ∨ (v14 = .int .i64 1 ∧ Hid (R wr))) (fun v14 _ => (2 - intOf v14).toNat)
  case atStart => exact .inl ⟨rfl, rfl⟩
  case round =>
    rcases hrel with ⟨rfl, rfl⟩ | ⟨rfl, hfin⟩
    · have DW := Lib.hid (DD.out wr g Ag cg Af cf Ar cr hb hp hrow)
      have y0 : wr.cell? ⟨g, 0, none⟩ = some (.string x.n) := hrow 0 _ rfl
      have y1 : wr.cell? ⟨g, 1, none⟩ = some (.slice Ag x.gr.length cg) := hrow 1 _ rfl
      have y2 : wr.cell? ⟨g, 2, none⟩ = some (.slice Af x.sn.length cf) := hrow 2 _ rfl
      have y3 : wr.cell? ⟨g, 3, none⟩ = some (.string x.go) := hrow 3 _ rfl
      have y4 : wr.cell? ⟨g, 4, none⟩ = some (.int .i64 1) := hrow 4 _ (by rw [← hx]; rfl)
      have y5 : wr.cell? ⟨g, 5, none⟩ = some (.int .i64 x.r.e) := hrow 5 _ rfl
      have y6 : wr.cell? ⟨g, 6, none⟩ = some (.string x.r.at_) := hrow 6 _ rfl
      have y7 : wr.cell? ⟨g, 7, none⟩ = some (.string x.r.tx) := hrow 7 _ rfl
      have y8 : wr.cell? ⟨g, 8, none⟩ = some (.slice Ar x.r.fs.length cr) := hrow 8 _ rfl
      obtain ⟨W2, e2⟩ : ∃ W2, W2 = wr.alloc (.cells (opC x.n Ag x.gr.length cg Af x.sn.length cf x.go 1 x.r.e x.r.at_ x.r.tx Ar x.r.fs.length cr) 29) := ⟨_, rfl⟩
      have z2 : W2.heap[wr.heap.size]? = some (.cells (opC x.n Ag x.gr.length cg Af x.sn.length cf x.go 1 x.r.e x.r.at_ x.r.tx Ar x.r.fs.length cr) 29 (0, 0)) := by rw [e2]; exact heap_alloc_new _ _
      have q0 : W2.cell? ⟨wr.heap.size, 0, none⟩ = some (.string x.n) := (cell_heap z2 0).trans rfl
      have q1 : W2.cell? ⟨wr.heap.size, 1, none⟩ = some (.slice Ag x.gr.length cg) := (cell_heap z2 1).trans rfl
      have q2 : W2.cell? ⟨wr.heap.size, 2, none⟩ = some (.slice Af x.sn.length cf) := (cell_heap z2 2).trans rfl
      have q3 : W2.cell? ⟨wr.heap.size, 3, none⟩ = some (.string x.go) := (cell_heap z2 3).trans rfl
      have q4 : W2.cell? ⟨wr.heap.size, 4, none⟩ = some (.int .i64 1) := (cell_heap z2 4).trans rfl
      have q5 : W2.cell? ⟨wr.heap.size, 5, none⟩ = some (.int .i64 x.r.e) := (cell_heap z2 5).trans rfl
      have q6 : W2.cell? ⟨wr.heap.size, 6, none⟩ = some (.string x.r.at_) := (cell_heap z2 6).trans rfl
      have q7 : W2.cell? ⟨wr.heap.size, 7, none⟩ = some (.string x.r.tx) := (cell_heap z2 7).trans rfl
      have q8 : W2.cell? ⟨wr.heap.size, 8, none⟩ = some (.slice Ar x.r.fs.length cr) := (cell_heap z2 8).trans rfl
      have dw : Calls Tryz.prog 17 #[.pointer (some ⟨bs, 0, none⟩), .int .i64 2, .agg (opC x.n Ag x.gr.length cg Af x.sn.length cf x.go 1 x.r.e x.r.at_ x.r.tx Ar x.r.fs.length cr)] W2 fun e w' => e = .returned (.int .i64 0) ∧ R w' := by
        have d := DW.out
        simp only [xC, hx] at d
        rw [e2]
        exact d
      have DW2 := Lib.hid dw
      have E2 := Lib.hid e2
      clear z2 hrow hp hb dw DW e2 DD LI hx
      go_upto_region 7 with (fail)
      rw [← E2.out]
      go_wp2_with (go_at_call 17; (with_reducible refine (DW2.out).mono ?_); rintro e w3 ⟨rfl, hr3⟩; have HR3 := Lib.hid hr3; clear hr3)
      go_roundw
      case rel => exact .inr ⟨rfl, HR3⟩
      case measure => simp [intOf]
    · obtain ⟨⟨f1, f2, f3, f4⟩, hT⟩ := RR.out wr hfin.out
      have TT := Lib.hid hT
      clear hT hrow hp hb DD LI RR hfin
      go_upto_region 16 with (fail)
      obtain ⟨W3, e3⟩ : ∃ W3, W3 = wr.setCell ⟨bs, 5, none⟩ (.int .i64 ((clk : Int) + 1)) := ⟨_, rfl⟩
      rw [← e3] at f3 f4
      have tt := TT.out
      rw [← e3] at tt
      have TT2 := Lib.hid tt
      rw [← e3]
      clear tt TT e3 f1 f2
      go_still_tail 8, (by kernel_rfl)
      change wpList _ _ _ _ _ W3.drew
      go_wp2_with (go_at_call 21; (with_reducible refine (TT2.out).mono ?_); rintro e w4 ⟨rfl, hq⟩)
      go_ret
      exact ⟨rfl, hq⟩
set_option maxHeartbeats 2000000 in
theorem turn_goes (R Q : World → Prop) (W : World) (bs bo sc cb mk : Nat) (clk : Nat) (x : Ol.Op) (hx : x.st = 2) (h : SB W bs bo sc cb mk (clk : Int)) (hclk : clk ≤ 100)
    (hli : Calls Tryz.prog 15 #[.pointer (some ⟨bo, 0, none⟩)] W (ListOne W x))
    (hD : ∀ V Ag cg Af cf Ar cr, Below W.heap.size W V → Ops.Parts V x Ag cg Af cf Ar cr → Calls Tryz.prog 20 #[.pointer (some ⟨bs, 0, none⟩), .int .i64 0, .agg (xC x Ag cg Af cf Ar cr)] V fun e w' => e = .returned (.int .i64 0) ∧ R w')
    (hR : ∀ w', R w' → SB w' bs bo sc cb mk (clk : Int) ∧ Calls Tryz.prog 21 #[.pointer (some ⟨sc, 0, none⟩), .int .i64 ((clk : Int) + 1)] ((w'.setCell ⟨bs, 5, none⟩ (.int .i64 ((clk : Int) + 1))).drew) fun e w'' => e = .returned (.int .i64 0) ∧ Q w'') :
    Calls Tryz.prog 11 #[.pointer (some ⟨bs, 0, none⟩)] W fun e w' => e = .returned (.int .i64 0) ∧ Q w' := by
  have c0 : W.cell? ⟨bs, 0, none⟩ = some (.pointer (some ⟨bo, 0, none⟩)) := (cell_heap h 0).trans rfl
  have LI := Lib.hid hli
  have DD : Hid (∀ w1 (g : Nat) Ag cg Af cf Ar cr, Below W.heap.size W w1 → Ops.Parts w1 x Ag cg Af cf Ar cr → (∀ (j : Nat) u, (xC x Ag cg Af cf Ar cr)[j]? = some u → w1.cell? ⟨g, j, none⟩ = some u) →
      Calls Tryz.prog 20 #[.pointer (some ⟨bs, 0, none⟩), .int .i64 0, .agg (xC x Ag cg Af cf Ar cr)] (w1.alloc (.cells (xC x Ag cg Af cf Ar cr) 29)) fun e w' => e = .returned (.int .i64 0) ∧ R w') := Lib.hid fun w1 g Ag cg Af cf Ar cr hb hp hr => by
    have b2 : Below w1.heap.size w1 (w1.alloc (.cells (xC x Ag cg Af cf Ar cr) 29)) := (Below.refl _ _).alloc (Nat.le_refl _) _
    exact hD _ Ag cg Af cf Ar cr (hb.trans (b2.mono hb.size)) (hp.below b2)
  have RR : Hid (∀ w', R w' → (w'.cell? ⟨bs, 5, none⟩ = some (.int .i64 (clk : Int)) ∧ w'.frozen? ⟨bs, 5, none⟩ = false ∧ (w'.setCell ⟨bs, 5, none⟩ (.int .i64 ((clk : Int) + 1))).cell? ⟨bs, 1, none⟩ = some (.pointer (some ⟨sc, 0, none⟩)) ∧ (w'.setCell ⟨bs, 5, none⟩ (.int .i64 ((clk : Int) + 1))).cell? ⟨bs, 5, none⟩ = some (.int .i64 ((clk : Int) + 1))) ∧ Calls Tryz.prog 21 #[.pointer (some ⟨sc, 0, none⟩), .int .i64 ((clk : Int) + 1)] ((w'.setCell ⟨bs, 5, none⟩ (.int .i64 ((clk : Int) + 1))).drew) fun e w'' => e = .returned (.int .i64 0) ∧ Q w'') := Lib.hid fun w' hr => by
    obtain ⟨sb, hT⟩ := hR w' hr
    have sb2 := heap_set (off := 5) (v := .int .i64 ((clk : Int) + 1)) sb
    exact ⟨⟨(cell_heap sb 5).trans rfl, frozen_heap sb 5, (cell_heap sb2 1).trans rfl, (cell_heap sb2 5).trans rfl⟩, hT⟩
  have ew : IntKind.i64.wrap ((clk : Int) + 1) = (clk : Int) + 1 := IntWalk.i64_in _ (by omega)
  clear h hli hD hR
  go_enter Tryz.func11, Tryz.ntmps11
  go_wp2_with (go_at_call 15; (with_reducible refine (LI.out).mono ?_); rintro e w1 ⟨g, c, Ag, cg, Af, cf, Ar, cr, rfl, hp, hrow, hb⟩)
  go_loopw [14] (fun v14 wr => (v14 = .int .i64 0 ∧ wr = w1) ∨ (v14 = .int .i64 1 ∧ Hid (R wr))) (fun v14 _ => (2 - intOf v14).toNat)
  case atStart => exact .inl ⟨rfl, rfl⟩
  case round =>
    rcases hrel with ⟨rfl, rfl⟩ | ⟨rfl, hfin⟩
    · have DW := Lib.hid (DD.out wr g Ag cg Af cf Ar cr hb hp hrow)
      have y0 : wr.cell? ⟨g, 0, none⟩ = some (.string x.n) := hrow 0 _ rfl
      have y1 : wr.cell? ⟨g, 1, none⟩ = some (.slice Ag x.gr.length cg) := hrow 1 _ rfl
      have y2 : wr.cell? ⟨g, 2, none⟩ = some (.slice Af x.sn.length cf) := hrow 2 _ rfl
      have y3 : wr.cell? ⟨g, 3, none⟩ = some (.string x.go) := hrow 3 _ rfl
      have y4 : wr.cell? ⟨g, 4, none⟩ = some (.int .i64 2) := hrow 4 _ (by rw [← hx]; rfl)
      have y5 : wr.cell? ⟨g, 5, none⟩ = some (.int .i64 x.r.e) := hrow 5 _ rfl
      have y6 : wr.cell? ⟨g, 6, none⟩ = some (.string x.r.at_) := hrow 6 _ rfl
      have y7 : wr.cell? ⟨g, 7, none⟩ = some (.string x.r.tx) := hrow 7 _ rfl
      have y8 : wr.cell? ⟨g, 8, none⟩ = some (.slice Ar x.r.fs.length cr) := hrow 8 _ rfl
      obtain ⟨W2, e2⟩ : ∃ W2, W2 = wr.alloc (.cells (opC x.n Ag x.gr.length cg Af x.sn.length cf x.go 2 x.r.e x.r.at_ x.r.tx Ar x.r.fs.length cr) 29) := ⟨_, rfl⟩
      have z2 : W2.heap[wr.heap.size]? = some (.cells (opC x.n Ag x.gr.length cg Af x.sn.length cf x.go 2 x.r.e x.r.at_ x.r.tx Ar x.r.fs.length cr) 29 (0, 0)) := by rw [e2]; exact heap_alloc_new _ _
      have q0 : W2.cell? ⟨wr.heap.size, 0, none⟩ = some (.string x.n) := (cell_heap z2 0).trans rfl
      have q1 : W2.cell? ⟨wr.heap.size, 1, none⟩ = some (.slice Ag x.gr.length cg) := (cell_heap z2 1).trans rfl
      have q2 : W2.cell? ⟨wr.heap.size, 2, none⟩ = some (.slice Af x.sn.length cf) := (cell_heap z2 2).trans rfl
      have q3 : W2.cell? ⟨wr.heap.size, 3, none⟩ = some (.string x.go) := (cell_heap z2 3).trans rfl
      have q4 : W2.cell? ⟨wr.heap.size, 4, none⟩ = some (.int .i64 2) := (cell_heap z2 4).trans rfl
      have q5 : W2.cell? ⟨wr.heap.size, 5, none⟩ = some (.int .i64 x.r.e) := (cell_heap z2 5).trans rfl
      have q6 : W2.cell? ⟨wr.heap.size, 6, none⟩ = some (.string x.r.at_) := (cell_heap z2 6).trans rfl
      have q7 : W2.cell? ⟨wr.heap.size, 7, none⟩ = some (.string x.r.tx) := (cell_heap z2 7).trans rfl
      have q8 : W2.cell? ⟨wr.heap.size, 8, none⟩ = some (.slice Ar x.r.fs.length cr) := (cell_heap z2 8).trans rfl
      have dw : Calls Tryz.prog 20 #[.pointer (some ⟨bs, 0, none⟩), .int .i64 0, .agg (opC x.n Ag x.gr.length cg Af x.sn.length cf x.go 2 x.r.e x.r.at_ x.r.tx Ar x.r.fs.length cr)] W2 fun e w' => e = .returned (.int .i64 0) ∧ R w' := by
        have d := DW.out
        simp only [xC, hx] at d
        rw [e2]
        exact d
      have DW2 := Lib.hid dw
      have E2 := Lib.hid e2
      clear z2 hrow hp hb dw DW e2 DD LI hx
      go_upto_region 7 with (fail)
      rw [← E2.out]
      go_wp2_with (go_at_call 20; (with_reducible refine (DW2.out).mono ?_); rintro e w3 ⟨rfl, hr3⟩; have HR3 := Lib.hid hr3; clear hr3)
      go_roundw
      case rel => exact .inr ⟨rfl, HR3⟩
      case measure => simp [intOf]
    · obtain ⟨⟨f1, f2, f3, f4⟩, hT⟩ := RR.out wr hfin.out
      have TT := Lib.hid hT
      clear hT hrow hp hb DD LI RR hfin
      go_upto_region 16 with (fail)
      obtain ⟨W3, e3⟩ : ∃ W3, W3 = wr.setCell ⟨bs, 5, none⟩ (.int .i64 ((clk : Int) + 1)) := ⟨_, rfl⟩
      rw [← e3] at f3 f4
      have tt := TT.out
      rw [← e3] at tt
      have TT2 := Lib.hid tt
      rw [← e3]
      clear tt TT e3 f1 f2
      go_still_tail 8, (by kernel_rfl)
      change wpList _ _ _ _ _ W3.drew
      go_wp2_with (go_at_call 21; (with_reducible refine (TT2.out).mono ?_); rintro e w4 ⟨rfl, hq⟩)
      go_ret
      exact ⟨rfl, hq⟩
end Go.Proofs.YtifiipmmgnmciaaGreatDoor.Sv
/- SvEx, what a claim needs of it (prune.py). -/
namespace Go.Proofs.YtifiipmmgnmciaaGreatDoor.Sv
open Dk (Dk Fd bad)
open Wl (Lw name frame two appL)
open Ops (OkO apply wrongV Ev Rs)
open Ol (Ol OkN did two_0 two_1 n00 check_nil)
abbrev B := List UInt8
abbrev Op := Ops.Op
set_option linter.unusedVariables false
set_option maxRecDepth 100000
def cmdS : Bool → ByteArray
  | true => ⟨#[112, 117, 116, 32, 111, 117, 116, 47, 120, 32, 49, 10]⟩
  | false => ⟨#[112, 117, 116, 32, 111, 117, 116, 47, 97, 32, 120, 10]⟩
def pathS : Bool → ByteArray
  | true => ⟨#[120]⟩
  | false => ⟨#[97]⟩
def dataS : Bool → ByteArray
  | true => ⟨#[49, 10]⟩
  | false => ⟨#[120, 10]⟩
def tS (b : Bool) : Tg := ⟨⟨#[116]⟩, cmdS b, [], []⟩
def oneS (b : Bool) (st : Int) (r : Rs) : Op := ⟨⟨#[97]⟩, [tS b], [], ⟨#[116]⟩, st, r⟩
def resS (b : Bool) : Rs := ⟨0, ⟨#[]⟩, ⟨#[]⟩, [⟨pathS b, dataS b⟩]⟩
def evS1 (b : Bool) : Ev := ⟨1, oneS b 0 Ops.zeroR⟩
def evS2 (b : Bool) : Ev := ⟨2, oneS b 1 Ops.zeroR⟩
def evS3 (b : Bool) : Ev := ⟨3, oneS b 2 (resS b)⟩
theorem tS_ok (b : Bool) : ∀ t ∈ [tS b], t.Ok := fun t ht => by
  rw [List.mem_singleton.1 ht]; cases b <;> exact ⟨by decide, by decide, by decide, by decide, (fun x hx => by cases hx), fun x hx => by cases hx⟩
theorem oneS_ok (b : Bool) (st : Int) {r : Rs} (h1 : r.fs.length ≤ 60) (h2 : ∀ f ∈ r.fs, f.Ok) : OkO (oneS b st r) :=
  ⟨(by show (⟨#[97]⟩ : ByteArray).size ≤ 100; decide), (by show (⟨#[116]⟩ : ByteArray).size ≤ 100; decide), by show 1 ≤ 20; omega, (tS_ok b), by show 0 ≤ 60; omega, (fun f hf => by cases hf), h1, h2⟩
theorem oneS_ok0 (b : Bool) (st : Int) : OkO (oneS b st Ops.zeroR) := (oneS_ok b) st (by show 0 ≤ 60; omega) (fun f hf => by cases hf)
theorem resS_ok (b : Bool) : ∀ f ∈ (resS b).fs, f.Ok := fun f hf => by
  rw [List.mem_singleton.1 hf]; cases b <;> exact ⟨by decide, by decide⟩
theorem oneS_okR (b : Bool) (st : Int) : OkO (oneS b st (resS b)) := (oneS_ok b) st (by show 1 ≤ 60; omega) (resS_ok b)
theorem lenS1 (b : Bool) : (Cd.evB (evS1 b)).length ≤ 400 := by
  have : decide ((Cd.evB (evS1 b)).length ≤ 400) = true := by cases b <;> kernel_rfl
  simpa using this
theorem lenS2 (b : Bool) : (Cd.evB (evS2 b)).length ≤ 400 := by
  have : decide ((Cd.evB (evS2 b)).length ≤ 400) = true := by cases b <;> kernel_rfl
  simpa using this
theorem lenS3 (b : Bool) : (Cd.evB (evS3 b)).length ≤ 400 := by
  have : decide ((Cd.evB (evS3 b)).length ≤ 400) = true := by cases b <;> kernel_rfl
  simpa using this
theorem numS (b : Bool) (k st : Int) (hk : 0 ≤ k ∧ k ≤ 100) (hs : 0 ≤ st ∧ st ≤ 100) : OkN k (oneS b st Ops.zeroR) := ⟨hk, hs, by show (0 : Int) ≤ 0 ∧ (0 : Int) ≤ 100; omega, by show (⟨#[]⟩ : ByteArray).size ≤ 100000; decide, by show (⟨#[]⟩ : ByteArray).size ≤ 100000; decide⟩
theorem numSR (b : Bool) (k st : Int) (hk : 0 ≤ k ∧ k ≤ 100) (hs : 0 ≤ st ∧ st ≤ 100) : OkN k (oneS b st (resS b)) := ⟨hk, hs, by show (0 : Int) ≤ 0 ∧ (0 : Int) ≤ 100; omega, by show (⟨#[]⟩ : ByteArray).size ≤ 100000; decide, by show (⟨#[]⟩ : ByteArray).size ≤ 100000; decide⟩
def DN (L : Nat) (s : B) : Dk := ⟨L, [⟨name 0 0, s, s.length⟩], 0, false⟩
theorem fr_len {E : B} (h : E.length ≤ 400) : (frame E).length ≤ 1000 := by
  unfold frame
  have h1 := Wl.short_len E
  have h2 := Pk.dec_len_le 7 (Wl.short E).length (by omega)
  have h3 := Pk.dec_len_le 7 E.length (by omega)
  unfold Pk.text
  simp only [List.length_append, List.length_cons, List.length_nil]
  omega
theorem appL_first {L : Nat} {E : B} (h : E.length ≤ 400) (hL : 3000 ≤ L) : appL ⟨L, [], 0, false⟩ ⟨0, 0, 0, false⟩ E = (DN L (frame E), ⟨0, 0, 1, false⟩, 0) := by
  have h2 : two ⟨L, [], 0, false⟩ (name 0 0) (frame E) = (DN L (frame E), 0) := two_0 n00 (by have := fr_len h; omega)
  have e : appL ⟨L, [], 0, false⟩ ⟨0, 0, 0, false⟩ E = ((two ⟨L, [], 0, false⟩ (name 0 0) (frame E)).1, ⟨0, 0, if (two ⟨L, [], 0, false⟩ (name 0 0) (frame E)).2 = 0 then 0 + 1 else 0, ((two ⟨L, [], 0, false⟩ (name 0 0) (frame E)).2 == 40)⟩, (two ⟨L, [], 0, false⟩ (name 0 0) (frame E)).2) := rfl
  rw [e, h2]
  rfl
theorem appL_more {L n : Nat} {s E : B} (h : E.length ≤ 400) (hL : s.length + 1000 ≤ L) : appL (DN L s) ⟨0, 0, n, false⟩ E = (DN L (s ++ frame E), ⟨0, 0, n + 1, false⟩, 0) := by
  have h2 : two (DN L s) (name 0 0) (frame E) = (DN L (s ++ frame E), 0) := two_1 n00 (by have := fr_len h; omega)
  have e : appL (DN L s) ⟨0, 0, n, false⟩ E = ((two (DN L s) (name 0 0) (frame E)).1, ⟨0, 0, if (two (DN L s) (name 0 0) (frame E)).2 = 0 then n + 1 else n, ((two (DN L s) (name 0 0) (frame E)).2 == 40)⟩, (two (DN L s) (name 0 0) (frame E)).2) := rfl
  rw [e, h2]
  rfl
def q0 (L : Nat) : Ol := ⟨⟨L, [], 0, false⟩, ⟨0, 0, 0, false⟩, []⟩
def q1 (b : Bool) (L : Nat) : Ol := ⟨DN L (frame (Cd.evB (evS1 b))), ⟨0, 0, 1, false⟩, [oneS b 1 Ops.zeroR]⟩
def q2 (b : Bool) (L : Nat) : Ol := ⟨DN L (frame (Cd.evB (evS1 b)) ++ frame (Cd.evB (evS2 b))), ⟨0, 0, 2, false⟩, [oneS b 2 Ops.zeroR]⟩
def q3 (b : Bool) (L : Nat) : Ol := ⟨DN L (frame (Cd.evB (evS1 b)) ++ frame (Cd.evB (evS2 b)) ++ frame (Cd.evB (evS3 b))), ⟨0, 0, 3, false⟩, [oneS b 3 (resS b)]⟩
theorem didS1 (b : Bool) {L : Nat} (hL : 9000 ≤ L) : did (q0 L) 1 (oneS b 0 Ops.zeroR) [oneS b 1 Ops.zeroR] = q1 b L := by
  unfold did
  rw [show Wl.appL (q0 L).d (q0 L).log (Cd.evB ⟨1, oneS b 0 Ops.zeroR⟩) = _ from appL_first (lenS1 b) (by omega)]
  rfl
theorem didS2 (b : Bool) {L : Nat} (hL : 9000 ≤ L) : did (q1 b L) 2 (oneS b 1 Ops.zeroR) [oneS b 2 Ops.zeroR] = q2 b L := by
  unfold did
  rw [show Wl.appL (q1 b L).d (q1 b L).log (Cd.evB ⟨2, oneS b 1 Ops.zeroR⟩) = _ from appL_more (lenS2 b) (by have := fr_len (lenS1 b); omega)]
  rfl
theorem didS3 (b : Bool) {L : Nat} (hL : 9000 ≤ L) : did (q2 b L) 3 (oneS b 2 (resS b)) [oneS b 3 (resS b)] = q3 b L := by
  unfold did
  rw [show Wl.appL (q2 b L).d (q2 b L).log (Cd.evB ⟨3, oneS b 2 (resS b)⟩) = _ from appL_more (lenS3 b) (by have := fr_len (lenS1 b); have := fr_len (lenS2 b); rw [List.length_append]; omega)]
  rfl
end Go.Proofs.YtifiipmmgnmciaaGreatDoor.Sv
/- SvOw, what a claim needs of it (prune.py). -/
namespace Go.Proofs.YtifiipmmgnmciaaGreatDoor.Sv
open Go.RowKit Go.Maps
open Dk (Kp)
open Ol (Ol OlAt OlS St)
set_option linter.unusedVariables false
set_option maxRecDepth 100000
structure Ow (W : World) (n0 bo k kc km : Nat) (ep clk cclk : Int) (rows there lease fc fm : ByteArray → Option Value) : Prop where
  sc : ScAt W (sbN n0) k ep rows there lease
  q : ∃ nth A n c, QB W n0 nth A n c
  cm : Mv.VMap W (n0 + 6) kc fc
  cb : CB W (n0 + 7) (n0 + 6) cclk
  tm : Mv.VMap W (n0 + 8) km fm
  sb : SB W (n0 + 9) bo (n0 + 5) (n0 + 7) (n0 + 8) clk
theorem noS_map {W : World} {m n : Nat} {f : ByteArray → Option Value} (h : Mv.VMap W m n f) : NoS W m := fun a s v hb e _ => absurd hb (h.nocell (ad := a) e)
section
variable {W : World} {n0 bo k kc km : Nat} {ep clk cclk : Int} {rows there lease fc fm : ByteArray → Option Value}
theorem Ow.size (h : Ow W n0 bo k kc km ep clk cclk rows there lease fc fm) : n0 + 10 ≤ W.heap.size := by
  have := h.sb.lt
  omega
theorem Ow.noS (h : Ow W n0 bo k kc km ep clk cclk rows there lease fc fm) : ∀ j, n0 ≤ j → j ≤ n0 + 9 → NoS W j := fun j h1 h2 => by
  obtain ⟨i, rfl⟩ : ∃ i, j = n0 + i := ⟨j - n0, by omega⟩
  match i, h2 with
  | 0, _ =>
    obtain ⟨nth, A, n, c, hq⟩ := h.q
    exact noS_cells (show W.heap[n0 + 0]? = _ from hq) (fun k s v e => by match k, e with | 0, e => cases e | 1, e => cases e | 2, e => cases e | k + 3, e => cases e)
  | 1, _ => exact noS_map h.sc.lease
  | 2, _ => exact noS_cells (show W.heap[n0 + 2]? = _ from h.sc.tab) (fun k s v e => by match k, e with | 0, e => cases e | 1, e => cases e | 2, e => cases e | k + 3, e => cases e)
  | 3, _ => exact noS_map h.sc.rows
  | 4, _ => exact noS_map h.sc.there
  | 5, _ => exact noS_cells (show W.heap[n0 + 5]? = _ from h.sc.st) (fun k s v e => by match k, e with | 0, e => cases e | 1, e => cases e | 2, e => cases e | 3, e => cases e | k + 4, e => cases e)
  | 6, _ => exact noS_map h.cm
  | 7, _ => exact noS_cells (show W.heap[n0 + 7]? = _ from h.cb) (fun k s v e => by match k, e with | 0, e => cases e | 1, e => cases e | 2, e => cases e | k + 3, e => cases e)
  | 8, _ => exact noS_map h.tm
  | 9, _ => exact noS_cells (show W.heap[n0 + 9]? = _ from h.sb) (fun k s v e => by match k, e with | 0, e => cases e | 1, e => cases e | 2, e => cases e | 3, e => cases e | 4, e => cases e | 5, e => cases e | k + 6, e => cases e)
  | i + 10, h2 => omega
theorem Ow.keep {W' : World} (h : Ow W n0 bo k kc km ep clk cclk rows there lease fc fm) (hk : ∀ j, n0 ≤ j → j ≤ n0 + 9 → W'.heap[j]? = W.heap[j]?) : Ow W' n0 bo k kc km ep clk cclk rows there lease fc fm := by
  obtain ⟨nth, A, n, c, hq⟩ := h.q
  exact ⟨h.sc.keep (hk (n0 + 5) (by omega) (by omega)) (hk (n0 + 2) (by omega) (by omega)) (hk (n0 + 3) (by omega) (by omega)) (hk (n0 + 4) (by omega) (by omega)) (hk (n0 + 1) (by omega) (by omega)), ⟨nth, A, n, c, (hk n0 (by omega) (by omega)).trans hq⟩, h.cm.keep (hk _ (by omega) (by omega)), h.cb.keep (hk _ (by omega) (by omega)), h.tm.keep (hk _ (by omega) (by omega)), h.sb.keep (hk _ (by omega) (by omega))⟩
theorem Ow.kp {W' : World} {S : Nat → Prop} (h : Ow W n0 bo k kc km ep clk cclk rows there lease fc fm) (hk : Kp S W W') (hS : ∀ j, S j → ¬ (n0 ≤ j ∧ j ≤ n0 + 9)) : Ow W' n0 bo k kc km ep clk cclk rows there lease fc fm :=
  h.keep (fun j h1 h2 => hk.block j (by have := h.size; omega) (fun e => hS j e ⟨h1, h2⟩))
theorem Ow.below {W' : World} (h : Ow W n0 bo k kc km ep clk cclk rows there lease fc fm) (hb : Below W.heap.size W W') : Ow W' n0 bo k kc km ep clk cclk rows there lease fc fm :=
  h.keep (fun j h1 h2 => hb.block j (by have := h.size; omega))
end
structure Lo (w : World) (bo bl b m n0 : Nat) : Prop where
  bo : bo < n0
  bl : bl < n0
  b : b < n0
  m : m < n0
  w : w.heap.size ≤ n0
theorem Lo.ols {w : World} {bo bl b m n0 : Nat} (h : Lo w bo bl b m n0) : ∀ j, OlS bo bl b m j → j < n0 := fun j hj => by
  rcases hj with rfl | rfl | rfl | rfl
  · exact h.b
  · exact h.m
  · exact h.bl
  · exact h.bo
theorem St.kpS {w W W' : World} {bo bl b m n0 nn : Nat} {o : Ol} {S : Nat → Prop} (h : St w W bo bl b m nn o) (lo : Lo w bo bl b m n0) (hk : Kp S W W') (hS : ∀ j, S j → NoS W j ∧ n0 ≤ j) (hb : ∀ x ∈ o.l, Bare x.gr) : St w W' bo bl b m nn o :=
  ⟨h.bw.trans (hk.below (fun j hj => Nat.le_trans lo.w (hS j hj).2) h.bw.size), h.hb, h.hm, h.hbl, h.hbo, olAt_ss h.at_ hk (fun j hj => by
    obtain ⟨h1, h2⟩ := hS j hj
    have := lo.bo; have := lo.bl; have := lo.b; have := lo.m
    exact ⟨h1, by omega, by omega, by omega, by omega⟩) hb⟩
theorem bare1 (b : Bool) (st : Int) (r : Ops.Rs) : ∀ x ∈ [oneS b st r], Bare x.gr := fun x hx t ht => by
  rw [List.mem_singleton.1 hx] at ht
  rw [List.mem_singleton.1 ht]
  exact ⟨rfl, rfl⟩
theorem tick_ow (w w' : World) (bo bl b m n0 nn k kc km : Nat) (ep cclk : Int) (clk : Nat) (rows there fc fm : ByteArray → Option Value) (o : Ol) (lo : Lo w bo bl b m n0) (h : St w w' bo bl b m nn o) (hb : ∀ x ∈ o.l, Bare x.gr) (ho : Ow w' n0 bo k kc km ep (clk : Int) cclk rows there NoM fc fm) (hk : k ≤ 1000) :
    SB w' (n0 + 9) bo (n0 + 5) (n0 + 7) (n0 + 8) (clk : Int) ∧ Calls Tryz.prog 21 #[.pointer (some ⟨n0 + 5, 0, none⟩), .int .i64 ((clk : Int) + 1)] ((w'.setCell ⟨n0 + 9, 5, none⟩ (.int .i64 ((clk : Int) + 1))).drew) fun e w'' => e = .returned (.int .i64 0) ∧ St w w'' bo bl b m nn o ∧ Ow w'' n0 bo k kc km ep ((clk : Int) + 1) cclk rows there NoM fc fm ∧ Kp (fun j => j = n0 + 9) w' w'' := by
  obtain ⟨V, eV⟩ : ∃ V, V = (w'.setCell ⟨n0 + 9, 5, none⟩ (.int .i64 ((clk : Int) + 1))).drew := ⟨_, rfl⟩
  have K1 : Kp (fun j => j = n0 + 9) w' V := by rw [eV]; exact (kp_set (S := fun j => j = n0 + 9) (n0 + 9) 5 _ rfl).drew
  have sb1 : SB V (n0 + 9) bo (n0 + 5) (n0 + 7) (n0 + 8) ((clk : Int) + 1) := by
    rw [eV]
    exact (heap_set (off := 5) (v := .int .i64 ((clk : Int) + 1)) ho.sb).trans rfl
  have hz := ho.size
  have hkb : ∀ j, j < n0 + 9 → V.heap[j]? = w'.heap[j]? := fun j hj => K1.block j (by omega) (by omega)
  have ow1 : Ow V n0 bo k kc km ep ((clk : Int) + 1) cclk rows there NoM fc fm := by
    obtain ⟨nth, A, n, c, hq⟩ := ho.q
    exact ⟨ho.sc.keep (hkb (n0 + 5) (by omega)) (hkb (n0 + 2) (by omega)) (hkb (n0 + 3) (by omega)) (hkb (n0 + 4) (by omega)) (hkb (n0 + 1) (by omega)), ⟨nth, A, n, c, (hkb n0 (by omega)).trans hq⟩, ho.cm.keep (hkb _ (by omega)), ho.cb.keep (hkb _ (by omega)), ho.tm.keep (hkb _ (by omega)), sb1⟩
  have st1 : St w V bo bl b m nn o := St.kpS h lo K1 (fun j hj => by subst hj; exact ⟨ho.noS _ (by omega) (by omega), by omega⟩) hb
  rw [← eV]
  refine ⟨ho.sb, (tick_none V (sbN n0) k ep ((clk : Int) + 1) rows there ow1.sc hk).mono ?_⟩
  rintro e w'' ⟨rfl, hbl⟩
  exact ⟨rfl, st1.below hbl, ow1.below hbl, K1.then hbl⟩
end Go.Proofs.YtifiipmmgnmciaaGreatDoor.Sv
