/- Joined by mkmerged.py: WlApp, WlOpen. -/
import Derived.Test.YtifiipmmgnmciaaGreatDoorMi40
import Derived.IntWalk
import Derived.Test.YtifiipmmgnmciaaGreatDoorMi21
import Derived.Test.YtifiipmmgnmciaaGreatDoorMi05
/- WlApp, what a claim needs of it (prune.py). -/
namespace Go.Proofs.YtifiipmmgnmciaaGreatDoor.Wl
open Go.RowKit
open Dk (Dk Fd Kp DkS DkAt read find sync append sz)
set_option linter.unusedVariables false
set_option maxRecDepth 100000
def appL (d : Dk) (x : Lw) (s : B) : Dk × Lw × Int :=
  ((two d (name x.number x.part) (frame s)).1, { x with dead := ((two d (name x.number x.part) (frame s)).2 == 40), many := if (two d (name x.number x.part) (frame s)).2 = 0 then x.many + 1 else x.many }, (two d (name x.number x.part) (frame s)).2)
def AppLSays (W : World) (b m nn bl : Nat) (d : Dk) (x : Lw) (s : B) (e : Ending) (w' : World) : Prop :=
  e = .returned (.int .i64 (appL d x s).2.2) ∧ DkAt w' b m (nn + 2) (appL d x s).1 ∧ LogAt w' bl b (appL d x s).2.1 ∧ Kp (fun k => k = b ∨ k = m ∨ k = bl) W w'
theorem app1_any (s : ByteArray) (h0 : 0 < s.size) (h1 : s.size ≤ 1000000) (W : World) : Calls Tryz.prog 119 #[.string s] W fun e w' => e = .returned (.bool false) ∧ W = w' := by
  have hne := Lg.some_ne (s := s) (by omega)
  have hd : (s.toList == []) = false := by simpa using hne
  have q : ¬ (1000000 : Int) < (s.size : Int) := by omega
  go_enter Tryz.func119, Tryz.ntmps119
  go_wp2_with (fail)
  go_ret
  exact ⟨rfl, rfl⟩
theorem frame_len {s : B} (h : s.length ≤ 1000000) : (frame s).length ≤ 2000000 := by
  unfold frame
  have h1 := short_len s
  have h2 := Pk.dec_len_le 7 (short s).length (by omega)
  have h3 := Pk.dec_len_le 7 s.length (by omega)
  unfold Pk.text
  simp only [List.length_append, List.length_cons, List.length_nil]
  omega
theorem frame_ne (s : B) : frame s ≠ [] := by unfold frame; exact Pk.text_ne _ _
set_option maxHeartbeats 8000000 in
theorem papp_any (b m nn bl : Nat) (d : Dk) (x : Lw) (s : B) (A : Option Addr) (c : Nat) (W : World) (hD : DkAt W b m nn d) (hG : LogAt W bl b x) (hx : x.dead = false) (h0 : 0 < s.length) (h1 : s.length ≤ 1000000) (hr : Lg.Strs W A [bs s]) (ht : Tab W) (hn : nn + 1 < maxLen) (hnu : x.number ≤ 1000000) (hpa : x.part ≤ 1000000) (hma : x.many ≤ 1000000000) :
    Calls Tryz.prog 61 #[.pointer (some ⟨bl, 0, none⟩), .slice A 1 c] W (AppLSays W b m nn bl d x s) := by
  obtain ⟨W0, eW⟩ : ∃ W0, W0 = W.alloc (.cells #[.pointer (some ⟨bl, 0, none⟩)] 76) := ⟨_, rfl⟩
  have B0 : Below W.heap.size W W0 := by rw [eW]; exact (Below.refl _ _).alloc (Nat.le_refl _) _
  have g0 : W0.heap[W.heap.size]? = some (.cells #[.pointer (some ⟨bl, 0, none⟩)] 76 (0, 0)) := by rw [eW]; exact heap_alloc_new _ _
  have hlt0 := Lg.lt_heap g0
  have hs0 := bs_size s
  have hG0 := hG.below B0
  have hD0 := hD.below B0
  have hb := Lg.lt_heap hD.st
  have hm := hD.map.lt
  have hbl := hG.lt
  have LV : Hid (Calls Tryz.prog 101 #[.pointer (some ⟨bl, 0, none⟩)] W0 fun e w' => e = .returned (.int .i64 0) ∧ W0 = w') := Lib.hid (by have := lives_any W0 bl b x hG0; rw [hx] at this; exact this)
  have CF : Hid (Calls Tryz.prog 118 #[.slice A 1 c, .func (.func 119) #[] #[]] W0 fun e w' => e = .returned (.bool false) ∧ W0 = w') := Lib.hid (by
    have := Dk.containsT_any 119 #[] (enters_of Tryz.func119 (by kernel_rfl) rfl) (fun _ => false) A [bs s] c W0 (hr.below B0) (by simp) (fun s' hs' W' => by
      rw [List.mem_singleton.1 hs']
      exact app1_any (bs s) (by omega) (by omega) W')
    simpa using this)
  have FR : Hid (∀ W', Below W0.heap.size W0 W' → Calls Tryz.prog 102 #[.string (bs s)] W' fun e w' => e = .returned (.string (bs (frame s))) ∧ Below W'.heap.size W' w') := Lib.hid fun W' hW => frame_any (bs s) (by omega) W' ((ht.on B0).on hW)
  have NM : Hid (∀ W', Below W0.heap.size W0 W' → Calls Tryz.prog 121 #[.int .i64 (x.number : Int), .int .i64 (x.part : Int)] W' fun e w' => e = .returned (.string (bs (name x.number x.part))) ∧ Below W'.heap.size W' w') := Lib.hid fun W' hW => name_any x.number x.part (by omega) (by omega) W' ((ht.on B0).on hW)
  have CL : Hid (∀ W', Below W0.heap.size W0 W' → W'.cell? ⟨W.heap.size, 0, none⟩ = some (.pointer (some ⟨bl, 0, none⟩)) ∧ W'.cell? ⟨bl, 1, none⟩ = some (.int .i64 (x.number : Int)) ∧ W'.cell? ⟨bl, 2, none⟩ = some (.int .i64 (x.part : Int))) := Lib.hid fun W' hW => ⟨(cell_heap ((hW.block _ hlt0).trans g0) 0).trans rfl, (cell_heap (hG0.below hW).st 1).trans rfl, (cell_heap (hG0.below hW).st 2).trans rfl⟩
  have HR : Hid (∀ W', Below W0.heap.size W0 W' → Lg.Strs W' A [bs s]) := Lib.hid fun W' hW => (hr.below B0).below hW
  have hfl := frame_len h1
  have hnl : (name x.number x.part).length ≤ 1000 := by
    have h2 := Pk.dec_len_le 8 x.number (by omega)
    have h3 := Pk.dec_len_le 8 x.part (by omega)
    unfold name
    simp only [List.length_append, List.length_cons, List.length_nil]
    omega
  have AC : Hid (∀ gf wc, wc.heap[gf]? = some (.cells #[.string (bs (name x.number x.part))] 9 (0, 0)) → SbAt W0.heap.size W0.heap.size (frame s) wc → Below W0.heap.size W0 wc → Calls Tryz.prog 105 #[.pointer (some ⟨bl, 0, none⟩), .slice (some ⟨wc.heap.size, 0, none⟩) 2 2] (wc.alloc (.cells #[.func (.func 122) #[] #[.pointer (some ⟨W.heap.size, 0, none⟩), .pointer (some ⟨gf, 0, none⟩), .pointer (some ⟨W0.heap.size, 0, none⟩)], .func (.func 123) #[] #[.pointer (some ⟨W.heap.size, 0, none⟩), .pointer (some ⟨gf, 0, none⟩)]] 41)) fun e w' => e = .returned (.int .i64 (two d (name x.number x.part) (frame s)).2) ∧ w'.heap[W.heap.size]? = some (.cells #[.pointer (some ⟨bl, 0, none⟩)] 76 (0, 0)) ∧ DkAt w' b m (nn + 2) (two d (name x.number x.part) (frame s)).1 ∧ LogAt w' bl b { x with dead := ((two d (name x.number x.part) (frame s)).2 == 40) } ∧ Kp (fun k => k = b ∨ k = m ∨ k = bl) W w') := Lib.hid fun gf wc hgf hsb hbx => by
    have ha : Below wc.heap.size wc (wc.alloc (.cells #[.func (.func 122) #[] #[.pointer (some ⟨W.heap.size, 0, none⟩), .pointer (some ⟨gf, 0, none⟩), .pointer (some ⟨W0.heap.size, 0, none⟩)], .func (.func 123) #[] #[.pointer (some ⟨W.heap.size, 0, none⟩), .pointer (some ⟨gf, 0, none⟩)]] 41)) := (Below.refl _ _).alloc (Nat.le_refl _) _
    have hbx2 := hbx.trans (ha.mono hbx.size)
    exact acts_any W W0.heap.size b m nn bl W.heap.size gf wc.heap.size W0.heap.size d (name x.number x.part) (frame s) x _ _ rfl B0.size hb hm ⟨(hbx2.block _ hlt0).trans g0, hG0.below hbx2, (ha.block _ (Lg.lt_heap hgf)).trans hgf, heap_alloc_new _ _, (Kp.of_below B0).trans (Kp.of_below hbx2)⟩ (hsb.later ha) (hD0.below hbx2) (frame_ne s) (by omega) hnl hn hx
  have AL : Hid (appL d x s = ((two d (name x.number x.part) (frame s)).1, { x with dead := ((two d (name x.number x.part) (frame s)).2 == 40), many := if (two d (name x.number x.part) (frame s)).2 = 0 then x.many + 1 else x.many }, (two d (name x.number x.part) (frame s)).2)) := Lib.hid rfl
  have HM := Lib.hid hma
  have HSZ : Hid ((frame s).length ≤ 2000000) := Lib.hid hfl
  clear hD hG hD0 hG0 ht g0 hx h0 h1 hs0 hr hnu hpa hma hfl hnl hb hm hbl hlt0 B0
  generalize two d (name x.number x.part) (frame s) = tw at *
  generalize name x.number x.part = file at *
  generalize frame s = fr at *
  go_enter Tryz.func61, Tryz.ntmps61
  go_upto_region 1 with (fail)
  rw [← eW]
  clear eW
  obtain ⟨c0, c1, c2⟩ := CL.out _ (Below.refl _ _)
  go_wp2_with (first
    | (go_at_call 101; (with_reducible refine (LV.out).mono ?_); rintro e w' ⟨rfl, rfl⟩)
    | (go_at_call 118; (with_reducible refine (CF.out).mono ?_); rintro e w' ⟨rfl, rfl⟩))
  clear c0 c1 c2
  go_loopw [23] (fun i wx => ∃ k : Nat, i = .int .i64 k ∧ k ≤ 1 ∧ SbAt W0.heap.size W0.heap.size (if k = 0 then [] else fr) wx ∧ Below W0.heap.size W0 wx) (fun i _ => 1 - (intOf i).toNat)
  case atStart => exact ⟨0, rfl, by omega, Lib.fresh_isBuilder _ _ W0, (Below.refl _ _).alloc (Nat.le_refl _) _⟩
  case round =>
    obtain ⟨k, rfl, hk, hsb, hbx⟩ := hrel
    rename World => wx
    by_cases hk0 : k = 0
    · subst hk0
      have hsb' : SbAt W0.heap.size W0.heap.size [] wx := hsb
      have hrx := HR.out _ hbx
      obtain ⟨ad, rfl, had, hc⟩ := hrx.2 (by simp)
      have hc0 : wx.cell? ad = some (.string (bs s)) := hc 0 _ rfl
      have F1 := Lib.hid (FR.out _ hbx)
      have zz : ([] : List UInt8).length + (bs fr).size ≤ 140737488355328 := by rw [bs_size]; have := HSZ.out; simp; omega
      have ZZ := Lib.hid zz
      have HX := Lib.hid hbx
      have HSB := Lib.hid hsb'
      clear hc hsb hsb' zz hrx
      go_wp2_with (first
        | (go_at_call 102; (with_reducible refine (F1.out).mono ?_); rintro e w1 ⟨rfl, hb1⟩; have hsb1 := HSB.out.later hb1; have hbx1 := HX.out.trans (hb1.mono HX.out.size); have hz1 := hbx1.size)
        | (go_at_call 120; (with_reducible refine (WriteString_any W0.heap.size W0.heap.size [] _ _ hsb1 ZZ.out hz1).mono ?_); rintro e w2 ⟨rfl, hsb2, hb2⟩))
      go_roundw
      case rel => exact ⟨1, by go_num, Nat.le_refl _, hsb2, hbx1.trans hb2⟩
      case measure => simp [intOf]
    · obtain rfl : k = 1 := by omega
      have hsb' : SbAt W0.heap.size W0.heap.size fr wx := hsb
      have HX := Lib.hid hbx
      have HSB := Lib.hid hsb'
      have HXD := Lib.hid hbx.drew
      obtain ⟨c0, c1, c2⟩ := CL.out _ HXD.out
      clear hsb hsb' hbx hk0 hk FR LV CF HR
      go_upto_region 14 with (fail)
      go_cut [9] from 31 to 40 (fun v9 wc => ∃ gf, v9 = .pointer (some ⟨gf, 0, none⟩) ∧ wc.heap[gf]? = some (.cells #[.string (bs file)] 9 (0, 0)) ∧ SbAt W0.heap.size W0.heap.size fr wc ∧ Below W0.heap.size W0 wc)
      case first =>
        have hxz := HX.out.size
        go_region_held3 (fun W' => W'.cell? ⟨W.heap.size, 0, none⟩ = some (.pointer (some ⟨bl, 0, none⟩)) ∧ W'.cell? ⟨bl, 1, none⟩ = some (.int .i64 (x.number : Int)) ∧ W'.cell? ⟨bl, 2, none⟩ = some (.int .i64 (x.part : Int))) (first | (with_reducible exact CL.out _ HXD.out) | (with_reducible exact CL.out _ (HX.out.alloc HX.out.size _).drew) | (with_reducible exact CL.out _ hx1) | (with_reducible exact CL.out _ (hx1.alloc hx1.size _)) | (with_reducible exact CL.out _ ((hx1.alloc hx1.size _).setCell hx1.size _)) | (with_reducible exact CL.out _ (Below.setCell hx1 hxz _))) (first
          | (go_at_call 121; (with_reducible refine Calls.mono (NM.out _ ?_) ?_); (focus (first | exact HXD.out | exact (HX.out.alloc HX.out.size _).drew)); rintro e w1 ⟨rfl, hb1⟩; first | ((have hx1 := HXD.out.trans (hb1.mono HXD.out.size)); have hy1 : Below wx.heap.size wx w1 := ((Below.refl _ _).drew).trans hb1) | ((have hx1 := ((HX.out.alloc HX.out.size (.cells #[.string ⟨#[]⟩] 9)).drew).trans (hb1.mono ((HX.out.alloc HX.out.size _).drew).size)); (have hy1 : Below wx.heap.size wx w1 := (((Below.refl wx.heap.size wx).alloc (Nat.le_refl _) (.cells #[.string ⟨#[]⟩] 9)).drew).trans (hb1.mono (by simp))); (have hz1 : w1.heap[wx.heap.size]? = some (.cells #[.string ⟨#[]⟩] 9 (0, 0)) := (hb1.block _ (by simp)).trans (heap_alloc_new wx _)); (have hc1 : w1.cell? ⟨wx.heap.size, 0, none⟩ = some (.string ⟨#[]⟩) := (cell_heap hz1 0).trans rfl); (have hf1 : w1.frozen? ⟨wx.heap.size, 0, none⟩ = false := frozen_heap hz1 0); (have HZ1 := Lib.hid hz1); clear hz1)))
        all_goals
          (try go_wp2_with (fail))
          go_meet
          first
            | exact ⟨w1.heap.size, rfl, heap_alloc_new _ _, HSB.out.later (hy1.alloc hy1.size _), hx1.alloc hx1.size _⟩
            | exact ⟨wx.heap.size, rfl, (heap_set HZ1.out).trans rfl, HSB.out.later (hy1.setCell (Nat.le_refl _) _), hx1.setCell hxz _⟩
      case rest =>
        obtain ⟨gf, rfl, hgf, hsb, hbc⟩ := hcut
        obtain ⟨c0, c1, c2⟩ := CL.out _ hbc
        have C := Lib.hid (AC.out gf wc hgf hsb hbc)
        clear AC CL NM HX HSB HXD hgf hsb hbc
        by_cases h2 : tw.2 = 0
        · have T : Hid (appL d x s = (tw.1, { x with dead := ((0 : Int) == 40), many := x.many + 1 }, 0)) := Lib.hid (by rw [AL.out, if_pos h2, h2])
          rw [h2] at C
          clear AL h2
          have hm1 : IntKind.i64.wrap ((x.many : Int) + 1) = ((x.many + 1 : Nat) : Int) := by have := HM.out; rw [IntWalk.i64_in _ (by omega)]; rfl
          have FN : Hid (∀ w3, LogAt w3 bl b { x with dead := ((0 : Int) == 40) } → DkAt w3 b m (nn + 2) tw.1 → Kp (fun k => k = b ∨ k = m ∨ k = bl) W w3 → w3.cell? ⟨bl, 3, none⟩ = some (.int .i64 (x.many : Int)) ∧ w3.frozen? ⟨bl, 3, none⟩ = false ∧ AppLSays W b m nn bl d x s (.returned (.int .i64 0)) (w3.setCell ⟨bl, 3, none⟩ (.int .i64 ((x.many + 1 : Nat) : Int)))) := Lib.hid fun w3 q3 q2 q4 => by
            refine ⟨(cell_heap q3.st 3).trans rfl, frozen_heap q3.st 3, ?_⟩
            unfold AppLSays
            rw [T.out]
            have hne := q3.ne q2
            exact ⟨rfl, q2.keep (heap_set_ne hne.1) (heap_set_ne hne.2), ⟨(heap_set q3.st).trans rfl⟩, q4.setCell (.inr (.inr rfl)) _⟩
          clear T HM
          generalize AppLSays W b m nn bl d x s = Q at *
          go_wp2_with (go_at_call 105; (with_reducible refine (C.out).mono ?_); rintro e w3 ⟨rfl, q1, q2, q3, q4⟩; (have y0 : w3.cell? ⟨W.heap.size, 0, none⟩ = some (.pointer (some ⟨bl, 0, none⟩)) := (cell_heap q1 0).trans rfl); obtain ⟨y3, f3, hQ⟩ := FN.out _ q3 q2 q4; have HQ := Lib.hid hQ; clear hQ q1 q2 q3 q4)
          exact HQ.out
        · have T : Hid (appL d x s = (tw.1, { x with dead := (tw.2 == 40), many := x.many }, tw.2)) := Lib.hid (by rw [AL.out, if_neg h2])
          have n1 : (tw.2 == 0) = false := by simpa using h2
          clear AL h2
          generalize tw.2 = e2 at *
          go_wp2_with (go_at_call 105; (with_reducible refine (C.out).mono ?_); rintro e w3 ⟨rfl, q1, q2, q3, q4⟩)
          go_ret
          unfold AppLSays
          rw [T.out]
          exact ⟨rfl, q2, q3, q4⟩
end Go.Proofs.YtifiipmmgnmciaaGreatDoor.Wl
/- WlOpen, what a claim needs of it (prune.py). -/
namespace Go.Proofs.YtifiipmmgnmciaaGreatDoor.Wl
open Go.RowKit
open Dk (Dk Fd Kp DkS DkAt read find sync append sz names)
open Cd (own_kp)
set_option linter.unusedVariables false
set_option maxRecDepth 100000
theorem results_tmp4 {fn : Func} {t u v x : Tmp} (h : fn.results = #[.tmp t, .tmp u, .tmp v, .tmp x]) (tmps : Array Value) (P : Program) (w : World) :
    (results fn tmps).run P w = .ok (.tuple #[tmps.getD t undef, tmps.getD u undef, tmps.getD v undef, tmps.getD x undef]) w := by
  simp [results, h]
def state : B := [115, 116, 97, 116, 101]
def run (own : List B) (d : Dk) : Nat → Dk × List B × Nat
  | 0 => (d, [], 0)
  | k + 1 => ((take (run own d k).1 (own.getD k [])).2, (run own d k).2.1 ++ (take (run own d k).1 (own.getD k [])).1.1, if 0 < (take (run own d k).1 (own.getD k [])).1.2.1 then k + 1 else k)
def Rw (l : List B) (g : Nat) (p : Option Addr) (w : World) : Prop := ∀ k (hk : k < l.length), ∃ ad, p = some ad ∧ ad.block = g ∧ w.cell? (ad.add k) = some (.string (bs l[k]))
theorem rw_own {l : List B} {w : World} {B0 c : Nat} {p : Option Addr} (h : w.ownsRow B0 9 1 (.slice p l.length c) l.length (strs l)) : ∃ g, B0 ≤ g ∧ (l ≠ [] → g < w.heap.size) ∧ Rw l g p w := by
  have hr := Reads.of_own h
  rcases h.2 with ⟨_, h0⟩ | ⟨g, cap, cur, hv, hg, hc, _⟩
  · have : l = [] := List.eq_nil_of_length_eq_zero h0
    exact ⟨B0, Nat.le_refl _, fun e => absurd this e, fun k hk => by rw [this] at hk; simp at hk⟩
  · injection hv with hv _ _
    subst hv
    refine ⟨g, hg, fun _ => lt_heap hc, fun k hk => ?_⟩
    obtain ⟨ad, e, _, hc'⟩ := hr.2 (by omega)
    injection e with e
    subst e
    exact ⟨_, rfl, rfl, hc' k _ (by simp [hk])⟩
structure LS (W : World) (B0 b m bl g3 nn : Nat) (own : List B) (p3 : Option Addr) (d : Dk) (out : List B) (part : Nat) (v : Value) (w : World) : Prop where
  row : w.ownsRow B0 9 1 v out.length (strs out)
  dk : DkAt w b m nn d
  log : LogAt w bl b ⟨0, part, 0, false⟩
  rw : Rw own g3 p3 w
  fr : Kp (DkS b m) W w
  sz : B0 ≤ w.heap.size
def OpenSays (b m nn : Nat) (d : Dk) (own : List B) (W : World) (e : Ending) (w' : World) : Prop :=
  (∃ bl A c, e = .returned (.tuple #[.pointer (some ⟨bl, 0, none⟩), .string ⟨#[]⟩, .slice A (run own d own.length).2.1.length c, .int .i64 0]) ∧ W.heap.size ≤ bl ∧ w'.ownsRow (bl + 1) 9 1 (.slice A (run own d own.length).2.1.length c) (run own d own.length).2.1.length (strs (run own d own.length).2.1) ∧ LogAt w' bl b ⟨0, (run own d own.length).2.2, (run own d own.length).2.1.length, false⟩) ∧
    DkAt w' b m (nn + own.length) (run own d own.length).1 ∧ Kp (DkS b m) W w'
end Go.Proofs.YtifiipmmgnmciaaGreatDoor.Wl
