/- Joined by mkmerged.py: LgRparse. -/
import Derived.Test.YtdidnlkilleljaaGreatDoorMg14
/- LgRparse, what a claim needs of it (prune.py). -/
namespace Go.Proofs.YtdidnlkilleljaaGreatDoor.Lg
open Go.RowKit
set_option linter.unusedVariables false
set_option maxRecDepth 100000
set_option maxHeartbeats 20000000 in
theorem rloop (cmd body : ByteArray) (L : List ByteArray) (w : World) (hL : L.length ≤ 64) (hp : ∀ p ∈ L, p.size ≤ 1000000) (n : Nat) (hn : cmd.size = n + 1) (hn6 : n ≤ 8191)
    (hlast : (((cmd[n]'(by omega)).toNat : Int) != 10) = false) (hbody : cmd.extract 0 n = body) (hLs : pieces 10 body = L) :
    Calls Tryz.prog 68 #[.string cmd] w fun e w' => RpSays w w' (mach [] [] (L.map tl)) e := by
  obtain ⟨i0, hi, hz0, hz1, hz2⟩ := info_parts infoT
  obtain ⟨i1, hj, hy0, hy1, hy2⟩ := info_parts infoL
  have SP : Hid (Calls Tryz.prog 123 #[.string body, .int .u8 10] w fun e w' => (∃ A c, e = .returned (.slice A L.length c) ∧ L.length ≤ c ∧ Strs w' A L) ∧ Below w.heap.size w w') := Lib.hid ((rsplit_any body 10 w (by rw [← hbody]; simp; omega)).mono (by
    rintro e w' ⟨v, rfl, ho, hb⟩
    rw [hLs] at ho
    obtain ⟨A, c, rfl, h1, h2⟩ := own_strs ho
    exact ⟨⟨A, c, rfl, h1, h2⟩, hb⟩))
  have hnb : ¬ (8192 : Int) < ((n + 1 : Nat) : Int) := by omega
  have hne : ¬ cmd.toList = [] := by
    rw [Lib.toList_data]
    intro e
    have := tl_len cmd
    rw [show tl cmd = [] from e] at this
    simp at this
    omega
  have hne2 := some_ne (s := cmd) (by omega)
  have b1 : (0 : Int) ≤ (n : Int) := by omega
  have b2 : (n : Int) < ((n + 1 : Nat) : Int) := by omega
  have h64 : ¬ (64 : Int) < (L.length : Int) := by omega
  have HLS := Lib.hid hLs
  have HB := Lib.hid hbody
  clear hLs
  go_enter Tryz.func68, Tryz.ntmps68
  go_wp2_with (go_at_call 123; (with_reducible refine (SP.out).mono ?_); rintro e w1 ⟨⟨A, c, rfl, hAc, hst⟩, hb1⟩)
  have hsL : ∀ W, Below w1.heap.size w1 W → Strs W A L := fun W h => hst.below h
  have HSL := Lib.hid hsL
  have HWL := Lib.hid hp
  clear hst hsL SP hnb hne hne2 h64 hp
  go_loopw [5, 6, 7] (fun kv0 hv0 i wr => ∃ (kv hv : Value) (k : Nat) (fs : List Frame) (cur : List Stp), kv = kv0 ∧ hv = hv0 ∧ i = .int .i64 k ∧ k ≤ L.length ∧ Rp w1.heap.size wr kv hv fs cur ∧ Below w1.heap.size w1 wr ∧ mach fs cur ((L.map tl).drop k) = mach [] [] (L.map tl) ∧ fs.length ≤ 4 ∧ cur.length ≤ k ∧ ∀ f ∈ fs, f.out.length ≤ k) (fun _ _ i _ => L.length - (intOf i).toNat)
  case atStart => exact ⟨_, _, 0, [], [], rfl, rfl, rfl, by omega, Rp.start w1, (Below.refl _ _).alloc (Nat.le_refl _) _, rfl, by simp, by simp, by simp⟩
  case round =>
    obtain ⟨kv, hv, k, fs, cur, rfl, rfl, rfl, hk, hrp, hbw, hmach, hf4, hcur, hfo⟩ := hrel
    rename World => wr
    have hb0 : Below w.heap.size w wr := hb1.trans (hbw.mono hb1.size)
    obtain ⟨b, hc, vs, v, ok, oh, hfr, hsl, hB0, hbs⟩ := hrp
    obtain ⟨Ah, ch, rfl, hch⟩ := own_form2 oh
    obtain ⟨gk, ck, rfl, hck, hgk⟩ := own_some ok (by omega)
    have OK := Lib.hid ok
    have OH := Lib.hid oh
    have FR := Lib.hid hfr
    have SL := Lib.hid hsl
    have HM := Lib.hid hmach
    have HFO := Lib.hid hfo
    clear ok oh hfr hsl hmach hfo
    by_cases hlt : k < L.length
    · have hkI : (k : Int) < (L.length : Int) := by omega
      obtain ⟨ad, rfl, hadb, hline⟩ := (HSL.out wr hbw).at_ hlt
      have DL := drop_line hlt
      have hszl := HWL.out _ (List.getElem_mem hlt)
      have HM2 := HM.out
      rw [DL, mach_cons] at HM2
      have HD := Lib.hid HM2
      clear HM2 DL
      generalize L[k] = line at *
      by_cases he : line = ⟨#[101, 110, 100]⟩
      · subst he
        have HDs := HD.out
        rw [if_pos (show tl ⟨#[101, 110, 100]⟩ = endW from rfl)] at HDs
        rcases fs with _ | ⟨f, fs⟩
        · -- [end0
          have R := Lib.hid HDs.symm
          clear HDs
          go_wp2_with (fail)
          go_ret2
          exact RpSays.err (k := 21) R.out hb0
          -- ]end0
        · -- [end1
          have R : Hid (mach fs (f.out ++ [⟨f.op, f.args, f.n, cur⟩]) ((L.map tl).drop (k + 1)) = mach [] [] (L.map tl)) := Lib.hid HDs
          clear HDs
          have hfo1 := HFO.out f (List.mem_cons_self ..)
          have HFO1 : Hid (∀ g ∈ fs, g.out.length ≤ k) := Lib.hid (fun g hg => HFO.out g (List.mem_cons_of_mem _ hg))
          clear HFO
          obtain ⟨gh, ch2, he, hch2, hgh⟩ := own_some OH.out (by simp)
          obtain ⟨rfl, rfl⟩ : Ah = some ⟨gh, 0, none⟩ ∧ ch = ch2 := by
            injection he with h1 _ h2
            exact ⟨h1, h2⟩
          clear he
          simp only [List.length_cons] at *
          obtain ⟨b1, hc1, vs1, v1, A1, k1, c1, rfl, rfl, hfr1, hb1b, hs1, hk1, hkc1, hl1⟩ := FR.out.inv
          obtain ⟨hln1, hln2⟩ := hfr1.len
          have hB1 := hfr1.base
          obtain ⟨Av, kv1, cv, rfl, hkv, hss⟩ := SL.out.steps
          obtain ⟨cells1, oc, rc, xc⟩ := hs1
          obtain ⟨Aw, cw, rfl, hcw⟩ := own_form2 oc
          have OK1 : Hid (wr.ownsRow w1.heap.size 22 1 (.slice (some ⟨gk, 0, none⟩) (fs.length + 1) ck) (fs.length + 1) (vs1 ++ [.slice Aw f.out.length cw])) := Lib.hid (by
            have := own_take OK.out (m := fs.length + 1) (by omega)
            rwa [List.take_append_of_le_length (by simp; omega), List.take_of_length_le (by simp; omega)] at this)
          have OH1 : Hid (wr.ownsRow w1.heap.size 61 4 (.slice (some ⟨gh, 0, none⟩) fs.length ch) fs.length hc1) := Lib.hid (by
            have := own_take OH.out (m := fs.length) (by omega)
            rwa [List.take_append_of_le_length (by omega), List.take_of_length_le (by omega)] at this)
          have q0 : wr.cell? ⟨gk, fs.length, none⟩ = some (.slice Aw f.out.length cw) := by
            have := OK1.out.cells (g := gk) rfl fs.length (.slice Aw f.out.length cw) (by rw [List.getElem?_append_right (by omega)]; simp [hln2])
            rwa [add_eq] at this
          have q1 : wr.cell? ⟨gk, fs.length + 1, none⟩ = some (.slice Av kv1 cv) := by
            have := OK.out.cells (g := gk) rfl (fs.length + 1) (.slice Av kv1 cv) (by rw [List.getElem?_append_right (by simp; omega)]; simp [hln2])
            rwa [add_eq] at this
          have p0 : wr.cell? ⟨gh, fs.length * 4, none⟩ = some (.int .i64 f.op) := (OH.out.cellAt (fs.length * 4) (by omega)).trans (by rw [List.getElem?_append_right (by omega), hln1, Nat.sub_self]; rfl)
          have p1 : wr.cell? ⟨gh, fs.length * 4 + 1, none⟩ = some (.slice A1 k1 c1) := (OH.out.cellAt (fs.length * 4 + 1) (by omega)).trans (by rw [List.getElem?_append_right (by omega), hln1, Nat.add_sub_cancel_left]; rfl)
          have p2 : wr.cell? ⟨gh, fs.length * 4 + 2, none⟩ = some (.int .i64 f.n) := (OH.out.cellAt (fs.length * 4 + 2) (by omega)).trans (by rw [List.getElem?_append_right (by omega), hln1, Nat.add_sub_cancel_left]; rfl)
          have p3 : wr.cell? ⟨gh, fs.length * 4 + 3, none⟩ = some (.slice none 0 0) := (OH.out.cellAt (fs.length * 4 + 3) (by omega)).trans (by rw [List.getElem?_append_right (by omega), hln1, Nat.add_sub_cancel_left]; rfl)
          have hgk2 := (own_block OK.out (g := gk) rfl).2
          have hgh2 := (own_block OH.out (g := gh) rfl).2
          have Q0 := Lib.hid q0
          have OC := Lib.hid oc
          have RC := Lib.hid rc
          have XC := Lib.hid xc
          have FR1 := Lib.hid hfr1
          have SS := Lib.hid hss
          have HL1 := Lib.hid hl1
          have HK1 := Lib.hid hk1
          have HLN1 := Lib.hid hln1
          have HLN2 := Lib.hid hln2
          clear q0 oc rc xc hfr1 hss hl1 hk1 hln1 hln2 FR SL
          have dI : (0 : Int) ≤ (fs.length : Int) := by omega
          have dI0 : ¬ (fs.length : Int) + 1 = 0 := by omega
          have dI2 : (fs.length : Int) < ((fs.length + 1 : Nat) : Int) := by omega
          have dI3 : (fs.length : Int) < (fs.length : Int) + 1 := by omega
          have dI5 : (fs.length : Int) ≤ (ch : Int) := by omega
          have dI6 : (fs.length : Int) + 1 ≤ (ck : Int) := by omega
          have dI7 : (fs.length : Int) + 1 < (fs.length : Int) + 1 + 1 := by omega
          go_upto_region 23 with (fail)
          obtain ⟨W3, eW3⟩ : ∃ W3, W3 = wr.alloc (.cells #[.int .i64 f.op, .slice A1 k1 c1, .int .i64 f.n, .slice Av kv1 cv] 61) := ⟨_, rfl⟩
          have hx3 : W3.heap[wr.heap.size]? = some (.cells #[.int .i64 f.op, .slice A1 k1 c1, .int .i64 f.n, .slice Av kv1 cv] 61 (0, 0)) := by rw [eW3]; exact heap_new wr _
          have hbW : Below wr.heap.size wr W3 := by rw [eW3]; exact (Below.refl _ _).alloc (Nat.le_refl _) _
          rw [← eW3]
          clear eW3
          have HX3 := Lib.hid hx3
          have HBW := Lib.hid hbW
          clear hx3 hbW p0 p1 p2 p3 q1
          go_cut [66] from 33 to 130 (fun v wx => (∃ B : Bool, v = .bool B) ∧ Below W3.heap.size W3 wx)
          case first =>
            go_region_with (fail)
            all_goals
              go_wp2_with (fail)
              go_meet
              refine ⟨⟨_, rfl⟩, ?_⟩
              repeat (first | exact Below.refl _ _ | refine Below.drew ?_ | refine Below.setCell ?_ (Nat.le_refl _) _ | refine Below.alloc ?_ (Nat.le_refl _) _)
          case rest =>
            obtain ⟨⟨Bv, rfl⟩, hbc⟩ := hcut
            have hbW2 : Below wr.heap.size wr wc := HBW.out.trans (hbc.mono HBW.out.size)
            have hx : wc.heap[wr.heap.size]? = some (.cells #[.int .i64 f.op, .slice A1 k1 c1, .int .i64 f.n, .slice Av kv1 cv] 61 (0, 0)) := (hbc.block _ (lt_of_block HX3.out)).trans HX3.out
            clear hbc HX3 HBW
            have hsX : wr.heap.size < wc.heap.size := lt_of_block hx
            have XF := Lib.hid (fun W (h : Below wc.heap.size wc W) => four ((h.block _ hsX).trans hx))
            have HF := Lib.hid (fun W (h : Below wr.heap.size wr W) => (h.cell (p := ⟨gk, fs.length, none⟩) hgk2).trans Q0.out)
            have LW : Lies wc (okS b1 wc.heap.size (own2 (.slice (some ⟨gh, 0, none⟩) fs.length ch) (.slice (some ⟨gk, 0, none⟩) (fs.length + 1) ck)) (.slice Aw f.out.length cw)) 1 A1 k1 (strV f.args) := HL1.out.mono (by omega) (fun x hx hlt => ⟨⟨hx.1, by have := hx.2.1; omega, hx.2.2⟩, hbW2.block x hlt⟩)
            have HIN : StepsAt wc (okS b1 wc.heap.size (own2 (.slice (some ⟨gh, 0, none⟩) fs.length ch) (.slice (some ⟨gk, 0, none⟩) (fs.length + 1) ck)) (.slice Aw f.out.length cw)) Av kv1 cur := SS.out.mono (fun x hx hlt => ⟨⟨by have := hx.1; omega, by omega, fun e => by have := (XC.out x e.symm).1; have := hx.1; omega, hx.2.2⟩, hbW2.block x hlt⟩)
            have RC1 : RowAt wr (okS b1 wr.heap.size (own2 (.slice (some ⟨gh, 0, none⟩) fs.length ch) (.slice (some ⟨gk, 0, none⟩) (fs.length + 1) ck)) (.slice Aw f.out.length cw)) cells1 f.out := RC.out.mono (fun x hx _ => ⟨⟨hx.1, by have := hx.2.1; omega, hx.2.2⟩, rfl⟩)
            have XC1 : ∀ g, (Value.slice Aw f.out.length cw).ownBlock = some g → g < wr.heap.size ∧ ¬ (own2 (.slice (some ⟨gh, 0, none⟩) fs.length ch) (.slice (some ⟨gk, 0, none⟩) (fs.length + 1) ck)) g := fun g hg => ⟨by have := (XC.out g hg).1; omega, (XC.out g hg).2⟩
            have HLW := Lib.hid LW
            have HHIN := Lib.hid HIN
            have HRC1 := Lib.hid RC1
            have HXC1 := Lib.hid XC1
            clear LW HIN RC1 XC1 RC SS HL1
            go_upto_if 66 with (fail)
            go_cut [] from 33 to 130 (fun wx => Rp w1.heap.size wx (.slice (some ⟨gk, 0, none⟩) (fs.length + 1) ck) (.slice (some ⟨gh, 0, none⟩) fs.length ch) fs (f.out ++ [⟨f.op, f.args, f.n, cur⟩]) ∧ Below w1.heap.size w1 wx)
            case first =>
              obtain ⟨x0, x1, x2, x3, _, _, _, _⟩ := XF.out wc (Below.refl _ _)
              have hf0 := HF.out wc hbW2
              have xa := fun o => XF.out (wc.alloc o) ((Below.refl _ _).alloc (Nat.le_refl _) o)
              have hfa := fun o => HF.out (wc.alloc o) (hbW2.alloc hbW2.size o)
              have xa0 := fun o => (xa o).1
              have xa1 := fun o => (xa o).2.1
              have xa2 := fun o => (xa o).2.2.1
              have xa3 := fun o => (xa o).2.2.2.1
              clear xa
              have dI4 : (f.out.length : Int) < (f.out.length : Int) + 1 := by omega
              have dW : IntKind.i64.wrap (fs.length : Int) = (fs.length : Int) := IntWalk.i64_in _ (by omega)
              cases Bv
              · -- [end26
                go_upto_region 26 with (fail)
                go_region_law ((refine step_append_any _ rfl (.tmp 88) (.tmp 90) _ rfl b1 61 i0 _ 4 64 Tryz.underlying22 hi hz0 hz1 hz2 rfl (by omega) (.slice Aw f.out.length cw) f.out.length cells1 rfl (own_keep OC.out (fun x hx _ => (hbW2.alloc hbW2.size (.cells #[.int .i64 f.op, .slice A1 k1 c1, .int .i64 f.n, .slice Av kv1 cv] 61)).block x hx)) _ (some ⟨wc.heap.size, 0, none⟩) 1 1 [.int .i64 f.op, .slice A1 k1 c1, .int .i64 f.n, .slice Av kv1 cv] rfl (reads4 (heap_alloc_new wc _)) mem4 (by simp only [maxLen]; omega) (by omega) (by have := hbW2.size; simp; omega) ?_; intro v2 w4 hown4 hg4 hat4; obtain ⟨ge, ce, rfl, hce, hge⟩ := own_some hown4 (by omega); have hbx : w4.heap[wr.heap.size]? = some (.cells #[.int .i64 f.op, .slice A1 k1 c1, .int .i64 f.n, .slice Av kv1 cv] 61 (0, 0)) := (hg4.block _ (by simp; omega) (fun e => by have := (XC.out _ e.symm).1; omega)).trans ((Below.heap_alloc _ _ _ hsX).trans hx); obtain ⟨x40, x41, x42, x43, _, _, _, _⟩ := four hbx; have hbk : w4.heap[gk]? = wr.heap[gk]? := (hg4.block gk (by simp; omega) (fun e => (XC.out gk e.symm).2 (.inr rfl))).trans ((Below.heap_alloc _ _ _ (by omega)).trans (hbW2.block gk hgk2)); have ok4 := own_keepB OK1.out (w' := w4) (fun g hg => by injection hg with hg; subst hg; exact hbk); have hh4 : w4.cell? ⟨gk, fs.length, none⟩ = some (.slice Aw f.out.length cw) := (World.cell?_of_block (w := wr) hbk).trans Q0.out; have hz4 := ok4.frozenAt fs.length; have cl := OC.out.1; have y0 := hown4.frozenAt (f.out.length * 4); have y1 := hown4.frozenAt (f.out.length * 4 + 1); have y2 := hown4.frozenAt (f.out.length * 4 + 2); have y3 := hown4.frozenAt (f.out.length * 4 + 3); have hne1' : ¬ ge = gk := (fun e => own_ne hown4 ok4 (by decide) rfl (by rw [e]; rfl)); have hne2' : ¬ gk = ge := (fun e => hne1' e.symm); have HOW4 := Lib.hid hown4; have HG4 := Lib.hid hg4; have HAT4 := Lib.hid hat4; have HOK4 := Lib.hid ok4; clear hown4 hg4 hat4 ok4 cl))
                all_goals
                  have AE := fun (wx : World) hx => laid_one (wx := wx) (ce := ce) (ck := ck) HLN2.out hne1' HOW4.out HOK4.out hx
                  have G4 : (wc.alloc (.cells #[.int .i64 f.op, .slice A1 k1 c1, .int .i64 f.n, .slice Av kv1 cv] 61)).grownBy w4 (Value.slice Aw f.out.length cw).ownBlock := ⟨HG4.out.os, HG4.out.tape, HG4.out.output, HG4.out.size, HG4.out.block⟩
                  have B3 : Below w1.heap.size w1 wc := hbw.trans (hbW2.mono hbw.size)
                  have B4 : Below w1.heap.size w1 w4 := (B3.alloc B3.size _).grown G4 (by have := B3.size; simp; omega) (fun g hg => Nat.le_trans hB1 (own_block OC.out hg).1)
                  have hgeB : w1.heap.size ≤ ge := by omega
                  have RA := fun (wx : World) hx => Rp.add (wx := wx) hbW2 G4 HAT4.out rfl rfl (AE wx hx).1 (AE wx hx).2.1 (AE wx hx).2.2.1 (AE wx hx).2.2.2.1 OH1.out OK1.out FR1.out OC.out HRC1.out HXC1.out hB1 (by omega) HK1.out hkc1 HLW.out hkv HHIN.out
                  have BA := fun (wx : World) hx => (⟨(AE wx hx).2.2.2.2.1.trans B4.os, (AE wx hx).2.2.2.2.2.1.trans B4.tape, (AE wx hx).2.2.2.2.2.2.trans B4.output, by rw [(AE wx hx).2.2.2.1]; exact B4.size, fun y hy => ((AE wx hx).2.2.1 y (by omega) (by omega)).trans (B4.block y hy)⟩ : Below w1.heap.size w1 wx)
                  have RAH := Lib.hid RA
                  have BAH := Lib.hid BA
                  clear AE RA BA
                  go_wp2_with (fail)
                  go_meet
                  refine ⟨?_, ?_⟩
                  · with_reducible exact RAH.out _ rfl
                  · with_reducible exact BAH.out _ rfl
                -- ]end26
              · -- [end24
                go_upto_region 24 with (fail)
                go_region_law ((refine step_append_any _ rfl (.tmp 74) (.tmp 77) _ rfl b1 61 i0 _ 4 64 Tryz.underlying22 hi hz0 hz1 hz2 rfl (by omega) (.slice Aw f.out.length cw) f.out.length cells1 rfl (own_keep OC.out (fun x hx _ => (hbW2.alloc hbW2.size (.cells #[.int .i64 0, .slice none 0 0, .int .i64 0, .slice none 0 0] 61)).block x hx)) _ (some ⟨wc.heap.size, 0, none⟩) 1 1 [.int .i64 0, .slice none 0 0, .int .i64 0, .slice none 0 0] rfl (reads4 (heap_alloc_new wc _)) mem4 (by simp only [maxLen]; omega) (by omega) (by have := hbW2.size; simp; omega) ?_; intro v2 w4 hown4 hg4 hat4; obtain ⟨ge, ce, rfl, hce, hge⟩ := own_some hown4 (by omega); have hbx : w4.heap[wr.heap.size]? = some (.cells #[.int .i64 f.op, .slice A1 k1 c1, .int .i64 f.n, .slice Av kv1 cv] 61 (0, 0)) := (hg4.block _ (by simp; omega) (fun e => by have := (XC.out _ e.symm).1; omega)).trans ((Below.heap_alloc _ _ _ hsX).trans hx); obtain ⟨x40, x41, x42, x43, _, _, _, _⟩ := four hbx; have hbk : w4.heap[gk]? = wr.heap[gk]? := (hg4.block gk (by simp; omega) (fun e => (XC.out gk e.symm).2 (.inr rfl))).trans ((Below.heap_alloc _ _ _ (by omega)).trans (hbW2.block gk hgk2)); have ok4 := own_keepB OK1.out (w' := w4) (fun g hg => by injection hg with hg; subst hg; exact hbk); have hh4 : w4.cell? ⟨gk, fs.length, none⟩ = some (.slice Aw f.out.length cw) := (World.cell?_of_block (w := wr) hbk).trans Q0.out; have hz4 := ok4.frozenAt fs.length; have cl := OC.out.1; have e0 : w4.cell? ⟨ge, f.out.length * 4, none⟩ = some (.int .i64 0) := (hown4.cellAt (f.out.length * 4) (by omega)).trans (by rw [List.getElem?_append_right (by omega), cl, Nat.sub_self]; rfl); have e1 : w4.cell? ⟨ge, f.out.length * 4 + 1, none⟩ = some (.slice none 0 0) := (hown4.cellAt (f.out.length * 4 + 1) (by omega)).trans (by rw [List.getElem?_append_right (by omega), cl, Nat.add_sub_cancel_left]; rfl); have e2 : w4.cell? ⟨ge, f.out.length * 4 + 2, none⟩ = some (.int .i64 0) := (hown4.cellAt (f.out.length * 4 + 2) (by omega)).trans (by rw [List.getElem?_append_right (by omega), cl, Nat.add_sub_cancel_left]; rfl); have e3 : w4.cell? ⟨ge, f.out.length * 4 + 3, none⟩ = some (.slice none 0 0) := (hown4.cellAt (f.out.length * 4 + 3) (by omega)).trans (by rw [List.getElem?_append_right (by omega), cl, Nat.add_sub_cancel_left]; rfl); have y0 := hown4.frozenAt (f.out.length * 4); have y1 := hown4.frozenAt (f.out.length * 4 + 1); have y2 := hown4.frozenAt (f.out.length * 4 + 2); have y3 := hown4.frozenAt (f.out.length * 4 + 3); have hne1' : ¬ ge = gk := (fun e => own_ne hown4 ok4 (by decide) rfl (by rw [e]; rfl)); have hne2' : ¬ gk = ge := (fun e => hne1' e.symm); have HOW4 := Lib.hid hown4; have HG4 := Lib.hid hg4; have HAT4 := Lib.hid hat4; have HOK4 := Lib.hid ok4; clear hown4 hg4 hat4 ok4 cl))
                all_goals
                  have AE := fun (wx : World) hx => laid_both (wx := wx) (ce := ce) (ck := ck) (a := .int .i64 f.op) (b' := .slice A1 k1 c1) (c' := .int .i64 f.n) (d' := .slice Av kv1 cv) OC.out.1 HLN2.out hne1' HOW4.out HOK4.out hx
                  have G4 : (wc.alloc (.cells #[.int .i64 0, .slice none 0 0, .int .i64 0, .slice none 0 0] 61)).grownBy w4 (Value.slice Aw f.out.length cw).ownBlock := ⟨HG4.out.os, HG4.out.tape, HG4.out.output, HG4.out.size, HG4.out.block⟩
                  have B3 : Below w1.heap.size w1 wc := hbw.trans (hbW2.mono hbw.size)
                  have B4 : Below w1.heap.size w1 w4 := (B3.alloc B3.size _).grown G4 (by have := B3.size; simp; omega) (fun g hg => Nat.le_trans hB1 (own_block OC.out hg).1)
                  have hgeB : w1.heap.size ≤ ge := by omega
                  have RA := fun (wx : World) hx => Rp.add (wx := wx) hbW2 G4 HAT4.out rfl rfl (AE wx hx).1 (AE wx hx).2.1 (AE wx hx).2.2.1 (AE wx hx).2.2.2.1 OH1.out OK1.out FR1.out OC.out HRC1.out HXC1.out hB1 (by omega) HK1.out hkc1 HLW.out hkv HHIN.out
                  have BA := fun (wx : World) hx => (⟨(AE wx hx).2.2.2.2.1.trans B4.os, (AE wx hx).2.2.2.2.2.1.trans B4.tape, (AE wx hx).2.2.2.2.2.2.trans B4.output, by rw [(AE wx hx).2.2.2.1]; exact B4.size, fun y hy => ((AE wx hx).2.2.1 y (by omega) (by omega)).trans (B4.block y hy)⟩ : Below w1.heap.size w1 wx)
                  have RAH := Lib.hid RA
                  have BAH := Lib.hid BA
                  clear AE RA BA
                  go_wp2_with (fail)
                  go_meet
                  refine ⟨?_, ?_⟩
                  · with_reducible exact RAH.out _ (.inr rfl)
                  · with_reducible exact BAH.out _ (.inr rfl)
                -- ]end24
            case rest =>
              obtain ⟨hrp2, hbw2⟩ := hcut
              have HRP2 := Lib.hid hrp2
              clear hrp2
              go_wp2_with (fail)
              go_roundw
              case rel =>
                exact ⟨_, _, k + 1, fs, f.out ++ [⟨f.op, f.args, f.n, cur⟩], rfl, rfl, by go_num, by omega, HRP2.out, hbw2, R.out, by omega, by simp; omega, fun g hg => by have := HFO1.out g hg; omega⟩
              case measure => simp [intOf]; omega
          -- ]end1
      · have hne : (line.toList == [101, 110, 100]) = false := beq_eq_false_iff_ne.2 (fun e => he (lit_in e))
        have hne1 : ¬ line.toList = [101, 110, 100] := fun e => he (lit_in e)
        have hne2 : ¬ tl line = endW := fun e => he (tl_inj e)
        have HDs := HD.out
        rw [if_neg hne2] at HDs
        obtain ⟨x, l, hxl⟩ : ∃ x l, pieces 32 line = x :: l := by
          cases e : pieces 32 line with
          | nil => exact absurd e (pieces_ne 32 line)
          | cons x l => exact ⟨x, l, rfl⟩
        have SW := Lib.hid (words_split line hszl x l hxl)
        have hsp : splitB 32 (tl line) = tl x :: l.map tl := by rw [← List.map_cons, ← hxl, pieces, map_tl_bs]
        have hll : l.length ≤ 1000000 := by
          have := pieces_len 32 line
          rw [hxl] at this
          simp at this
          omega
        have hpl : ∀ p ∈ l, p.size ≤ 1000000 := fun p h => by
          have := pieces_part 32 line p (by rw [hxl]; exact List.mem_cons_of_mem _ h)
          omega
        unfold stepOf at HDs
        rw [hsp] at HDs
        clear hsp hxl he hne2
        cases hso : stepW (tl x :: l.map tl) with
        | none =>
          -- [none
          rw [hso] at HDs
          have R := Lib.hid HDs.symm
          have ST := Lib.hid (fun g c W => rstep_none (g := g) (c := c) (w := W) hso)
          have HPL := Lib.hid hpl
          clear hso HDs hpl
          go_wp2_with (first | (go_at_call 123; (with_reducible refine (SW.out _).mono ?_); rintro e w2 ⟨⟨g2, c2, rfl, hg2, hc2, hs2⟩, hb2⟩; have ST2 := Lib.hid (ST.out g2 c2 w2 hs2 hll HPL.out hc2); clear ST) | (go_at_call 124; (with_reducible refine (ST2.out).mono ?_); rintro e w3 ⟨⟨op, A3, k3, c3, n3, rfl⟩, hb3⟩))
          go_ret2
          exact RpSays.err (k := 20) R.out ((hb0.trans ((hb2.mono hb0.size).trans (hb3.mono (by have := hb0.size; have := hb2.size; omega)))).alloc (by have := hb0.size; have := hb2.size; have := hb3.size; omega) _)
          -- ]none
        | some st =>
          obtain ⟨op, xs, m⟩ := st
          rw [hso] at HDs
          simp only at HDs
          have ST := Lib.hid (fun g c W => rstep_some (g := g) (c := c) (w := W) hso)
          have HPL := Lib.hid hpl
          have HR2 := HDs
          clear hso HDs hpl
          cases hop : opens op with
          | false =>
            have hnop : ¬ (op = 9 ∨ op = 10) := fun h => by rw [opens_iff.2 h] at hop; cases hop
            rw [if_neg hnop] at HR2
            have R := Lib.hid HR2
            have g1 : (op != 9) = true := by simp; exact fun e => hnop (.inl e)
            have g2' : (op != 10) = true := by simp; exact fun e => hnop (.inr e)
            clear HR2 hnop hop
            obtain ⟨cells, oc, rc, xc⟩ := SL.out
            obtain ⟨Av, cv, rfl, hcv⟩ := own_form2 oc
            have q0 : wr.cell? ⟨gk, fs.length, none⟩ = some (.slice Av cur.length cv) := by
              have := OK.out.cells (g := gk) rfl fs.length (.slice Av cur.length cv) (by rw [List.getElem?_append_right (by have := FR.out.len.2; omega)]; simp [FR.out.len.2])
              rwa [add_eq] at this
            have Q0 := Lib.hid q0
            have hgk2 := (own_block OK.out (g := gk) rfl).2
            have dI : (0 : Int) ≤ (fs.length : Int) := by omega
            have dI2 : (fs.length : Int) < ((fs.length + 1 : Nat) : Int) := by omega
            have OC := Lib.hid oc
            have RC := Lib.hid rc
            have XC := Lib.hid xc
            clear oc rc xc q0
            go_upto_region 31 with (first | (go_at_call 123; (with_reducible refine (SW.out _).mono ?_); rintro e w2 ⟨⟨g2, c2, rfl, hg2, hc2, hs2⟩, hb2⟩; have ST2 := Lib.hid (ST.out g2 c2 w2 hs2 hll HPL.out hc2); clear ST) | (go_at_call 124; (with_reducible refine (ST2.out).mono ?_); rintro e w3 ⟨⟨A3, k3, c3, rfl, hk3, hkc3, hl3⟩, hb3⟩; have HK3 := Lib.hid hk3; have HL3 := Lib.hid hl3; clear hk3 hl3; have hw3 : Below wr.heap.size wr w3 := hb2.trans (hb3.mono hb2.size); have hsz3 := hw3.size))
            obtain ⟨W3, eW3⟩ : ∃ W3, W3 = w3.alloc (.cells #[.int .i64 op, .slice A3 k3 c3, .int .i64 m, .slice none 0 0] 61) := ⟨_, rfl⟩
            have hx3 : W3.heap[w3.heap.size]? = some (.cells #[.int .i64 op, .slice A3 k3 c3, .int .i64 m, .slice none 0 0] 61 (0, 0)) := by rw [eW3]; exact heap_new w3 _
            have hbW : Below wr.heap.size wr W3 := by rw [eW3]; exact hw3.alloc hsz3 _
            have hs3W : w3.heap.size < W3.heap.size := lt_of_block hx3
            have HW3 : Hid (∀ x, x < w3.heap.size → W3.heap[x]? = w3.heap[x]?) := Lib.hid (fun x hx => by rw [eW3]; exact Below.heap_alloc _ _ _ hx)
            rw [← eW3]
            clear eW3
            have XF := Lib.hid (fun W (h : Below W3.heap.size W3 W) => four ((h.block _ hs3W).trans hx3))
            have HF := Lib.hid (fun W (h : Below wr.heap.size wr W) => (h.cell (p := ⟨gk, fs.length, none⟩) hgk2).trans Q0.out)
            -- [r31
            go_cut [] from 33 to 130 (fun wx => Rp w1.heap.size wx (.slice (some ⟨gk, 0, none⟩) (fs.length + 1) ck) (.slice Ah fs.length ch) fs (cur ++ [⟨op, xs, m, []⟩]) ∧ Below w1.heap.size w1 wx)
            case first =>
              obtain ⟨x0, x1, x2, x3, _, _, _, _⟩ := XF.out W3 (Below.refl _ _)
              have hf0 := HF.out W3 hbW
              have xa := fun o => XF.out (W3.alloc o) ((Below.refl _ _).alloc (Nat.le_refl _) o)
              have hfa := fun o => HF.out (W3.alloc o) (hbW.alloc hbW.size o)
              have xa0 := fun o => (xa o).1
              have xa1 := fun o => (xa o).2.1
              have xa2 := fun o => (xa o).2.2.1
              have xa3 := fun o => (xa o).2.2.2.1
              clear xa
              have dI4 : (cur.length : Int) < (cur.length : Int) + 1 := by omega
              have dI3 : (fs.length : Int) < (fs.length : Int) + 1 := by omega
              have LW : Lies W3 (okS b W3.heap.size (own2 (.slice Ah fs.length ch) (.slice (some ⟨gk, 0, none⟩) (fs.length + 1) ck)) (.slice Av cur.length cv)) 1 A3 k3 (strV xs) := HL3.out.mono (by omega) (by
                rintro x rfl hx
                refine ⟨⟨by omega, by omega, fun e => by have := (XC.out _ e.symm).1; omega, fun h => ?_⟩, ?_⟩
                · rcases h with h | h
                  · have := (own_block OH.out h.symm).2; omega
                  · have := (own_block OK.out h.symm).2; omega
                · exact HW3.out _ hx)
              have HLW := Lib.hid LW
              have HNI := Lib.hid (show StepsAt W3 (okS b W3.heap.size (own2 (.slice Ah fs.length ch) (.slice (some ⟨gk, 0, none⟩) (fs.length + 1) ck)) (.slice Av cur.length cv)) none 0 [] from ⟨rfl, [], Lies.none_, .nil⟩)
              clear LW
              go_region_law ((refine step_append_any _ rfl (.tmp 115) (.tmp 118) _ rfl b 61 i0 _ 4 64 Tryz.underlying22 hi hz0 hz1 hz2 rfl (by omega) (.slice Av cur.length cv) cur.length cells rfl (own_keep OC.out (fun x hx _ => (hbW.alloc hbW.size (.cells #[.int .i64 0, .slice none 0 0, .int .i64 0, .slice none 0 0] 61)).block x hx)) _ (some ⟨W3.heap.size, 0, none⟩) 1 1 [.int .i64 0, .slice none 0 0, .int .i64 0, .slice none 0 0] rfl (reads4 (heap_alloc_new W3 _)) mem4 (by simp only [maxLen]; omega) (by omega) (by have := hbW.size; simp; omega) ?_; intro v2 w4 hown4 hg4 hat4; obtain ⟨ge, ce, rfl, hce, hge⟩ := own_some hown4 (by omega); have hbx : w4.heap[w3.heap.size]? = some (.cells #[.int .i64 op, .slice A3 k3 c3, .int .i64 m, .slice none 0 0] 61 (0, 0)) := (hg4.block _ (by simp; omega) (fun e => by have := (XC.out _ e.symm).1; omega)).trans ((Below.heap_alloc _ _ _ hs3W).trans hx3); obtain ⟨x40, x41, x42, x43, _, _, _, _⟩ := four hbx; have hbk : w4.heap[gk]? = wr.heap[gk]? := (hg4.block gk (by simp; omega) (fun e => (XC.out gk e.symm).2 (.inr rfl))).trans ((Below.heap_alloc _ _ _ (by omega)).trans (hbW.block gk hgk2)); have ok4 := own_keepB OK.out (w' := w4) (fun g hg => by injection hg with hg; subst hg; exact hbk); have hh4 : w4.cell? ⟨gk, fs.length, none⟩ = some (.slice Av cur.length cv) := (World.cell?_of_block (w := wr) hbk).trans Q0.out; have hz4 := ok4.frozenAt fs.length; have cl := OC.out.1; have e0 : w4.cell? ⟨ge, cur.length * 4, none⟩ = some (.int .i64 0) := (hown4.cellAt (cur.length * 4) (by omega)).trans (by rw [List.getElem?_append_right (by omega), cl, Nat.sub_self]; rfl); have e1 : w4.cell? ⟨ge, cur.length * 4 + 1, none⟩ = some (.slice none 0 0) := (hown4.cellAt (cur.length * 4 + 1) (by omega)).trans (by rw [List.getElem?_append_right (by omega), cl, Nat.add_sub_cancel_left]; rfl); have e2 : w4.cell? ⟨ge, cur.length * 4 + 2, none⟩ = some (.int .i64 0) := (hown4.cellAt (cur.length * 4 + 2) (by omega)).trans (by rw [List.getElem?_append_right (by omega), cl, Nat.add_sub_cancel_left]; rfl); have e3 : w4.cell? ⟨ge, cur.length * 4 + 3, none⟩ = some (.slice none 0 0) := (hown4.cellAt (cur.length * 4 + 3) (by omega)).trans (by rw [List.getElem?_append_right (by omega), cl, Nat.add_sub_cancel_left]; rfl); have y0 := hown4.frozenAt (cur.length * 4); have y1 := hown4.frozenAt (cur.length * 4 + 1); have y2 := hown4.frozenAt (cur.length * 4 + 2); have y3 := hown4.frozenAt (cur.length * 4 + 3); have hne1' : ¬ ge = gk := (fun e => own_ne hown4 ok4 (by decide) rfl (by rw [e]; rfl)); have hne2' : ¬ gk = ge := (fun e => hne1' e.symm); have HOW4 := Lib.hid hown4; have HG4 := Lib.hid hg4; have HAT4 := Lib.hid hat4; have HOK4 := Lib.hid ok4; clear hown4 hg4 hat4 ok4 cl))
              all_goals
                have G4 : (W3.alloc (.cells #[.int .i64 0, .slice none 0 0, .int .i64 0, .slice none 0 0] 61)).grownBy w4 (Value.slice Av cur.length cv).ownBlock := ⟨HG4.out.os, HG4.out.tape, HG4.out.output, HG4.out.size, HG4.out.block⟩
                have EA := fun (wx : World) hx => Rp.add_both (wx := wx) (op := op) (m := m) hbw hbW G4 HAT4.out rfl rfl HOW4.out HOK4.out hne1' OH.out OK.out FR.out OC.out RC.out XC.out hB0 hbs HK3.out hkc3 HLW.out (Nat.le_refl _) HNI.out hx
                have EAH := Lib.hid EA
                clear EA
                go_wp2_with (fail)
                go_meet
                refine EAH.out _ ?_
                first | (refine Or.inl ?_; with_reducible rfl) | (refine Or.inr ?_; with_reducible rfl)
            case rest =>
              obtain ⟨hrp2, hbw2⟩ := hcut
              have HRP2 := Lib.hid hrp2
              clear hrp2
              go_wp2_with (fail)
              go_roundw
              case rel =>
                exact ⟨_, _, k + 1, fs, cur ++ [⟨op, xs, m, []⟩], rfl, rfl, by go_num, by omega, HRP2.out, hbw2, R.out, hf4, by simp; omega, fun f hf => by have := HFO.out f hf; omega⟩
              case measure => simp [intOf]; omega
            -- ]r31
          | true =>
            have hyop : op = 9 ∨ op = 10 := opens_iff.1 hop
            rw [if_pos hyop] at HR2
            clear hop
            by_cases hd : 4 ≤ fs.length
            · have hdI : (4 : Int) ≤ (fs.length : Int) := by omega
              rw [if_pos hd] at HR2
              have R := Lib.hid HR2.symm
              clear HR2 hd
              rcases hyop with rfl | rfl
              all_goals
                -- [deep
                go_wp2_with (first | (go_at_call 123; (with_reducible refine (SW.out _).mono ?_); rintro e w2 ⟨⟨g2, c2, rfl, hg2, hc2, hs2⟩, hb2⟩; have ST2 := Lib.hid (ST.out g2 c2 w2 hs2 hll HPL.out hc2); clear ST) | (go_at_call 124; (with_reducible refine (ST2.out).mono ?_); rintro e w3 ⟨⟨A3, k3, c3, rfl, hk3, hkc3, hl3⟩, hb3⟩; have HK3 := Lib.hid hk3; have HL3 := Lib.hid hl3; clear hk3 hl3; have hw3 : Below wr.heap.size wr w3 := hb2.trans (hb3.mono hb2.size); have hsz3 := hw3.size))
                go_ret2
                exact RpSays.err (k := 22) R.out ((hb0.trans (hw3.mono hb0.size)).alloc (by have := hb0.size; omega) _)
                -- ]deep
            · have hdI : ¬ (4 : Int) ≤ (fs.length : Int) := by omega
              rw [if_neg hd] at HR2
              rcases hyop with rfl | rfl
              · skip
                -- [p9
                have R : Hid (mach (⟨9, xs, m, cur⟩ :: fs) [] ((L.map tl).drop (k + 1)) = mach [] [] (L.map tl)) := Lib.hid HR2
                clear HR2
                go_wp2_with (first | (go_at_call 123; (with_reducible refine (SW.out _).mono ?_); rintro e w2 ⟨⟨g2, c2, rfl, hg2, hc2, hs2⟩, hb2⟩; have ST2 := Lib.hid (ST.out g2 c2 w2 hs2 hll HPL.out hc2); clear ST) | (go_at_call 124; (with_reducible refine (ST2.out).mono ?_); rintro e w3 ⟨⟨A3, k3, c3, rfl, hk3, hkc3, hl3⟩, hb3⟩; have HK3 := Lib.hid hk3; have HL3 := Lib.hid hl3; clear hk3 hl3; have hw3 : Below wr.heap.size wr w3 := hb2.trans (hb3.mono hb2.size); have hsz3 := hw3.size) | (at_builtin; refine wpList_append_any _ rfl (.tmp 124) (.tmp 126) _ rfl w1.heap.size 61 i0 _ 4 64 Tryz.underlying22 hi hz0 hz1 hz2 rfl (by omega) (.slice Ah fs.length ch) fs.length hc rfl (own_keep OH.out (fun b hb _ => ((hw3.alloc hsz3 (.cells #[.int .i64 9, .slice A3 k3 c3, .int .i64 m, .slice none 0 0] 61)).alloc (by simp; omega) (.cells #[.int .i64 9, .slice A3 k3 c3, .int .i64 m, .slice none 0 0] 61)).block b hb)) _ (some ⟨w3.heap.size + 1, 0, none⟩) 1 1 [.int .i64 9, .slice A3 k3 c3, .int .i64 m, .slice none 0 0] rfl (reads4 (heap_alloc2_new w3 (.cells #[.int .i64 9, .slice A3 k3 c3, .int .i64 m, .slice none 0 0] 61) (.cells #[.int .i64 9, .slice A3 k3 c3, .int .i64 m, .slice none 0 0] 61))) mem4 (by simp only [maxLen]; omega) (by omega) (by have := hbw.size; simp; omega) ?_; intro hv2 w4 hown4 hg4 hat4; have hsz4 := hg4.size; have HKB : ∀ g, (Value.slice (some ⟨gk, 0, none⟩) (fs.length + 1) ck).ownBlock = some g → w4.heap[g]? = wr.heap[g]? := fun g hg => (hg4.block g (by have := (own_block OK.out hg).2; simp; omega) (fun e => own_ne OK.out OH.out (by decide) hg e.symm)).trans (((hw3.alloc hsz3 (.cells #[.int .i64 9, .slice A3 k3 c3, .int .i64 m, .slice none 0 0] 61)).alloc (by simp; omega) (.cells #[.int .i64 9, .slice A3 k3 c3, .int .i64 m, .slice none 0 0] 61)).block g (own_block OK.out hg).2); have ok4 := own_keepB OK.out HKB; have HOK4 := Lib.hid ok4; have HHKB := Lib.hid HKB; clear ok4 HKB) | (at_builtin; refine wpList_append_any _ rfl (.tmp 128) (.tmp 129) _ rfl w1.heap.size 22 i1 _ 1 24 Tryz.underlying174 hj hy0 hy1 hy2 rfl (by omega) (.slice (some ⟨gk, 0, none⟩) (fs.length + 1) ck) (fs.length + 1) (vs ++ [v]) rfl (HOK4.out.alloc _) _ (some ⟨w4.heap.size, 0, none⟩) 1 1 [.slice none 0 0] rfl (reads_one (heap_alloc_new w4 _)) (mem1 rfl) (by simp only [maxLen]; omega) (by omega) (by have := hbw.size; simp at hsz4 ⊢; omega) ?_; intro kv2 w5 hown5 hg5 hat5))
                have hszA : w3.heap.size ≤ w4.heap.size := by simp at hsz4; omega
                have hszB : w4.heap.size ≤ w5.heap.size := by have := hg5.size; simp at this; omega
                have bl4 : ∀ x, x < w3.heap.size → some x ≠ (Value.slice Ah fs.length ch).ownBlock → w4.heap[x]? = w3.heap[x]? := fun x hx hn => (hg4.block x (by simp; omega) hn).trans ((Below.heap_alloc _ _ _ (by simp; omega)).trans (Below.heap_alloc _ _ _ hx))
                have bl5 : ∀ x, x < w4.heap.size → some x ≠ (Value.slice (some ⟨gk, 0, none⟩) (fs.length + 1) ck).ownBlock → w5.heap[x]? = w4.heap[x]? := fun x hx hn => (hg5.block x (by simp; omega) hn).trans (Below.heap_alloc _ _ _ hx)
                have RP : Rp w1.heap.size w5 kv2 hv2 (⟨9, xs, m, cur⟩ :: fs) [] := by
                  refine Rp.push (g2 := g2) hw3 (Nat.le_trans hszA hszB) (fun x hx hn => (bl5 x (by omega) (fun e => hn (.inr e))).trans (bl4 x hx (fun e => hn (.inl e)))) (fun x hx => ?_) (fun x hx => ?_) hown5 (own_keepB hown4 fun g hg => bl5 g (own_block hown4 hg).2 (fun e => own_ne hown4 HOK4.out (by decide) hg e.symm)) FR.out SL.out hB0 hbs HK3.out hkc3 (HL3.out.mono (by omega) fun x hx _ => ⟨hx, rfl⟩) hg2
                  · rcases hx with hx | hx
                    · rcases hat4 with e | e
                      · rw [e] at hx; exact .inl (.inl hx)
                      · rw [e] at hx; injection hx with hx; simp at hx; exact .inr (by omega)
                    · rcases hat5 with e | e
                      · rw [e] at hx; exact .inl (.inr hx)
                      · rw [e] at hx; injection hx with hx; simp at hx; exact .inr (by omega)
                  · rcases hx with hx | hx
                    · exact (own_block OH.out hx.symm).2
                    · exact (own_block OK.out hx.symm).2
                go_roundw
                case rel =>
                  refine ⟨kv2, hv2, k + 1, ⟨9, xs, m, cur⟩ :: fs, [], rfl, rfl, by go_num, by omega, RP, ?_, R.out, by simp; omega, by simp, fun f hf => ?_⟩
                  · have h1 : Below w1.heap.size w1 w3 := hbw.trans (hw3.mono hbw.size)
                    have h2 := ((h1.alloc h1.size (.cells #[.int .i64 9, .slice A3 k3 c3, .int .i64 m, .slice none 0 0] 61)).alloc (by simp; have := h1.size; omega) (.cells #[.int .i64 9, .slice A3 k3 c3, .int .i64 m, .slice none 0 0] 61)).grown hg4 (by simp; have := h1.size; omega) (fun g hg => (own_block OH.out hg).1)
                    exact (h2.alloc h2.size _).grown hg5 (by simp; have := h2.size; omega) (fun g hg => (own_block OK.out hg).1)
                  · rcases List.mem_cons.1 hf with rfl | hf
                    · show cur.length ≤ k + 1; omega
                    · have := HFO.out f hf; omega
                case measure => simp [intOf]; omega
                -- ]p9
              · skip
                -- [p10
                have R : Hid (mach (⟨10, xs, m, cur⟩ :: fs) [] ((L.map tl).drop (k + 1)) = mach [] [] (L.map tl)) := Lib.hid HR2
                clear HR2
                go_wp2_with (first | (go_at_call 123; (with_reducible refine (SW.out _).mono ?_); rintro e w2 ⟨⟨g2, c2, rfl, hg2, hc2, hs2⟩, hb2⟩; have ST2 := Lib.hid (ST.out g2 c2 w2 hs2 hll HPL.out hc2); clear ST) | (go_at_call 124; (with_reducible refine (ST2.out).mono ?_); rintro e w3 ⟨⟨A3, k3, c3, rfl, hk3, hkc3, hl3⟩, hb3⟩; have HK3 := Lib.hid hk3; have HL3 := Lib.hid hl3; clear hk3 hl3; have hw3 : Below wr.heap.size wr w3 := hb2.trans (hb3.mono hb2.size); have hsz3 := hw3.size) | (at_builtin; refine wpList_append_any _ rfl (.tmp 124) (.tmp 126) _ rfl w1.heap.size 61 i0 _ 4 64 Tryz.underlying22 hi hz0 hz1 hz2 rfl (by omega) (.slice Ah fs.length ch) fs.length hc rfl (own_keep OH.out (fun b hb _ => ((hw3.alloc hsz3 (.cells #[.int .i64 10, .slice A3 k3 c3, .int .i64 m, .slice none 0 0] 61)).alloc (by simp; omega) (.cells #[.int .i64 10, .slice A3 k3 c3, .int .i64 m, .slice none 0 0] 61)).block b hb)) _ (some ⟨w3.heap.size + 1, 0, none⟩) 1 1 [.int .i64 10, .slice A3 k3 c3, .int .i64 m, .slice none 0 0] rfl (reads4 (heap_alloc2_new w3 (.cells #[.int .i64 10, .slice A3 k3 c3, .int .i64 m, .slice none 0 0] 61) (.cells #[.int .i64 10, .slice A3 k3 c3, .int .i64 m, .slice none 0 0] 61))) mem4 (by simp only [maxLen]; omega) (by omega) (by have := hbw.size; simp; omega) ?_; intro hv2 w4 hown4 hg4 hat4; have hsz4 := hg4.size; have HKB : ∀ g, (Value.slice (some ⟨gk, 0, none⟩) (fs.length + 1) ck).ownBlock = some g → w4.heap[g]? = wr.heap[g]? := fun g hg => (hg4.block g (by have := (own_block OK.out hg).2; simp; omega) (fun e => own_ne OK.out OH.out (by decide) hg e.symm)).trans (((hw3.alloc hsz3 (.cells #[.int .i64 10, .slice A3 k3 c3, .int .i64 m, .slice none 0 0] 61)).alloc (by simp; omega) (.cells #[.int .i64 10, .slice A3 k3 c3, .int .i64 m, .slice none 0 0] 61)).block g (own_block OK.out hg).2); have ok4 := own_keepB OK.out HKB; have HOK4 := Lib.hid ok4; have HHKB := Lib.hid HKB; clear ok4 HKB) | (at_builtin; refine wpList_append_any _ rfl (.tmp 128) (.tmp 129) _ rfl w1.heap.size 22 i1 _ 1 24 Tryz.underlying174 hj hy0 hy1 hy2 rfl (by omega) (.slice (some ⟨gk, 0, none⟩) (fs.length + 1) ck) (fs.length + 1) (vs ++ [v]) rfl (HOK4.out.alloc _) _ (some ⟨w4.heap.size, 0, none⟩) 1 1 [.slice none 0 0] rfl (reads_one (heap_alloc_new w4 _)) (mem1 rfl) (by simp only [maxLen]; omega) (by omega) (by have := hbw.size; simp at hsz4 ⊢; omega) ?_; intro kv2 w5 hown5 hg5 hat5))
                have hszA : w3.heap.size ≤ w4.heap.size := by simp at hsz4; omega
                have hszB : w4.heap.size ≤ w5.heap.size := by have := hg5.size; simp at this; omega
                have bl4 : ∀ x, x < w3.heap.size → some x ≠ (Value.slice Ah fs.length ch).ownBlock → w4.heap[x]? = w3.heap[x]? := fun x hx hn => (hg4.block x (by simp; omega) hn).trans ((Below.heap_alloc _ _ _ (by simp; omega)).trans (Below.heap_alloc _ _ _ hx))
                have bl5 : ∀ x, x < w4.heap.size → some x ≠ (Value.slice (some ⟨gk, 0, none⟩) (fs.length + 1) ck).ownBlock → w5.heap[x]? = w4.heap[x]? := fun x hx hn => (hg5.block x (by simp; omega) hn).trans (Below.heap_alloc _ _ _ hx)
                have RP : Rp w1.heap.size w5 kv2 hv2 (⟨10, xs, m, cur⟩ :: fs) [] := by
                  refine Rp.push (g2 := g2) hw3 (Nat.le_trans hszA hszB) (fun x hx hn => (bl5 x (by omega) (fun e => hn (.inr e))).trans (bl4 x hx (fun e => hn (.inl e)))) (fun x hx => ?_) (fun x hx => ?_) hown5 (own_keepB hown4 fun g hg => bl5 g (own_block hown4 hg).2 (fun e => own_ne hown4 HOK4.out (by decide) hg e.symm)) FR.out SL.out hB0 hbs HK3.out hkc3 (HL3.out.mono (by omega) fun x hx _ => ⟨hx, rfl⟩) hg2
                  · rcases hx with hx | hx
                    · rcases hat4 with e | e
                      · rw [e] at hx; exact .inl (.inl hx)
                      · rw [e] at hx; injection hx with hx; simp at hx; exact .inr (by omega)
                    · rcases hat5 with e | e
                      · rw [e] at hx; exact .inl (.inr hx)
                      · rw [e] at hx; injection hx with hx; simp at hx; exact .inr (by omega)
                  · rcases hx with hx | hx
                    · exact (own_block OH.out hx.symm).2
                    · exact (own_block OK.out hx.symm).2
                go_roundw
                case rel =>
                  refine ⟨kv2, hv2, k + 1, ⟨10, xs, m, cur⟩ :: fs, [], rfl, rfl, by go_num, by omega, RP, ?_, R.out, by simp; omega, by simp, fun f hf => ?_⟩
                  · have h1 : Below w1.heap.size w1 w3 := hbw.trans (hw3.mono hbw.size)
                    have h2 := ((h1.alloc h1.size (.cells #[.int .i64 10, .slice A3 k3 c3, .int .i64 m, .slice none 0 0] 61)).alloc (by simp; have := h1.size; omega) (.cells #[.int .i64 10, .slice A3 k3 c3, .int .i64 m, .slice none 0 0] 61)).grown hg4 (by simp; have := h1.size; omega) (fun g hg => (own_block OH.out hg).1)
                    exact (h2.alloc h2.size _).grown hg5 (by simp; have := h2.size; omega) (fun g hg => (own_block OK.out hg).1)
                  · rcases List.mem_cons.1 hf with rfl | hf
                    · show cur.length ≤ k + 1; omega
                    · have := HFO.out f hf; omega
                case measure => simp [intOf]; omega
                -- ]p10
    · obtain rfl : k = L.length := by omega
      have hnil : (L.map tl).drop L.length = [] := List.drop_eq_nil_of_le (by simp)
      have HM2 := HM.out
      rw [hnil, mach_nil] at HM2
      rcases fs with _ | ⟨f, fs⟩
      · skip
        -- [fin
        obtain ⟨hvl, hvl2⟩ := FR.out.len
        have hvs : vs = [] := List.eq_nil_of_length_eq_zero (by simpa using hvl2)
        subst hvs
        have R := Lib.hid HM2.symm
        have q0 : wr.cell? ⟨gk, 0, none⟩ = some v := OK.out.cells (g := gk) rfl 0 v rfl
        obtain ⟨Av, kv1, cv, rfl, hkv, hss⟩ := SL.out.steps
        have SS := Lib.hid hss
        clear HM2 hnil hss
        go_wp2_with (fail)
        go_ret2
        exact ⟨⟨Av, kv1, cv, cur, 0, rfl, by rw [R.out]; exact ⟨rfl, rfl⟩, hkv, SS.out.mono fun x _ _ => ⟨trivial, rfl⟩⟩, hb0⟩
        -- ]fin
      · have R := Lib.hid HM2.symm
        have hpos : (0 : Int) < (((f :: fs).length : Nat) : Int) := by simp
        generalize hfl : (f :: fs).length = d at *
        clear HM2 hnil hfl
        go_wp2_with (fail)
        go_ret2
        exact RpSays.err (k := 21) R.out hb0
end Go.Proofs.YtdidnlkilleljaaGreatDoor.Lg
