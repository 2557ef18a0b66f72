/- Joined by mkmerged.py: MnFresh. -/
import Derived.Test.YtdidnlkilleljaaGreatDoorMf33
import Derived.Deep.Cut
import Derived.Deep.RegionHeld3
/- MnFresh, what a claim needs of it (prune.py). -/
namespace Go.Proofs.YtdidnlkilleljaaGreatDoor.Mn
open Go.RowKit
open Lg (BelowX Lies strV StepsAt)
open Fs (fc fc_len fc_cell Fls B)
open Bx (RightF Out GoodO outcome)
open Gr (Fits isT find)
set_option linter.unusedVariables false
set_option maxRecDepth 100000
set_option maxHeartbeats 16000000 in
theorem fresh_any {w0 : World} {a : Adr} {l : List Tg} {snap : List Fl} {T F : Option Addr} {c d : Nat} (hC : Cx w0 a l snap T F c d) {n : Nat} (hV : ValueOk w0 a l snap n) : FreshOk w0 a l snap n := by
  intro bks dep o t s k W Ad As cd cs ht hsd hss hM hk hch
  have htm := (Gr.find_some ht).1
  have hfit := hC.fit t htm
  obtain ⟨hp0, hdl, hsl⟩ := alone_zero (hC.good.alone t htm)
  have hll := hC.good.few
  have hVF := Lib.hid (value_fine hC.good hC.f1 hC.f2 (Fs.get snap) (l.length + 1) n o)
  have VO := Lib.hid hV
  have CH := Lib.hid hch
  have DN : Hid (∀ x ∈ t.ds, isT l x = true) := Lib.hid fun x hx => by
    have := hC.good.deps t htm x hx
    rw [← Bool.not_eq_false]
    intro hn
    exact Gr.isT_map.1 hn this
  have TN : Hid (isN l t.n) := Lib.hid (isT_of (by rw [(Gr.find_some ht).2, ht]; simp))
  obtain ⟨W1, eW⟩ : ∃ W1, W1 = ((W.alloc (.cells #[.string t.n, .string t.c, .slice Ad t.ds.length cd, .slice As t.ss.length cs] 47)).alloc (.cells #[.int .i64 0, .string ⟨#[]⟩, .string ⟨#[]⟩, .slice none 0 0] 37)).alloc (.cells #[.string t.n, .string t.c, .slice Ad t.ds.length cd, .slice As t.ss.length cs, .slice none 0 0] 81) := ⟨_, rfl⟩
  have F1 : Frs w0 a [] bks l dep o W t (.slice Ad t.ds.length cd) (.slice As t.ss.length cs) [] k none 0 W1 := by rw [eW]; exact frs_start hM hk t _ _
  have hz0 := F1.mn.bw.size
  have hlo := F1.mn.lo
  have hhi := F1.hi
  have hmhi := F1.mn.hi
  have EV := Lib.hid (fun V (hV : BelowX W1.heap.size (W.heap.size + 2) W1 V) => (⟨(F1.env hC.env hV).1, (F1.env hC.env hV).2.1⟩ : Fs.Env V))
  have SRC := Lib.hid (sources_any W1 (W.heap.size + 2) t (.slice Ad t.ds.length cd) As cs none 0 [] F snap d F1.inn1 EV.out right_nil
    ((Lies.of_reads hss).mono (by decide) fun g hg _ => ⟨by omega, F1.mn.bw.block g hg⟩) ((Lies.of_reads hC.sn).mono (by decide) fun g hg _ => ⟨by omega, F1.mn.bw.block g hg⟩) hC.sl (by omega))
  have cbsn := F1.mn.cbsn
  rw [hC.sv] at cbsn
  have SRCF := Lib.hid (fun r h => src_fine (isT := isN l) (get := Fs.get snap) (nm := t.n) TN.out (ps := t.ss) (fs := []) (r := r) h)
  have SRCR := Lib.hid (fun f h => src_right (get := Fs.get snap) (nm := t.n) (ps := t.ss) (fs' := f) right_nil h)
  have HF1 := Lib.hid F1
  have HC := Lib.hid hC
  clear F1 hM hC hV
  unfold SrcSays at SRC
  cases hsrc : srcF (Fs.get snap) t.n t.ss [] with
  | inl r =>
    rw [hsrc] at SRC
    simp only at SRC
    have E := Lib.hid (fresh_src (fi := find l) (run := runF a.fuel) (rec := VAL l snap a.fuel n o) (m := l.length + 1) (k := k) hsrc)
    rw [E.out]
    obtain ⟨hfr, hne⟩ := SRCF.out r hsrc
    have g1 : (r.err != 0) = true := by simpa using hne
    have END : Hid (∀ V, BelowX W1.heap.size (W.heap.size + 2) W1 V → r.files = [] → ValSays w0 a bks (names l) dep W r k o (.returned (.agg #[.int .i64 r.err, .string r.at_, .string r.text, .slice none 0 0])) (((((V.alloc (.cells #[.int .i64 r.err, .string r.at_, .string r.text, .slice none 0 0] 37)).setCell ⟨W.heap.size + 1, 0, none⟩ (.int .i64 r.err)).setCell ⟨W.heap.size + 1, 1, none⟩ (.string r.at_)).setCell ⟨W.heap.size + 1, 2, none⟩ (.string r.text)).setCell ⟨W.heap.size + 1, 3, none⟩ (.slice none 0 0))) := Lib.hid fun V hV h0 => by
      have hX := HF1.out
      have e0 : r.files.length = 0 := by rw [h0]; rfl
      have := val_end (r := r) (A := none) (c := 0) ((hX.mn.x hV).below ((Below.refl _ _).alloc (Nat.le_refl _) (.cells #[.int .i64 r.err, .string r.at_, .string r.text, .slice none 0 0] 37))).less ((hX.kp.x hV (by omega)).then ((Below.refl _ _).alloc (Nat.le_refl _) _)) (Nat.le_succ _) (by rw [h0]; exact Lies.none_) (by rw [h0]; exact Nat.le_refl _)
      rw [e0] at this
      exact this
    have TW : Hid (∀ V, BelowX W1.heap.size (W.heap.size + 2) W1 V → V.heap[W.heap.size + 1]? = some (.cells #[.int .i64 0, .string ⟨#[]⟩, .string ⟨#[]⟩, .slice none 0 0] 37 (0, 0))) := Lib.hid fun V hV => (hV.block _ (lt_heap HF1.out.two.2) (by omega)).trans HF1.out.two.2
    have cb1 := HF1.out.mn.cbsn
    rw [HC.out.sv] at cb1
    rw [eW] at cb1
    clear E hsrc hfr hne hk hch SRCF SRCR cbsn
    generalize ValSays w0 a bks (names l) dep W r k o = Q at *
    go_enter Tryz.func41, Tryz.ntmps41
    go_wp2_with (go_at_call 42; rw [← eW]; (with_reducible refine (SRC.out).mono ?_); rintro e w2 ⟨hx2, he, hf2⟩; have he' : e = .returned (.agg #[.int .i64 r.err, .string r.at_, .string r.text, .slice none 0 0]) := (by rw [he]; unfold rsv; rw [hf2]; rfl); subst he'; have HF2 := Lib.hid hf2; clear hf2 he; have q2 := heap_alloc_lt (o' := .cells #[.int .i64 r.err, .string r.at_, .string r.text, .slice none 0 0] 37) (TW.out _ hx2); obtain ⟨⟨u0, x0⟩, ⟨u1, x1⟩, ⟨u2, x2⟩, ⟨u3, x3⟩, y0, y1, y2, y3⟩ := four q2)
    refine bodyPost_ret (results_cell rfl _ _ _ ⟨W.heap.size + 1, 0, none⟩ _ _ rfl (load_res (set4 q2 _ _ _ _) rfl)) rfl ?_
    exact END.out _ hx2 HF2.out
  | inr f0 =>
    rw [hsrc] at SRC
    simp only at SRC
    have R0 := SRCR.out f0 hsrc
    obtain ⟨rec, hrec⟩ : ∃ rec, rec = VAL l snap a.fuel n o := ⟨_, rfl⟩
    have RF : Hid (RecFine (isN l) rec) := Lib.hid (by rw [hrec]; exact hVF.out)
    have VA : Hid (∀ (bks : List Nat) kk s V, MnAt w0 a ((W.heap.size + 2) :: (W.heap.size + 1) :: bks) (names l) dep kk o V → FineK (isN l) kk → isT l s = true → Calls Tryz.prog 46 #[.string s, .pointer (some ⟨a.bo, 0, none⟩), .pointer (some ⟨a.bk, 0, none⟩), .pointer (some ⟨a.bt, 0, none⟩), .pointer (some ⟨a.bfr, 0, none⟩)] V (ValSays w0 a ((W.heap.size + 2) :: (W.heap.size + 1) :: bks) (names l) dep V (rec kk s).1 (rec kk s).2 o)) := Lib.hid fun bks kk s V h1 h2 h3 => by
      rw [hrec]
      exact VO.out _ dep o s kk V h1 h2 h3 CH.out
    have E1 := Lib.hid (fun r' k' h2 => fresh_deps (fi := find l) (run := runF a.fuel) (rec := rec) (m := l.length + 1) (k := k) (r := r') (k' := k') hsrc h2)
    have E2 := Lib.hid (fun f1 k' h2 => fresh_needs (fi := find l) (run := runF a.fuel) (rec := rec) (m := l.length + 1) (k := k) (f1 := f1) (k' := k') hsrc h2)
    rw [← hrec]
    have cb1 := HF1.out.mn.cbsn
    rw [HC.out.sv] at cb1
    rw [eW] at cb1
    have FX : Hid (∀ V A0 c0, BelowX W1.heap.size (W.heap.size + 2) W1 V → InAt V (fun g => g ≠ W.heap.size + 2) (W.heap.size + 2) t (.slice Ad t.ds.length cd) (.slice As t.ss.length cs) A0 c0 f0 → Frs w0 a [] bks l dep o W t (.slice Ad t.ds.length cd) (.slice As t.ss.length cs) f0 k A0 c0 V) := Lib.hid fun V A0 c0 h1 h2 => HF1.out.x h1 R0 (inn_nil h2)
    have DS : Hid (∀ V, Below w0.heap.size w0 V → Reads V V.heap.size 1 Ad t.ds.length (t.ds.map Value.string)) := Lib.hid fun V h => hsd.below h
    have ENV : Hid (∀ (xo : List Nat) (fs : List Fl) kk A ca V V', Frs w0 a xo bks l dep o W t (.slice Ad t.ds.length cd) (.slice As t.ss.length cs) fs kk A ca V → BelowX V.heap.size (W.heap.size + 2) V V' → Fs.Env V') := Lib.hid fun xo fs kk A ca V V' h1 h2 => ⟨(h1.env HC.out.env h2).1, (h1.env HC.out.env h2).2.1⟩
    have FITD : Hid (∀ x ∈ t.ds, x.size ≤ 100000) := Lib.hid fun x hx => by
      obtain ⟨t2, ht2, rfl⟩ := Gr.isT_iff.1 (DN.out x hx)
      have hn := HC.out.good.name t2 ht2
      have h16 : (tl t2.n).length ≤ 16 := by
        unfold Gr.nameF Lg.nameE at hn
        split at hn
        · rename_i h; simp only [Lg.nameOk, Bool.and_eq_true, decide_eq_true_eq] at h; exact h.1.2
        · exact absurd hn (by decide)
      have := Fs.tl_len t2.n
      omega
    have GD : Hid (GoodG l) := Lib.hid HC.out.good
    clear hk hch SRCF SRCR cbsn hrec hVF VO CH R0 hsrc hsd hss
    go_enter Tryz.func41, Tryz.ntmps41
    go_wp2_with (go_at_call 42; rw [← eW]; (with_reducible refine (SRC.out).mono ?_); rintro e w2 ⟨hx2, he, A0, c0, hin0⟩; have he' : e = .returned (.agg #[.int .i64 0, .string ⟨#[]⟩, .string ⟨#[]⟩, .slice none 0 0]) := he; subst he'; have F2 := Lib.hid ((FX.out w2 A0 c0 hx2 hin0).below ((Below.refl _ _).alloc (Nat.le_refl _) (.cells #[.int .i64 0, .string ⟨#[]⟩, .string ⟨#[]⟩, .slice none 0 0] 37))); obtain ⟨tc0, tc1, tc2⟩ := F2.out.tcells; clear he hin0 hx2)
    obtain ⟨W3, eW3⟩ : ∃ W3, W3 = w2.alloc (.cells #[.int .i64 0, .string ⟨#[]⟩, .string ⟨#[]⟩, .slice none 0 0] 37) := ⟨_, rfl⟩
    rw [← eW3] at F2 ⊢
    clear eW3 tc0 tc1 tc2 SRC FX cb1
    go_loopw [32] (fun i V => ∃ (j : Nat) (fs : List Fl) (kk : Kn) (A : Option Addr) (ca : Nat), i = .int .i64 j ∧ j ≤ t.ds.length ∧ depsF rec t.n t.ds f0 k = depsF rec t.n (t.ds.drop j) fs kk ∧ Frs w0 a [] bks l dep o W t (.slice Ad t.ds.length cd) (.slice As t.ss.length cs) fs kk A ca V) (fun i _ => t.ds.length - (intOf i).toNat)
    case atStart => exact ⟨0, f0, k, A0, c0, rfl, by omega, rfl, F2.out⟩
    case round =>
      obtain ⟨j, fs, kk, A, ca, rfl, hj, hdp, hfr⟩ := hrel
      have FR := Lib.hid hfr
      have DP := Lib.hid hdp
      clear hfr hdp F2
      by_cases hlt : j < t.ds.length
      · have hkI : (j : Int) < (t.ds.length : Int) := by omega
        obtain ⟨ad, u, rfl, had, hue, c1⟩ := (DS.out _ FR.out.mn.bw).at_ hlt
        have hue2 : u = .string t.ds[j] := by
          rw [List.getElem?_map, List.getElem?_eq_getElem hlt] at hue
          exact (Option.some.inj hue).symm
        subst hue2
        clear hue
        have hmem := List.getElem_mem hlt
        have cv := FR.out.mn.cbv
        have VC := Lib.hid (VA.out bks kk t.ds[j] wr FR.out.mn FR.out.fk (DN.out _ hmem))
        have hdz := FITD.out _ hmem
        have hrf := RF.out kk t.ds[j] (DN.out _ hmem) FR.out.fk
        have ST := Lib.hid (fun r' h => DP.out.trans (deps_stop (rec := rec) (kk := kk) (fs := fs) (nm := t.n) (r := r') hlt h))
        have NX := Lib.hid (fun fs' h => DP.out.trans (deps_next (rec := rec) (kk := kk) (fs := fs) (nm := t.n) (fs' := fs') hlt h))
        clear hmem
        generalize t.ds[j] = x at *
        generalize rec kk x = rk at *
        obtain ⟨r4, k4⟩ := rk
        simp only at VC ST NX hrf
        obtain ⟨hr4, hk4⟩ := hrf
        have R4 := Lib.hid hr4.right
        have FK4 := Lib.hid hk4
        have FR4 := Lib.hid hr4
        clear hr4 hk4
        cases hadd : addF t.n fs depW x r4 with
        | inl r' =>
          have E := Lib.hid (E1.out _ _ (ST.out r' hadd))
          obtain ⟨_, hne⟩ := add_fine TN.out FR4.out hadd
          have g1 : (r'.err != 0) = true := by simpa using hne
          have hadd' : addF t.n fs (tl ⟨#[100, 101, 112]⟩) x r4 = .inl r' := hadd
          clear hne NX hadd
          rw [E.out]
          generalize hQ : ValSays w0 a bks (names l) dep W (r', k4).fst (r', k4).snd o = Q
          have END : Hid (∀ V A c, MnAt w0 a ((W.heap.size + 2) :: (W.heap.size + 1) :: bks) (names l) dep k4 o V → KeepM a.km a.om W V → Lies V (fun g => g ∉ (W.heap.size + 1) :: bks) 2 A r'.files.length (fc r'.files) → r'.files.length ≤ c → Q (.returned (.agg #[.int .i64 r'.err, .string r'.at_, .string r'.text, .slice A r'.files.length c])) ((((V.setCell ⟨W.heap.size + 1, 0, none⟩ (.int .i64 r'.err)).setCell ⟨W.heap.size + 1, 1, none⟩ (.string r'.at_)).setCell ⟨W.heap.size + 1, 2, none⟩ (.string r'.text)).setCell ⟨W.heap.size + 1, 3, none⟩ (.slice A r'.files.length c))) := Lib.hid fun V A c h1 h2 h3 h4 => by
            rw [← hQ]
            exact val_end h1.less h2 (Nat.le_succ _) h3 h4
          clear hQ E ST VA E1 E2 DS FITD
          go_wp2_with (first
            | (go_at_call 46; (with_reducible refine (VC.out).mono ?_); rintro e w4 ⟨A4, c4, rfl, hl4, hc4, M4, K4⟩; have F4 := Lib.hid (FR.out.asked K4 M4 FK4.out); have AD := add_any w4 (W.heap.size + 2) t (.slice (some ad) t.ds.length cd) (.slice As t.ss.length cs) A ca fs ⟨#[100, 101, 112]⟩ x r4 A4 c4 F4.out.inn1 (fun V hV => ENV.out _ _ _ _ _ _ _ F4.out hV) F4.out.rt (hl4.mono (by decide) fun g hg hs => ⟨fun e => hg (by rw [e]; exact List.mem_cons_self ..), rfl⟩) (by have := R4.out.len; omega) (fun f hf => by have := Bx.path_size (R4.out.each f hf).1; omega) (by decide) hdz; rw [hadd'] at AD; have AD := Lib.hid AD; have HL4 := Lib.hid hl4; have HC4 := Lib.hid hc4; clear hl4 hc4 M4 K4)
            | (go_at_call 43; (with_reducible refine (AD.out).mono ?_); rintro e w5 hsays; obtain ⟨hx5, A5, c5, rfl, hl5, hc5⟩ := hsays.bad (ok' := fun g => g ∉ (W.heap.size + 1) :: bks) HL4.out (fun g hg => ⟨fun e => hg (by rw [e]; exact List.mem_cons_self ..), fun hm => hg (List.mem_cons_of_mem _ hm)⟩) HC4.out; have b6 : Below w5.heap.size w5 (w5.alloc (.cells #[.int .i64 r'.err, .string r'.at_, .string r'.text, .slice A5 r'.files.length c5] 37)) := (Below.refl _ _).alloc (Nat.le_refl _) _; have q5 := (hx5.block _ (lt_heap F4.out.two.2) (by omega)).trans F4.out.two.2; have q6 := heap_below b6 (lt_heap q5) q5; obtain ⟨⟨u0, x0⟩, ⟨u1, x1⟩, ⟨u2, x2⟩, ⟨u3, x3⟩, y0, y1, y2, y3⟩ := four q6; have M6 := Lib.hid ((F4.out.mn.x hx5).below b6); have K6 := Lib.hid ((F4.out.kp.x hx5 (by omega)).then b6); have L6 := Lib.hid (hl5.mono (w' := w5.alloc (.cells #[.int .i64 r'.err, .string r'.at_, .string r'.text, .slice A5 r'.files.length c5] 37)) (ok' := fun g => g ∉ (W.heap.size + 1) :: bks) (by decide) fun g hg hs => ⟨hg, b6.block g hs⟩); have C6 := Lib.hid hc5; clear hsays hl5 hc5 hx5 q5 b6))
          refine bodyPost_ret (results_cell rfl _ _ _ ⟨W.heap.size + 1, 0, none⟩ _ _ rfl (load_res (set4 q6 _ _ _ _) rfl)) rfl ?_
          exact END.out _ _ _ M6.out K6.out L6.out C6.out
        | inr fs' =>
          have E := Lib.hid (NX.out fs' hadd)
          have RT' := Lib.hid (add_right FR.out.rt hadd)
          have hadd' : addF t.n fs (tl ⟨#[100, 101, 112]⟩) x r4 = .inr fs' := hadd
          clear ST NX hadd
          go_wp2_with (first
            | (go_at_call 46; (with_reducible refine (VC.out).mono ?_); rintro e w4 ⟨A4, c4, rfl, hl4, hc4, M4, K4⟩; have F4 := Lib.hid (FR.out.asked K4 M4 FK4.out); have AD := add_any w4 (W.heap.size + 2) t (.slice (some ad) t.ds.length cd) (.slice As t.ss.length cs) A ca fs ⟨#[100, 101, 112]⟩ x r4 A4 c4 F4.out.inn1 (fun V hV => ENV.out _ _ _ _ _ _ _ F4.out hV) F4.out.rt (hl4.mono (by decide) fun g hg hs => ⟨fun e => hg (by rw [e]; exact List.mem_cons_self ..), rfl⟩) (by have := R4.out.len; omega) (fun f hf => by have := Bx.path_size (R4.out.each f hf).1; omega) (by decide) hdz; rw [hadd'] at AD; have AD := Lib.hid AD; have HL4 := Lib.hid hl4; have HC4 := Lib.hid hc4; clear hl4 hc4 M4 K4)
            | (go_at_call 43; (with_reducible refine (AD.out).mono ?_); rintro e w5 ⟨hx5, he, A5, c5, hin5⟩; have he' : e = .returned (.agg #[.int .i64 0, .string ⟨#[]⟩, .string ⟨#[]⟩, .slice none 0 0]) := he; subst he'; have F6 := Lib.hid ((F4.out.x hx5 RT'.out (inn_new hin5 (fun g hg => by cases hg))).below ((Below.refl _ _).alloc (Nat.le_refl _) (.cells #[.int .i64 0, .string ⟨#[]⟩, .string ⟨#[]⟩, .slice none 0 0] 37))); clear he hin5 hx5))
          go_roundw
          case rel => exact ⟨j + 1, fs', k4, A5, c5, by go_num, by omega, E.out, F6.out⟩
          case measure => simp [intOf]; omega
      · obtain rfl : j = t.ds.length := by omega
        have hd1 := DP.out
        rw [deps_end] at hd1
        have EF := Lib.hid (E2.out _ _ hd1)
        clear hd1 E1 E2 DP DS FITD
        obtain ⟨tc0, tc1, tc2⟩ := FR.out.tcells
        have PA := Lib.hid (Lg.parse_any t.c wr (HC.out.env.below FR.out.mn.bw) hfit.c)
        have htop := FR.out.mn.hi
        obtain ⟨steps, hsteps⟩ : ∃ steps, steps = (Lg.parse (tl t.c)).1 := ⟨_, rfl⟩
        have HP : Lg.parse (tl t.c) = (steps, 0) := by rw [hsteps]; exact parse_of hp0
        have RUNF : Hid (∀ fs ns, runF a.fuel t fs ns = outcome steps fs ns a.fuel) := Lib.hid fun fs ns => by unfold runF; rw [← hsteps]
        have GO : Hid (∀ fs ns, RightF fs → GoodO (runF a.fuel t fs ns) ns) := Lib.hid fun fs ns h => run_good GD.out HC.out.f1 HC.out.f2 s t ht fs ns h
        have hnum := Lg.parse_num HP
        have hprl : (Lg.print steps).length ≤ 4000000 := by rw [Lg.parse_print HP]; have := Bx.parse_short HP; omega
        have PA : Hid (Calls Tryz.prog 44 #[.string t.c] wr fun e w' => (∃ L mL cL, e = .returned (.tuple #[.slice L mL cL, .int .i64 0]) ∧ StepsAt w' (fun g => wr.heap.size ≤ g) L mL steps) ∧ Below wr.heap.size wr w') := Lib.hid (PA.out.mono (by
          rintro e w' ⟨⟨L, mL, cL, h1, h2, h3⟩, h4⟩
          have HP' : Lg.parse (Lg.tl t.c) = (steps, 0) := HP
          rw [HP'] at h1 h3
          exact ⟨⟨L, mL, cL, h1, h3⟩, h4⟩))
        obtain ⟨C0, hC0⟩ : ∃ C0, C0 = wr.heap.size := ⟨_, rfl⟩
        have hCW := lt_heap FR.out.inn.blk
        rw [← hC0] at hCW
        have RUN : Hid (∀ (xo : List Nat) B0 (V : World) fs' kk' A' ca' (ns : List B) An cn L mL cL, wr.heap.size ≤ B0 → Frs w0 a xo bks l dep o W t (.slice Ad t.ds.length cd) (.slice As t.ss.length cs) fs' kk' A' ca' V → StepsAt V (fun g => C0 ≤ g) L mL steps → V.ownsRow B0 9 1 (.slice An ns.length cn) ns.length (strV ns) → ns.length ≤ 100 → Calls Tryz.prog 10 #[.slice L mL cL, .slice A' fs'.length ca', .slice An ns.length cn, .int .i64 a.fuel] V (Bx.RunOwn (runF a.fuel t fs' ns) V)) := Lib.hid fun xo B0 V fs' kk' A' ca' ns An cn L mL cL hB h1 h2 h3 h4 => by
          rw [RUNF.out]
          have h5 := h1.rt
          exact Bx.run_own steps L mL cL fs' A' ca' ns An ns.length cn a.fuel V _ (HC.out.env.below h1.mn.bw) h2 hnum hprl h1.inn.flsr (by have := h5.len; omega) h1.inn.cap (fun f hf => ⟨by have := Bx.path_size (h5.each f hf).1; unfold maxLen; omega, by have := (h5.each f hf).2; unfold maxLen; omega⟩) ((Reads.of_own h3)) rfl (by omega)
        have hw3 := FR.out.inn.blk
        clear hsteps HP hnum hprl RUNF hw3
        obtain ⟨G, hG⟩ : ∃ G, G = needsF (find l) (runF a.fuel) rec t (l.length + 1) fs [] kk := ⟨_, rfl⟩
        have G0 := Lib.hid hG
        have EG := Lib.hid (EF.out.trans hG.symm)
        clear hG EF
        have LL := Lib.hid hll
        obtain ⟨zs, hi, hz0', hz1', hz2'⟩ := Lg.info_parts (@Lg.infoS)
        go_wp2_with (go_at_call 44; (with_reducible refine (PA.out).mono ?_); rintro e w5 ⟨⟨L, mL, cL, rfl, hst⟩, b5⟩)
        have F5 := Lib.hid (FR.out.below b5)
        rw [← hC0] at hst
        have ST5 : Hid (StepsAt w5 (fun g => C0 ≤ g ∧ g < w5.heap.size) L mL steps) := Lib.hid (hst.mono fun g hg hs => ⟨⟨hg, hs⟩, rfl⟩)
        have hw5 := b5.size
        clear hst b5 PA tc0 tc1 tc2
        go_loopw [14] (fun v V => ∃ (ns : List B) (fs' : List Fl) (kk' : Kn) (A' : Option Addr) (ca' : Nat), G = needsF (find l) (runF a.fuel) rec t (l.length + 1 - ns.length) fs' ns kk' ∧ ns.Nodup ∧ (∀ x ∈ ns, isT l (bs x) = true) ∧ V.ownsRow w5.heap.size 9 1 v ns.length (strV ns) ∧ StepsAt V (fun g => C0 ≤ g ∧ g < w5.heap.size) L mL steps ∧ w5.heap.size ≤ V.heap.size ∧ Frs w0 a (obs v) bks l dep o W t (.slice Ad t.ds.length cd) (.slice As t.ss.length cs) fs' kk' A' ca' V) (fun v _ => l.length + 1 - Gr.sliceLen v)
        case atStart => exact ⟨[], fs, kk, A, ca, G0.out, List.nodup_nil, by simp, World.ownsRow_nil _ _ _ _, ST5.out, Nat.le_refl _, F5.out⟩
        case round =>
          obtain ⟨ns, fs', kk', A', ca', hg, hnd, hnt, hown, hst, hsz5, hfr⟩ := hrel
          have OWN := Lib.hid hown
          have ST := Lib.hid hst
          have FR' := Lib.hid hfr
          have LB := Lib.hid hfr.mn.bsg
          have ND := Lib.hid hnd
          have NT := Lib.hid hnt
          obtain ⟨An, cn, rfl, hcn⟩ := own_len hown
          have hnl := ns_len hnd hnt
          obtain ⟨m', hm'⟩ : ∃ m', l.length + 1 - ns.length = m' + 1 := ⟨l.length - ns.length, by omega⟩
          rw [hm'] at hg
          have RCG : Hid (∀ V, Below wr.heap.size wr V → Calls Tryz.prog 10 #[.slice L mL cL, .slice A' fs'.length ca', .slice An ns.length cn, .int .i64 a.fuel] V (Bx.RunOwn (runF a.fuel t fs' ns) V)) := Lib.hid fun V hV =>
            RUN.out _ w5.heap.size V fs' kk' A' ca' ns An cn L mL cL hw5 (hfr.below hV) (hst.mono fun g hg hs => ⟨hg.1, hV.block g hs⟩) (own_later hown hV) (by omega)
          have GOq := GO.out fs' ns hfr.rt
          have S1 := Lib.hid (fun h => hg.trans (needs_done (fi := find l) (run := runF a.fuel) (rec := rec) (t := t) (fs := fs') (kk := kk') (q := m') (ns := ns) h))
          have S3 := Lib.hid (fun h h2 => hg.trans (needs_fail (fi := find l) (run := runF a.fuel) (rec := rec) (t := t) (fs := fs') (kk := kk') (q := m') (ns := ns) h h2))
          have S2a := Lib.hid (fun h h2 => hg.trans (needs_none (fi := find l) (run := runF a.fuel) (rec := rec) (t := t) (fs := fs') (kk := kk') (q := m') (ns := ns) h h2))
          have S2b := Lib.hid (fun h h2 r h3 => hg.trans (needs_bad (fi := find l) (run := runF a.fuel) (rec := rec) (t := t) (fs := fs') (kk := kk') (q := m') (ns := ns) h h2 (r := r) h3))
          have S2c := Lib.hid (fun h h2 f h3 => hg.trans (needs_next (fi := find l) (run := runF a.fuel) (rec := rec) (t := t) (fs := fs') (kk := kk') (q := m') (ns := ns) h h2 (fs' := f) h3))
          have MQ := Lib.hid hm'
          clear hg hnd hnt hown hst hfr hm'
          generalize runF a.fuel t fs' ns = q at *
          have RC : Hid (∀ V, Below wr.heap.size wr V → Calls Tryz.prog 10 #[.slice L mL cL, .slice A' fs'.length ca', .slice An ns.length cn, .int .i64 a.fuel] V fun e w' => ∃ A6 c6, e = .returned (.agg #[.int .i64 q.kind, .slice A6 q.files.length c6, .string (bs q.need), .int .i64 q.err, .string (bs q.text), .int .i64 q.used]) ∧ Lies w' (fun g => V.heap.size ≤ g) 2 A6 q.files.length (fc q.files) ∧ q.files.length ≤ c6 ∧ Below V.heap.size V w') := Lib.hid fun V hV => RCG.out V hV
          clear RCG
          have KS : Hid (∀ V, Frs w0 a (obs (.slice An ns.length cn)) bks l dep o W t (.slice Ad t.ds.length cd) (.slice As t.ss.length cs) fs' kk' A' ca' V → (fun V : World => V.cell? ⟨W.heap.size + 1 + 1, 4, none⟩ = some (.slice A' fs'.length ca') ∧ V.cell? ⟨a.bf, 0, none⟩ = some (.int .i64 a.fuel)) V) := Lib.hid fun V h => ⟨(cell_heap h.inn.blk 4).trans rfl, h.mn.cbf⟩
          have kS0 := KS.out _ FR'.out
          have kS1 := KS.out _ (FR'.out.below (Below.refl _ _).drew)
          obtain ⟨WZ, eZ⟩ : ∃ WZ, WZ = wr.alloc (.cells #[.int .i64 0, .slice none 0 0, .string ⟨#[]⟩, .int .i64 0, .string ⟨#[]⟩, .int .i64 0] 31) := ⟨_, rfl⟩
          have bZ : Below wr.heap.size wr WZ.drew := by rw [eZ]; exact ((Below.refl _ _).alloc (Nat.le_refl _) _).drew
          have qZ : WZ.heap[wr.heap.size]? = some (.cells #[.int .i64 0, .slice none 0 0, .string ⟨#[]⟩, .int .i64 0, .string ⟨#[]⟩, .int .i64 0] 31 (0, 0)) := by rw [eZ]; exact heap_alloc_new wr _
          have b0 : Below wr.heap.size wr wr.drew := (Below.refl _ _).drew
          have RA := Lib.hid (RC.out _ b0)
          have RB := Lib.hid (RC.out _ bZ)
          have kSZ := KS.out _ (FR'.out.below bZ)
          have hlZ := lt_heap qZ
          rw [eZ] at RB kSZ
          go_upto_region 14 with (fail)
          go_cut [15] from 53 to 107 (fun v15 V => ∃ g15 A6 c6, v15 = .pointer (some ⟨g15, 0, none⟩) ∧ V.heap[g15]? = some (.cells #[.int .i64 q.kind, .slice A6 q.files.length c6, .string (bs q.need), .int .i64 q.err, .string (bs q.text), .int .i64 q.used] 31 (0, 0)) ∧ Lies V (fun g => wr.heap.size ≤ g) 2 A6 q.files.length (fc q.files) ∧ q.files.length ≤ c6 ∧ Below wr.heap.size wr V ∧ wr.heap.size ≤ g15)
          case first =>
            go_region_held3 (fun V : World => V.cell? ⟨W.heap.size + 1 + 1, 4, none⟩ = some (.slice A' fs'.length ca') ∧ V.cell? ⟨a.bf, 0, none⟩ = some (.int .i64 a.fuel)) (first | (with_reducible exact kS0) | (with_reducible exact kS1) | (with_reducible exact kSZ) | (with_reducible exact kS6) | (with_reducible exact kS7) | go_keep) (first
              | (go_at_call 10; (with_reducible refine (RA.out).mono ?_); rintro e w6 ⟨A6, c6, rfl, hl6, hc6, b6⟩; have B6 := Lib.hid (b0.trans (b6.mono b0.size)); have L6 := Lib.hid hl6; have C6 := Lib.hid hc6; have kS6 := KS.out w6 (FR'.out.below B6.out); clear hl6 hc6 b6)
              | (go_at_call 10; (with_reducible refine (RB.out).mono ?_); rintro e w6 ⟨A6, c6, rfl, hl6, hc6, b6⟩; rw [← eZ] at b6; have B6 := Lib.hid (bZ.trans (b6.mono bZ.size)); have q6 := heap_below b6 hlZ qZ; have L6 := Lib.hid hl6; have C6 := Lib.hid hc6; have kS6 := KS.out w6 (FR'.out.below B6.out); obtain ⟨⟨u0, x0⟩, ⟨u1, x1⟩, ⟨u2, x2⟩, ⟨u3, x3⟩, ⟨u4, x4⟩, ⟨u5, x5⟩, y0, y1, y2, y3, y4, y5⟩ := six q6; have kS7 := KS.out _ (FR'.out.below (Bx.set6_below B6.out (Nat.le_refl _) (.int .i64 q.kind) (.slice A6 q.files.length c6) (.string (bs q.need)) (.int .i64 q.err) (.string (bs q.text)) (.int .i64 q.used))); clear hl6 hc6 b6))
            all_goals
              (try go_wp2_with (fail))
              go_meet
            · exact ⟨w6.heap.size, A6, c6, rfl, heap_alloc_new w6 _, L6.out.mono (by decide) fun g hg hs => ⟨hg, Below.heap_alloc _ _ _ hs⟩, C6.out, B6.out.alloc B6.out.size _, B6.out.size⟩
            · exact ⟨wr.heap.size, A6, c6, rfl, Bx.set6 q6 _ _ _ _ _ _, L6.out.mono (by decide) fun g hg hs => ⟨by simp at hg; omega, set6_ne (by simp at hg; omega) _ _ _ _ _ _⟩, C6.out, Bx.set6_below B6.out (Nat.le_refl _) _ _ _ _ _ _, Nat.le_refl _⟩
          case rest =>
            obtain ⟨g15, A6, c6, rfl, q15, hl6, hc6, b6, hg15⟩ := hcut
            have F6 := Lib.hid (FR'.out.below b6)
            have L6 := Lib.hid hl6
            have C6 := Lib.hid hc6
            have B6 := Lib.hid b6
            have O6 := Lib.hid (own_later OWN.out b6)
            have T6 := Lib.hid (ST.out.mono (ok' := _) fun g hg hs => ⟨hg, b6.block g hs⟩)
            have Q15 := Lib.hid q15
            have d0 : wc.cell? ⟨g15, 0, none⟩ = some (.int .i64 q.kind) := (cell_heap q15 0).trans rfl
            have d1 : wc.cell? ⟨g15, 1, none⟩ = some (.slice A6 q.files.length c6) := (cell_heap q15 1).trans rfl
            have d2 : wc.cell? ⟨g15, 2, none⟩ = some (.string (bs q.need)) := (cell_heap q15 2).trans rfl
            have d3 : wc.cell? ⟨g15, 3, none⟩ = some (.int .i64 q.err) := (cell_heap q15 3).trans rfl
            have d4 : wc.cell? ⟨g15, 4, none⟩ = some (.string (bs q.text)) := (cell_heap q15 4).trans rfl
            obtain ⟨⟨u0, x0⟩, ⟨u1, x1⟩, ⟨u2, x2⟩, ⟨u3, x3⟩, y0, y1, y2, y3⟩ := F6.out.four
            clear hl6 hc6 b6 q15 RA RB RC kSZ kS0 kS1 KS qZ bZ eZ hlZ b0
            rcases GOq with ⟨k1, ke, kn, kt, kc⟩ | ⟨k2, kl, ke, kn, kf, ku⟩ | ⟨k3, ke, kn, kf, ku⟩
            · have E := Lib.hid (S1.out k1)
              have dk : (q.kind == 1) = true := by simpa using k1
              clear S1 S3 S2a S2b S2c k1 ke kn kt kc
              have END := Lib.hid (says_at (EG.out.trans E.out) (F6.out.end_ (r := done q.files) (A' := A6) (c' := c6) (L6.out.mono (by decide) fun g hg hs => ⟨fun hm => by have h1 := (LB.out g (List.mem_cons_of_mem _ hm)).2; omega, rfl⟩) C6.out))
              clear E
              go_wp2_with (fail)
              refine bodyPost_ret (results_cell rfl _ _ _ ⟨W.heap.size + 1, 0, none⟩ _ _ rfl (load_res (set4 F6.out.two.2 _ _ _ _) rfl)) rfl ?_
              exact END.out
            · have dk1 : (q.kind == 1) = false := by rw [k2]; rfl
              have dk2 : (q.kind == 2) = true := by rw [k2]; rfl
              have cbt6 := F6.out.mn.cbt
              rw [HC.out.tv] at cbt6
              have FD0 := Lib.hid (Gr.find_any T l c (bs q.need) w0 wc HC.out.tg F6.out.mn.bw (by have := LL.out; omega))
              have hq16 : (bs q.need).size ≤ 100000 := by
                have h16 : q.need.length ≤ 16 := by
                  unfold Lg.nameE at kn
                  split at kn
                  · rename_i h; simp only [Lg.nameOk, Bool.and_eq_true, decide_eq_true_eq] at h; exact h.1.2
                  · exact absurd kn (by decide)
                have h1 : q.need.length = (bs q.need).size := Fs.tl_len (bs q.need)
                omega
              have HQ := Lib.hid hq16
              have KL := Lib.hid kl
              have QV := Lib.hid (fun V (hV : Below wc.heap.size wc V) => heap_below hV (lt_heap Q15.out) Q15.out)
              cases hfd : find l (bs q.need) with
              | none =>
                have FD : Hid (Calls Tryz.prog 21 #[.slice T l.length c, .string (bs q.need)] wc fun e w' => ∃ Ad2 As2 cd2 cs2, e = .returned (.tuple #[.agg #[.string ⟨#[]⟩, .string ⟨#[]⟩, .slice Ad2 0 cd2, .slice As2 0 cs2], .bool false]) ∧ Below wc.heap.size wc w') := Lib.hid (FD0.out.mono (by
                  rintro e w' ⟨⟨t', A1, A2, c1, c2, h1, h2, _, _⟩, h5⟩
                  rw [hfd] at h2
                  have h2 : t' = Gr.zeroT := h2
                  subst h2
                  rw [Gr.none_isT hfd] at h1
                  exact ⟨A1, A2, c1, c2, h1, h5⟩))
                have END := Lib.hid (fun V (hV : Below wc.heap.size wc V) => says_at (EG.out.trans (S2a.out k2 hfd)) ((F6.out.below hV).end_ (r := failed 30 t.n (bs q.need)) (A' := none) (c' := 0) Lies.none_ (Nat.le_refl _)))
                have FV := Lib.hid (fun V (hV : Below wc.heap.size wc V) => F6.out.below hV)
                clear S1 S3 S2a S2b S2c k2 kl ke kn kf ku FD0 hfd x0 x1 x2 x3 y0 y1 y2 y3 hq16
                go_wp2_with (first
                  | (go_at_call 21; (with_reducible refine (FD.out).mono ?_); rintro e w7 ⟨A1, A2, c1, c2, rfl, b7⟩; clear d0 d1 d2 d3 d4 cbt6; have e2 : ∀ o, (w7.alloc o).cell? ⟨g15, 2, none⟩ = some (.string (bs q.need)) := fun o => (cell_heap (QV.out _ (b7.alloc b7.size o)) 2).trans rfl; have e0 : ∀ o, (w7.alloc o).cell? ⟨W.heap.size, 0, none⟩ = some (.string t.n) := fun o => (FV.out _ (b7.alloc b7.size o)).tcells.1)
                  | (go_at_call 45; (with_reducible refine (failed_any _ _ _ _).mono ?_); rintro e w8 ⟨rfl, b8⟩; have h8 : Below wc.heap.size wc w8 := (b7.alloc b7.size _).trans (b8.mono (b7.alloc b7.size _).size); have F8 := FV.out _ h8; obtain ⟨⟨u0, x0⟩, ⟨u1, x1⟩, ⟨u2, x2⟩, ⟨u3, x3⟩, y0, y1, y2, y3⟩ := F8.four))
                refine bodyPost_ret (results_cell rfl _ _ _ ⟨W.heap.size + 1, 0, none⟩ _ _ rfl (load_res (set4 F8.two.2 _ _ _ _) rfl)) rfl ?_
                exact END.out _ h8
              | some tq =>
                have hne : find l (bs q.need) ≠ none := by rw [hfd]; simp
                have htq : isT l (bs q.need) = true := Gr.some_isT hfd
                have FD : Hid (Calls Tryz.prog 21 #[.slice T l.length c, .string (bs q.need)] wc fun e w' => ∃ Ad2 As2 cd2 cs2, e = .returned (.tuple #[.agg #[.string tq.n, .string tq.c, .slice Ad2 tq.ds.length cd2, .slice As2 tq.ss.length cs2], .bool true]) ∧ Below wc.heap.size wc w') := Lib.hid (FD0.out.mono (by
                  rintro e w' ⟨⟨t', A1, A2, c1, c2, h1, h2, _, _⟩, h5⟩
                  rw [hfd] at h2
                  have h2 : t' = tq := h2
                  subst h2
                  rw [htq] at h1
                  exact ⟨A1, A2, c1, c2, h1, h5⟩))
                have VC : Hid (∀ (xo : List Nat) V, Frs w0 a xo bks l dep o W t (.slice Ad t.ds.length cd) (.slice As t.ss.length cs) fs' kk' A' ca' V → Calls Tryz.prog 46 #[.string (bs q.need), .pointer (some ⟨a.bo, 0, none⟩), .pointer (some ⟨a.bk, 0, none⟩), .pointer (some ⟨a.bt, 0, none⟩), .pointer (some ⟨a.bfr, 0, none⟩)] V (ValSays w0 a ((W.heap.size + 2) :: (W.heap.size + 1) :: (xo ++ bks)) (names l) dep V (rec kk' (bs q.need)).1 (rec kk' (bs q.need)).2 o)) := Lib.hid fun xo V h => VA.out (xo ++ bks) kk' (bs q.need) V h.mn h.fk htq
                have hrf := RF.out kk' (bs q.need) htq F6.out.fk
                have SB := Lib.hid (S2b.out k2 hne)
                have SC := Lib.hid (S2c.out k2 hne)
                have TQ := Lib.hid htq
                clear S1 S3 S2a S2b S2c k2 kl ke kn kf ku FD0 hfd hne
                generalize rec kk' (bs q.need) = rk at *
                obtain ⟨r8, k8⟩ := rk
                simp only at VC SB SC hrf
                obtain ⟨hr8, hk8⟩ := hrf
                have R8 := Lib.hid hr8.right
                have FK8 := Lib.hid hk8
                have FR8 := Lib.hid hr8
                obtain ⟨D0, hD0⟩ : ∃ D0, D0 = wc.heap.size := ⟨_, rfl⟩
                have hwz := B6.out.size
                have hg15' := lt_heap Q15.out
                have HH : Hid (C0 ≤ g15 ∧ g15 < D0 ∧ C0 ≤ w5.heap.size ∧ w5.heap.size ≤ D0 ∧ W.heap.size + 2 < C0 ∧ a.top ≤ C0 ∧ a.km < C0 ∧ a.om < C0) := Lib.hid (by omega)
                have RN6 : Hid (Rnd C0 w5.heap.size D0 g15 #[.int .i64 q.kind, .slice A6 q.files.length c6, .string (bs q.need), .int .i64 q.err, .string (bs q.text), .int .i64 q.used] L mL steps (.slice An ns.length cn) ns wc) := Lib.hid ⟨Q15.out, T6.out, O6.out, fun k hk => by have := (own_blk O6.out hk).2; omega, by omega⟩
                have RB : Hid (∀ V V', Rnd C0 w5.heap.size D0 g15 #[.int .i64 q.kind, .slice A6 q.files.length c6, .string (bs q.need), .int .i64 q.err, .string (bs q.text), .int .i64 q.used] L mL steps (.slice An ns.length cn) ns V → Below V.heap.size V V' → Rnd C0 w5.heap.size D0 g15 #[.int .i64 q.kind, .slice A6 q.files.length c6, .string (bs q.need), .int .i64 q.err, .string (bs q.text), .int .i64 q.used] L mL steps (.slice An ns.length cn) ns V') := Lib.hid fun V V' h hb => h.stay ⟨HH.out.1, HH.out.2.1⟩ ⟨HH.out.2.2.1, HH.out.2.2.2.1⟩ hb.size fun k _ hs => hb.block k (by have := h.sz; omega)
                have RK : Hid (∀ V V', Rnd C0 w5.heap.size D0 g15 #[.int .i64 q.kind, .slice A6 q.files.length c6, .string (bs q.need), .int .i64 q.err, .string (bs q.text), .int .i64 q.used] L mL steps (.slice An ns.length cn) ns V → KeepM a.km a.om V V' → Rnd C0 w5.heap.size D0 g15 #[.int .i64 q.kind, .slice A6 q.files.length c6, .string (bs q.need), .int .i64 q.err, .string (bs q.text), .int .i64 q.used] L mL steps (.slice An ns.length cn) ns V') := Lib.hid fun V V' h hb => h.stay ⟨HH.out.1, HH.out.2.1⟩ ⟨HH.out.2.2.1, HH.out.2.2.2.1⟩ hb.size fun k hk hs => hb.block k (by have := h.sz; omega) (by have := HH.out; omega) (by have := HH.out; omega)
                have RX : Hid (∀ V V' x, Rnd C0 w5.heap.size D0 g15 #[.int .i64 q.kind, .slice A6 q.files.length c6, .string (bs q.need), .int .i64 q.err, .string (bs q.text), .int .i64 q.used] L mL steps (.slice An ns.length cn) ns V → BelowX V.heap.size x V V' → (x = W.heap.size + 2 ∨ D0 ≤ x) → Rnd C0 w5.heap.size D0 g15 #[.int .i64 q.kind, .slice A6 q.files.length c6, .string (bs q.need), .int .i64 q.err, .string (bs q.text), .int .i64 q.used] L mL steps (.slice An ns.length cn) ns V') := Lib.hid fun V V' x h hb hx => h.stay ⟨HH.out.1, HH.out.2.1⟩ ⟨HH.out.2.2.1, HH.out.2.2.2.1⟩ hb.size fun k hk hs => hb.block k (by have := h.sz; omega) (by have := HH.out; omega)
                have KT : Hid (∀ (xo : List Nat) fs kk A ca V, Frs w0 a xo bks l dep o W t (.slice Ad t.ds.length cd) (.slice As t.ss.length cs) fs kk A ca V → Rnd C0 w5.heap.size D0 g15 #[.int .i64 q.kind, .slice A6 q.files.length c6, .string (bs q.need), .int .i64 q.err, .string (bs q.text), .int .i64 q.used] L mL steps (.slice An ns.length cn) ns V → (V.cell? ⟨g15, 2, none⟩ = some (.string (bs q.need)) ∧ V.cell? ⟨a.bv, 0, none⟩ = some (.func (.func 46) #[] #[.pointer (some ⟨a.bo, 0, none⟩), .pointer (some ⟨a.bk, 0, none⟩), .pointer (some ⟨a.bt, 0, none⟩), .pointer (some ⟨a.bfr, 0, none⟩)]))) := Lib.hid fun xo fs kk A ca V h1 h2 => ⟨(cell_heap h2.blk 2).trans rfl, h1.mn.cbv⟩
                have KE : Hid (∀ (xo : List Nat) V, Ends w0 a xo bks l dep o W k8 V → Rnd C0 w5.heap.size D0 g15 #[.int .i64 q.kind, .slice A6 q.files.length c6, .string (bs q.need), .int .i64 q.err, .string (bs q.text), .int .i64 q.used] L mL steps (.slice An ns.length cn) ns V → (V.cell? ⟨g15, 2, none⟩ = some (.string (bs q.need)) ∧ V.cell? ⟨a.bv, 0, none⟩ = some (.func (.func 46) #[] #[.pointer (some ⟨a.bo, 0, none⟩), .pointer (some ⟨a.bk, 0, none⟩), .pointer (some ⟨a.bt, 0, none⟩), .pointer (some ⟨a.bfr, 0, none⟩)]))) := Lib.hid fun xo V h1 h2 => ⟨(cell_heap h2.blk 2).trans rfl, h1.1.cbv⟩
                clear hr8 hk8 htq hq16 x0 x1 x2 x3 y0 y1 y2 y3 hwz hg15'
                cases hadd : addF t.n fs' needW (bs q.need) r8 with
                | inl r' =>
                  have EQ := Lib.hid (EG.out.trans (SB.out r' hadd))
                  obtain ⟨_, hne'⟩ := add_fine TN.out FR8.out hadd
                  have g1 : (r'.err != 0) = true := by simpa using hne'
                  have hadd' : addF t.n fs' (tl ⟨#[110, 101, 101, 100]⟩) (bs q.need) r8 = .inl r' := hadd
                  have ADX : Hid (∀ (xo : List Nat) V A8 c8, Frs w0 a xo bks l dep o W t (.slice Ad t.ds.length cd) (.slice As t.ss.length cs) fs' k8 A' ca' V → Lies V (fun g => g ∉ (W.heap.size + 2) :: (W.heap.size + 1) :: (xo ++ bks)) 2 A8 r8.files.length (fc r8.files) → r8.files.length ≤ c8 → Calls Tryz.prog 43 #[.pointer (some ⟨W.heap.size + 1 + 1, 0, none⟩), .string ⟨#[110, 101, 101, 100]⟩, .string (bs q.need), .agg #[.int .i64 r8.err, .string r8.at_, .string r8.text, .slice A8 r8.files.length c8]] V fun e w' => BelowX V.heap.size (W.heap.size + 2) V w' ∧ ∃ A9 c9, e = .returned (.agg #[.int .i64 r'.err, .string r'.at_, .string r'.text, .slice A9 r'.files.length c9]) ∧ Lies w' (fun g => g ∉ (W.heap.size + 1) :: (xo ++ bks)) 2 A9 r'.files.length (fc r'.files) ∧ r'.files.length ≤ c9) := Lib.hid fun xo V A8 c8 h1 h2 h3 => (add_any V (W.heap.size + 2) t _ _ A' ca' fs' ⟨#[110, 101, 101, 100]⟩ (bs q.need) r8 A8 c8 h1.inn1 (fun V' hV => ENV.out _ _ _ _ _ _ _ h1 hV) h1.rt (h2.mono (by decide) fun g hg hs => ⟨fun e => hg (by simp [e]), rfl⟩) (by have := R8.out.len; omega) (fun f hf => by have := Bx.path_size (R8.out.each f hf).1; omega) (by decide) HQ.out).mono (by
                    rintro e w' h
                    rw [hadd'] at h
                    exact h.bad h2 (fun g hg => ⟨fun e => hg (by simp [e]), fun hm => hg (List.mem_cons_of_mem _ hm)⟩) h3)
                  clear hadd hadd' hne' SB SC
                  go_upto_region 23 with (go_at_call 21; (with_reducible refine (FD.out).mono ?_); rintro e w7 ⟨A1, A2, c1, c2, rfl, b7⟩)
                  obtain ⟨W7, eW7⟩ : ∃ W7, W7 = w7.alloc (.cells #[.string tq.n, .string tq.c, .slice A1 tq.ds.length c1, .slice A2 tq.ss.length c2] 47) := ⟨_, rfl⟩
                  have b67 : Below wc.heap.size wc W7 := by rw [eW7]; exact b7.alloc b7.size _
                  have bd : Below W7.heap.size W7 W7.drew := (Below.refl _ _).drew
                  have F7 := Lib.hid (F6.out.below b67)
                  have R7 := Lib.hid (RB.out _ _ RN6.out b67)
                  have F7d := Lib.hid (F7.out.below bd)
                  have R7d := Lib.hid (RB.out _ _ R7.out bd)
                  obtain ⟨WZ, eZ⟩ : ∃ WZ, WZ = W7.alloc (.cells #[.int .i64 0, .string ⟨#[]⟩, .string ⟨#[]⟩, .slice none 0 0] 37) := ⟨_, rfl⟩
                  have bZ : Below W7.heap.size W7 WZ.drew := by rw [eZ]; exact ((Below.refl _ _).alloc (Nat.le_refl _) _).drew
                  have qZ : WZ.drew.heap[W7.heap.size]? = some (.cells #[.int .i64 0, .string ⟨#[]⟩, .string ⟨#[]⟩, .slice none 0 0] 37 (0, 0)) := by rw [eZ]; exact heap_alloc_new W7 _
                  have hzZ := lt_heap qZ
                  have FZ := Lib.hid (F7.out.more bZ (Nat.le_refl _) hzZ)
                  have RZ := Lib.hid (RB.out _ _ R7.out bZ)
                  have VA7 := Lib.hid (VC.out _ _ F7d.out)
                  have VAZ := Lib.hid (VC.out _ _ FZ.out)
                  have kS7 := KT.out _ _ _ _ _ _ F7.out R7.out
                  have kS7d := KT.out _ _ _ _ _ _ F7d.out R7d.out
                  have kSZ := KT.out _ _ _ _ _ _ FZ.out RZ.out
                  have h7 := b67.size
                  have hh := HH.out
                  rw [eZ] at VAZ kSZ
                  rw [← eW7]
                  clear eW7 b7 FD VC d0 d1 d2 d3 d4 cbt6
                  go_cut [18] from 53 to 107 (fun v18 V => ∃ g18 A9 c9, v18 = .pointer (some ⟨g18, 0, none⟩) ∧ V.heap[g18]? = some (.cells #[.int .i64 r'.err, .string r'.at_, .string r'.text, .slice A9 r'.files.length c9] 37 (0, 0)) ∧ Lies V (fun g => g ∉ (W.heap.size + 1) :: ((obs (.slice An ns.length cn)) ++ bks)) 2 A9 r'.files.length (fc r'.files) ∧ r'.files.length ≤ c9 ∧ Ends w0 a (obs (.slice An ns.length cn)) bks l dep o W k8 V)
                  case first =>
                    go_region_held3 (fun V : World => V.cell? ⟨g15, 2, none⟩ = some (.string (bs q.need)) ∧ V.cell? ⟨a.bv, 0, none⟩ = some (.func (.func 46) #[] #[.pointer (some ⟨a.bo, 0, none⟩), .pointer (some ⟨a.bk, 0, none⟩), .pointer (some ⟨a.bt, 0, none⟩), .pointer (some ⟨a.bfr, 0, none⟩)])) (first | (with_reducible exact kS7) | (with_reducible exact kS7d) | (with_reducible exact kSZ) | (with_reducible exact kS8) | (with_reducible exact kSA) | (with_reducible exact kS9) | (with_reducible exact kS10) | go_keep) (first
                      | (go_at_call 46; (with_reducible refine (VA7.out).mono ?_); rintro e w8 ⟨A8, c8, rfl, hl8, hc8, M8, K8⟩; have F8 := Lib.hid (F7d.out.asked K8 M8 FK8.out); have N8 := Lib.hid (RK.out _ _ R7d.out K8); have HL8 := Lib.hid hl8; have HC8 := Lib.hid hc8; have kS8 := KT.out _ _ _ _ _ _ F8.out N8.out; have bA : Below w8.heap.size w8 (w8.alloc (.cells #[.int .i64 0, .string ⟨#[]⟩, .string ⟨#[]⟩, .slice none 0 0] 37)) := (Below.refl _ _).alloc (Nat.le_refl _) _; have qA := heap_alloc_new w8 (.cells #[.int .i64 0, .string ⟨#[]⟩, .string ⟨#[]⟩, .slice none 0 0] 37); have FA := Lib.hid (F8.out.more bA (Nat.le_refl _) (lt_heap qA)); have NA := Lib.hid (RB.out _ _ N8.out bA); have kSA := KT.out _ _ _ _ _ _ FA.out NA.out; have LA := Lib.hid (lies_more hl8 bA (Nat.le_refl _)); have hz8 : W7.heap.size ≤ w8.heap.size := K8.size; clear hl8 hc8 M8 K8 bA)
                      | (go_at_call 46; (with_reducible refine (VAZ.out).mono ?_); rintro e w8 ⟨A8, c8, rfl, hl8, hc8, M8, K8⟩; rw [← eZ] at K8; have F8 := Lib.hid (FZ.out.asked K8 M8 FK8.out); have N8 := Lib.hid (RK.out _ _ RZ.out K8); have HL8 := Lib.hid hl8; have HC8 := Lib.hid hc8; have kS8 := KT.out _ _ _ _ _ _ F8.out N8.out; have qz8 := (K8.block _ hzZ (by omega) (by omega)).trans qZ; clear hl8 hc8 M8 K8)
                      | (go_at_call 43; (with_reducible refine (ADX.out _ w8 A8 c8 F8.out HL8.out HC8.out).mono ?_); rintro e w9 ⟨hx9, A9, c9, rfl, hl9, hc9⟩; have qz9 := (hx9.block _ (lt_heap qz8) (by omega)).trans qz8; obtain ⟨⟨u0, x0⟩, ⟨u1, x1⟩, ⟨u2, x2⟩, ⟨u3, x3⟩, y0, y1, y2, y3⟩ := four qz9; have E9 := Lib.hid (F8.out.ends.x hx9); have N9 := Lib.hid (RX.out _ _ _ N8.out hx9 (.inl rfl)); have kS9 := KE.out _ _ E9.out N9.out; have X9 := x4 w9 W7.heap.size (.int .i64 r'.err) (.string r'.at_) (.string r'.text) (.slice A9 r'.files.length c9); have E10 := Lib.hid (E9.out.put X9 (by omega)); have N10 := Lib.hid (RX.out _ _ _ N9.out X9 (.inr (by omega))); have kS10 := KE.out _ _ E10.out N10.out; have L10 := Lib.hid (lies_put hl9 X9); have C9 := Lib.hid hc9; clear hl9 hc9 hx9 X9)
                      | (go_at_call 43; (with_reducible refine (ADX.out _ w8 A8 c8 F8.out HL8.out HC8.out).mono ?_); rintro e w9 ⟨hx9, A9, c9, rfl, hl9, hc9⟩; have E9 := Lib.hid (F8.out.ends.x hx9); have N9 := Lib.hid (RX.out _ _ _ N8.out hx9 (.inl rfl)); have kS9 := KE.out _ _ E9.out N9.out; have L9 := Lib.hid hl9; have C9 := Lib.hid hc9; clear hl9 hc9 hx9)
                      | (go_at_call 43; (with_reducible refine (ADX.out _ (w8.alloc (.cells #[.int .i64 0, .string ⟨#[]⟩, .string ⟨#[]⟩, .slice none 0 0] 37)) A8 c8 FA.out LA.out HC8.out).mono ?_); rintro e w9 ⟨hx9, A9, c9, rfl, hl9, hc9⟩; have qz9 := (hx9.block _ (lt_heap qA) (by omega)).trans qA; obtain ⟨⟨u0, x0⟩, ⟨u1, x1⟩, ⟨u2, x2⟩, ⟨u3, x3⟩, y0, y1, y2, y3⟩ := four qz9; have E9 := Lib.hid (FA.out.ends.x hx9); have N9 := Lib.hid (RX.out _ _ _ NA.out hx9 (.inl rfl)); have kS9 := KE.out _ _ E9.out N9.out; have X9 := x4 w9 w8.heap.size (.int .i64 r'.err) (.string r'.at_) (.string r'.text) (.slice A9 r'.files.length c9); have E10 := Lib.hid (E9.out.put X9 (by omega)); have N10 := Lib.hid (RX.out _ _ _ N9.out X9 (.inr (by omega))); have kS10 := KE.out _ _ E10.out N10.out; have L10 := Lib.hid (lies_put hl9 X9); have C9 := Lib.hid hc9; clear hl9 hc9 hx9 X9))
                    all_goals
                      (try go_wp2_with (fail))
                      go_meet
                      first
                      | (have _ := qz8; exact ⟨W7.heap.size, A9, c9, rfl, set4 qz9 _ _ _ _, L10.out, C9.out, E10.out⟩)
                      | (have _ := L10; exact ⟨w8.heap.size, A9, c9, rfl, set4 qz9 _ _ _ _, L10.out, C9.out, E10.out⟩)
                      | exact ⟨w9.heap.size, A9, c9, rfl, heap_alloc_new w9 _, L9.out.mono (by decide) fun g hg hs => ⟨hg, Below.heap_alloc _ _ _ hs⟩, C9.out, E9.out.below ((Below.refl _ _).alloc (Nat.le_refl _) _)⟩
                  case rest =>
                    obtain ⟨g18, A9, c9, rfl, q18, hl9, hc9, e9⟩ := hcut
                    have z0 : wc.cell? ⟨g18, 0, none⟩ = some (.int .i64 r'.err) := (cell_heap q18 0).trans rfl
                    have z1 : wc.cell? ⟨g18, 1, none⟩ = some (.string r'.at_) := (cell_heap q18 1).trans rfl
                    have z2 : wc.cell? ⟨g18, 2, none⟩ = some (.string r'.text) := (cell_heap q18 2).trans rfl
                    have z3 : wc.cell? ⟨g18, 3, none⟩ = some (.slice A9 r'.files.length c9) := (cell_heap q18 3).trans rfl
                    obtain ⟨⟨u0, x0⟩, ⟨u1, x1⟩, ⟨u2, x2⟩, ⟨u3, x3⟩, y0, y1, y2, y3⟩ := four e9.2.2
                    have T9 := Lib.hid e9.2.2
                    have END := Lib.hid (says_at EQ.out (e9.end_ hl9 hc9))
                    clear EQ hl9 hc9 e9 q18
                    go_wp2_with (fail)
                    refine bodyPost_ret (results_cell rfl _ _ _ ⟨W.heap.size + 1, 0, none⟩ _ _ rfl (load_res (set4 T9.out _ _ _ _) rfl)) rfl ?_
                    exact END.out
                | inr fs2 =>
                  have EQ := Lib.hid (SC.out fs2 hadd)
                  have RT' := Lib.hid (add_right F6.out.rt hadd)
                  have hadd' : addF t.n fs' (tl ⟨#[110, 101, 101, 100]⟩) (bs q.need) r8 = .inr fs2 := hadd
                  have ADX : Hid (∀ (xo : List Nat) V A8 c8, Frs w0 a xo bks l dep o W t (.slice Ad t.ds.length cd) (.slice As t.ss.length cs) fs' k8 A' ca' V → Lies V (fun g => g ∉ (W.heap.size + 2) :: (W.heap.size + 1) :: (xo ++ bks)) 2 A8 r8.files.length (fc r8.files) → r8.files.length ≤ c8 → Calls Tryz.prog 43 #[.pointer (some ⟨W.heap.size + 1 + 1, 0, none⟩), .string ⟨#[110, 101, 101, 100]⟩, .string (bs q.need), .agg #[.int .i64 r8.err, .string r8.at_, .string r8.text, .slice A8 r8.files.length c8]] V fun e w' => BelowX V.heap.size (W.heap.size + 2) V w' ∧ e = .returned (.agg #[.int .i64 0, .string ⟨#[]⟩, .string ⟨#[]⟩, .slice none 0 0]) ∧ ∃ A9 c9, Frs w0 a xo bks l dep o W t (.slice Ad t.ds.length cd) (.slice As t.ss.length cs) fs2 k8 A9 c9 w') := Lib.hid fun xo V A8 c8 h1 h2 h3 => (add_any V (W.heap.size + 2) t _ _ A' ca' fs' ⟨#[110, 101, 101, 100]⟩ (bs q.need) r8 A8 c8 h1.inn1 (fun V' hV => ENV.out _ _ _ _ _ _ _ h1 hV) h1.rt (h2.mono (by decide) fun g hg hs => ⟨fun e => hg (by simp [e]), rfl⟩) (by have := R8.out.len; omega) (fun f hf => by have := Bx.path_size (R8.out.each f hf).1; omega) (by decide) HQ.out).mono (by
                    rintro e w' h
                    rw [hadd'] at h
                    obtain ⟨hx, he, A9, c9, hin⟩ := h
                    exact ⟨hx, he, A9, c9, h1.x hx RT'.out (inn_new hin h1.lt)⟩)
                  clear hadd hadd' SB SC
                  go_upto_region 23 with (go_at_call 21; (with_reducible refine (FD.out).mono ?_); rintro e w7 ⟨A1, A2, c1, c2, rfl, b7⟩)
                  obtain ⟨W7, eW7⟩ : ∃ W7, W7 = w7.alloc (.cells #[.string tq.n, .string tq.c, .slice A1 tq.ds.length c1, .slice A2 tq.ss.length c2] 47) := ⟨_, rfl⟩
                  have b67 : Below wc.heap.size wc W7 := by rw [eW7]; exact b7.alloc b7.size _
                  have bd : Below W7.heap.size W7 W7.drew := (Below.refl _ _).drew
                  have F7 := Lib.hid (F6.out.below b67)
                  have R7 := Lib.hid (RB.out _ _ RN6.out b67)
                  have F7d := Lib.hid (F7.out.below bd)
                  have R7d := Lib.hid (RB.out _ _ R7.out bd)
                  obtain ⟨WZ, eZ⟩ : ∃ WZ, WZ = W7.alloc (.cells #[.int .i64 0, .string ⟨#[]⟩, .string ⟨#[]⟩, .slice none 0 0] 37) := ⟨_, rfl⟩
                  have bZ : Below W7.heap.size W7 WZ.drew := by rw [eZ]; exact ((Below.refl _ _).alloc (Nat.le_refl _) _).drew
                  have qZ : WZ.drew.heap[W7.heap.size]? = some (.cells #[.int .i64 0, .string ⟨#[]⟩, .string ⟨#[]⟩, .slice none 0 0] 37 (0, 0)) := by rw [eZ]; exact heap_alloc_new W7 _
                  have hzZ := lt_heap qZ
                  have FZ := Lib.hid (F7.out.more bZ (Nat.le_refl _) hzZ)
                  have RZ := Lib.hid (RB.out _ _ R7.out bZ)
                  have VA7 := Lib.hid (VC.out _ _ F7d.out)
                  have VAZ := Lib.hid (VC.out _ _ FZ.out)
                  have kS7 := KT.out _ _ _ _ _ _ F7.out R7.out
                  have kS7d := KT.out _ _ _ _ _ _ F7d.out R7d.out
                  have kSZ := KT.out _ _ _ _ _ _ FZ.out RZ.out
                  have h7 := b67.size
                  have hh := HH.out
                  rw [eZ] at VAZ kSZ
                  rw [← eW7]
                  clear eW7 b7 FD VC d0 d1 d2 d3 d4 cbt6
                  go_cut [18] from 53 to 107 (fun v18 V => ∃ g18 A9 c9, v18 = .pointer (some ⟨g18, 0, none⟩) ∧ V.cell? ⟨g18, 0, none⟩ = some (.int .i64 0) ∧ Frs w0 a (obs (.slice An ns.length cn)) bks l dep o W t (.slice Ad t.ds.length cd) (.slice As t.ss.length cs) fs2 k8 A9 c9 V ∧ Rnd C0 w5.heap.size D0 g15 #[.int .i64 q.kind, .slice A6 q.files.length c6, .string (bs q.need), .int .i64 q.err, .string (bs q.text), .int .i64 q.used] L mL steps (.slice An ns.length cn) ns V)
                  case first =>
                    go_region_held3 (fun V : World => V.cell? ⟨g15, 2, none⟩ = some (.string (bs q.need)) ∧ V.cell? ⟨a.bv, 0, none⟩ = some (.func (.func 46) #[] #[.pointer (some ⟨a.bo, 0, none⟩), .pointer (some ⟨a.bk, 0, none⟩), .pointer (some ⟨a.bt, 0, none⟩), .pointer (some ⟨a.bfr, 0, none⟩)])) (first | (with_reducible exact kS7) | (with_reducible exact kS7d) | (with_reducible exact kSZ) | (with_reducible exact kS8) | (with_reducible exact kSA) | (with_reducible exact kS9) | (with_reducible exact kS10) | go_keep) (first
                      | (go_at_call 46; (with_reducible refine (VA7.out).mono ?_); rintro e w8 ⟨A8, c8, rfl, hl8, hc8, M8, K8⟩; have F8 := Lib.hid (F7d.out.asked K8 M8 FK8.out); have N8 := Lib.hid (RK.out _ _ R7d.out K8); have HL8 := Lib.hid hl8; have HC8 := Lib.hid hc8; have kS8 := KT.out _ _ _ _ _ _ F8.out N8.out; have bA : Below w8.heap.size w8 (w8.alloc (.cells #[.int .i64 0, .string ⟨#[]⟩, .string ⟨#[]⟩, .slice none 0 0] 37)) := (Below.refl _ _).alloc (Nat.le_refl _) _; have qA := heap_alloc_new w8 (.cells #[.int .i64 0, .string ⟨#[]⟩, .string ⟨#[]⟩, .slice none 0 0] 37); have FA := Lib.hid (F8.out.more bA (Nat.le_refl _) (lt_heap qA)); have NA := Lib.hid (RB.out _ _ N8.out bA); have kSA := KT.out _ _ _ _ _ _ FA.out NA.out; have LA := Lib.hid (lies_more hl8 bA (Nat.le_refl _)); have hz8 : W7.heap.size ≤ w8.heap.size := K8.size; clear hl8 hc8 M8 K8 bA)
                      | (go_at_call 46; (with_reducible refine (VAZ.out).mono ?_); rintro e w8 ⟨A8, c8, rfl, hl8, hc8, M8, K8⟩; rw [← eZ] at K8; have F8 := Lib.hid (FZ.out.asked K8 M8 FK8.out); have N8 := Lib.hid (RK.out _ _ RZ.out K8); have HL8 := Lib.hid hl8; have HC8 := Lib.hid hc8; have kS8 := KT.out _ _ _ _ _ _ F8.out N8.out; have qz8 := (K8.block _ hzZ (by omega) (by omega)).trans qZ; clear hl8 hc8 M8 K8)
                      | (go_at_call 43; (with_reducible refine (ADX.out _ w8 A8 c8 F8.out HL8.out HC8.out).mono ?_); rintro e w9 ⟨hx9, rfl, A9, c9, F9⟩; have qz9 := (hx9.block _ (lt_heap qz8) (by omega)).trans qz8; obtain ⟨⟨u0, x0⟩, ⟨u1, x1⟩, ⟨u2, x2⟩, ⟨u3, x3⟩, y0, y1, y2, y3⟩ := four qz9; have F9 := Lib.hid F9; have N9 := Lib.hid (RX.out _ _ _ N8.out hx9 (.inl rfl)); have kS9 := KT.out _ _ _ _ _ _ F9.out N9.out; have X9 := x4 w9 W7.heap.size (.int .i64 0) (.string ⟨#[]⟩) (.string ⟨#[]⟩) (.slice none 0 0); have F10 := Lib.hid (F9.out.put X9 (by omega)); have N10 := Lib.hid (RX.out _ _ _ N9.out X9 (.inr (by omega))); have kS10 := KT.out _ _ _ _ _ _ F10.out N10.out; clear hx9 X9)
                      | (go_at_call 43; (with_reducible refine (ADX.out _ w8 A8 c8 F8.out HL8.out HC8.out).mono ?_); rintro e w9 ⟨hx9, rfl, A9, c9, F9⟩; have F9 := Lib.hid F9; have N9 := Lib.hid (RX.out _ _ _ N8.out hx9 (.inl rfl)); have kS9 := KT.out _ _ _ _ _ _ F9.out N9.out; clear hx9)
                      | (go_at_call 43; (with_reducible refine (ADX.out _ (w8.alloc (.cells #[.int .i64 0, .string ⟨#[]⟩, .string ⟨#[]⟩, .slice none 0 0] 37)) A8 c8 FA.out LA.out HC8.out).mono ?_); rintro e w9 ⟨hx9, rfl, A9, c9, F9⟩; have qz9 := (hx9.block _ (lt_heap qA) (by omega)).trans qA; obtain ⟨⟨u0, x0⟩, ⟨u1, x1⟩, ⟨u2, x2⟩, ⟨u3, x3⟩, y0, y1, y2, y3⟩ := four qz9; have F9 := Lib.hid F9; have N9 := Lib.hid (RX.out _ _ _ NA.out hx9 (.inl rfl)); have kS9 := KT.out _ _ _ _ _ _ F9.out N9.out; have X9 := x4 w9 w8.heap.size (.int .i64 0) (.string ⟨#[]⟩) (.string ⟨#[]⟩) (.slice none 0 0); have F10 := Lib.hid (F9.out.put X9 (by omega)); have N10 := Lib.hid (RX.out _ _ _ N9.out X9 (.inr (by omega))); have kS10 := KT.out _ _ _ _ _ _ F10.out N10.out; clear hx9 X9))
                    all_goals
                      (try go_wp2_with (fail))
                      go_meet
                      first
                      | (have _ := qz8; exact ⟨W7.heap.size, A9, c9, rfl, (cell_heap (set4 qz9 _ _ _ _) 0).trans rfl, F10.out, N10.out⟩)
                      | (have _ := F10; exact ⟨w8.heap.size, A9, c9, rfl, (cell_heap (set4 qz9 _ _ _ _) 0).trans rfl, F10.out, N10.out⟩)
                      | exact ⟨w9.heap.size, A9, c9, rfl, (cell_heap (heap_alloc_new w9 _) 0).trans rfl, F9.out.below ((Below.refl _ _).alloc (Nat.le_refl _) _), RB.out _ _ N9.out ((Below.refl _ _).alloc (Nat.le_refl _) _)⟩
                  case rest =>
                    obtain ⟨g18, A9, c9, rfl, z0, hf9, hn9⟩ := hcut
                    have F9 := Lib.hid hf9
                    have N9 := Lib.hid hn9
                    have d2 : wc.cell? ⟨g15, 2, none⟩ = some (.string (bs q.need)) := (cell_heap hn9.blk 2).trans rfl
                    have hsz9 := hn9.sz
                    clear hf9 hn9
                    go_wp2_with (at_builtin; refine wpList_append_any _ rfl (.tmp 103) (.tmp 106) 24 rfl w5.heap.size 9 zs (.string ⟨#[]⟩) 1 16 Tryz.underlying24 hi hz0' hz1' hz2' rfl (by decide) (.slice An ns.length cn) ns.length (strV ns) rfl (N9.out.own.alloc _) (wc.heap.size + 1) (some ⟨wc.heap.size, 0, none⟩) 1 1 [.string (bs q.need)] rfl (Bx.reads1_new wc _ _) (fun u hu => by rw [List.mem_singleton.1 hu]; rfl) (by simp only [maxLen]; omega) (by omega) (by simp; omega) ?_; intro v10 w10 ho10 hg10 hat10; have O10 := Lib.hid ho10; have bA : Below wc.heap.size wc (wc.alloc (.cells #[.string (bs q.need)] 9)) := (Below.refl _ _).alloc (Nat.le_refl _) _; have F10 := Lib.hid (F9.out.grown bA hg10 hat10 (fun g hg => (own_blk ho10 hg).2) (fun g hg => by have := (own_blk N9.out.own hg).1; omega)); have T10 := Lib.hid (N9.out.st.mono (w' := w10) (ok' := fun g => C0 ≤ g ∧ g < w5.heap.size) fun g hg hs => ⟨hg, (hg10.block g (by simp; omega) (fun e => by have := (own_blk N9.out.own e.symm).1; omega)).trans (bA.block g hs)⟩); have hz10 := hg10.size; obtain ⟨A10, c10, rfl, _⟩ := own_len ho10; clear ho10 hg10 hat10 bA)
                    go_roundw
                    case rel =>
                      refine ⟨ns ++ [q.need], fs2, k8, A9, c9, ?_, ?_, ?_, ?_, T10.out, ?_, F10.out⟩
                      · rw [show l.length + 1 - (ns ++ [q.need]).length = m' by have := MQ.out; simp; omega]; exact EQ.out
                      · rw [List.nodup_append]
                        exact ⟨ND.out, by simp, fun x hx y hy => by rw [List.mem_singleton.1 hy]; exact KL.out x hx⟩
                      · intro x hx
                        rcases List.mem_append.1 hx with h | h
                        · exact NT.out x h
                        · rw [List.mem_singleton.1 h]; exact TQ.out
                      · rw [show (ns ++ [q.need]).length = ns.length + 1 by simp, show strV (ns ++ [q.need]) = strV ns ++ [.string (bs q.need)] by simp [strV]; rfl]; exact O10.out
                      · simp at hz10; omega
                    case measure => simp [Gr.sliceLen]; omega
            · have E := Lib.hid (S3.out (by omega) (by omega))
              have dk1 : (q.kind == 1) = false := by rw [k3]; rfl
              have dk2 : (q.kind == 2) = false := by rw [k3]; rfl
              clear S1 S3 S2a S2b S2c k3 ke kn kf ku
              have END := Lib.hid (fun V (hV : Below wc.heap.size wc V) => says_at (EG.out.trans E.out) ((F6.out.below hV).end_ (r := failed q.err t.n (bs q.text)) (A' := none) (c' := 0) Lies.none_ (Nat.le_refl _)))
              have FV := Lib.hid (fun V (hV : Below wc.heap.size wc V) => F6.out.below hV)
              clear E
              obtain ⟨tc0, _, _⟩ := F6.out.tcells
              clear x0 x1 x2 x3 y0 y1 y2 y3
              go_wp2_with (go_at_call 45; (with_reducible refine (failed_any _ _ _ _).mono ?_); rintro e w8 ⟨rfl, b8⟩; have F8 := FV.out _ b8; obtain ⟨⟨u0, x0⟩, ⟨u1, x1⟩, ⟨u2, x2⟩, ⟨u3, x3⟩, y0, y1, y2, y3⟩ := F8.four)
              refine bodyPost_ret (results_cell rfl _ _ _ ⟨W.heap.size + 1, 0, none⟩ _ _ rfl (load_res (set4 F8.two.2 _ _ _ _) rfl)) rfl ?_
              exact END.out _ b8
end Go.Proofs.YtdidnlkilleljaaGreatDoor.Mn
