/- Joined by mkmerged.py: FsRDown2. -/
import Derived.Test.YtlndnpfjneeeeaaGreatDoorMh27
import Derived.Deep.RegionHeld3
import Derived.Deep.CutRange
/- FsRDown2, what a claim needs of it (prune.py). -/
namespace Go.Proofs.YtlndnpfjneeeeaaGreatDoor.Fs
open Go.RowKit
set_option linter.unusedVariables false
set_option maxRecDepth 100000
set_option maxHeartbeats 8000000 in
theorem rdown_walk (W0 : World) (Ab : Option Addr) (bl : List ByteArray) (cb : Nat) (hS : Lg.Strs W0 Ab bl) (hbl : bl.length ≤ 1000000000) (hz : ∀ s ∈ bl, s.size ≤ 1000000) :
    ∀ (f : Nat) (root ahead : B) (s : Wk) (W : World) (v : Value), WrAt W0 Ab bl.length cb W v s → 1001 ≤ f + s.dirs → s.dirs ≤ 1000 → s.out.length ≤ 32 → (∀ x ∈ s.out, x.p.size ≤ 49 * 1001) → ahead.length ≤ 49 * s.dirs → root.length ≤ maxLen →
    Calls Tryz.prog 42 #[.pointer (some ⟨W0.heap.size, 0, none⟩), .string (bs root), .string (bs ahead)] W (WrSays W0 Ab bl.length cb (goF bl f root ahead s) W v)
  | 0, _, _, _, _, _, _, h, h2, _, _, _, _ => absurd h (by omega)
  | f + 1, root, ahead, s, W, v, hD, hf1, hd1, hlen, hsz, hah, hro => by
    have IH : Hid (∀ (g a : B) (s' : Wk) (W' : World) (v' : Value), WrAt W0 Ab bl.length cb W' v' s' → FineS s.dirs s' → a.length ≤ 49 * s'.dirs → g.length ≤ 1000000 →
        Calls Tryz.prog 42 #[.pointer (some ⟨W0.heap.size, 0, none⟩), .string (bs g), .string (bs a)] W' (WrSays W0 Ab bl.length cb (goF bl f g a s') W' v')) := Lib.hid fun g a s' W' v' h1 h2 h3 h4 =>
      rdown_walk W0 Ab bl cb hS hbl hz f g a s' W' v' h1 (by have := h2.more; omega) h2.dirs h2.len h2.each h3 (by unfold maxLen; omega)
    obtain ⟨z, hzi, hzs⟩ := infoF
    obtain ⟨i0, hi, hz0, hz1, hz2⟩ := Lg.info_parts hzi
    obtain ⟨d, ed⟩ : ∃ d, d = s.dirs + 1 := ⟨_, rfl⟩
    have hx := Lg.lt_heap hD.st
    have hbw := hD.bw.size
    have hdi : (s.dirs : Int) + 1 = (d : Int) := by omega
    have hdm : (d : Int) ≤ 1001 := by omega
    have c1 : W.cell? ⟨W0.heap.size, 1, none⟩ = some (.int .i64 (s.dirs : Int)) := (cell_heap hD.st 1).trans rfl
    have f1 : W.frozen? ⟨W0.heap.size, 1, none⟩ = false := frozen_heap hD.st 1
    have CT := Lib.hid (hD.count d)
    obtain ⟨W1, eW⟩ : ∃ W1, W1 = W.setCell ⟨W0.heap.size, 1, none⟩ (.int .i64 (d : Int)) := ⟨_, rfl⟩
    rw [← eW] at CT
    have FN : Hid (∀ (g : B) W', Below W0.heap.size W0 W' → Calls Tryz.prog 101 #[.string (bs g), .slice Ab bl.length cb] W' fun e w' => e = .returned (.tuple #[.string ((findB bl g).getD ⟨#[]⟩), .bool (findB bl g).isSome]) ∧ Below W'.heap.size W' w') := Lib.hid fun g W' hW => rfindB_any Ab bl cb g W' (hS.below hW) hbl hz
    have e0 : W1.cell? ⟨W0.heap.size, 0, none⟩ = some (.slice Ab bl.length cb) := (cell_heap CT.out.1.st 0).trans rfl
    have e1 : W1.cell? ⟨W0.heap.size, 1, none⟩ = some (.int .i64 (d : Int)) := (cell_heap CT.out.1.st 1).trans rfl
    have FR := Lib.hid (FN.out root W1 CT.out.1.bw)
    have GO := Lib.hid (go_eq bl f root ahead s)
    have SZ := Lib.hid hz
    have HSZ := Lib.hid hsz
    have HAH := Lib.hid hah
    have HED := Lib.hid ed
    have HLEN := Lib.hid hlen
    clear hS hz hD hsz hzi ed hah hlen
    generalize hQ : WrSays W0 Ab bl.length cb (goF bl (f + 1) root ahead s) W v = Q
    have END : Hid (∀ (r : Int × Wk) w' v', goF bl (f + 1) root ahead s = r → WrAt W0 Ab bl.length cb w' v' r.2 → KeepR W0.heap.size v W w' v' → Q (.returned (.int .i64 r.1)) w') := Lib.hid fun r w' v' h1 h2 h3 => by
      rw [← hQ, h1]
      exact ⟨rfl, v', h2, h3⟩
    clear hQ
    by_cases hbig : 1000 < d
    · have q1 : (1000 : Int) < (d : Int) := by omega
      have F : Hid (goF bl (f + 1) root ahead s = (15, ⟨d, s.out⟩)) := Lib.hid (by rw [GO.out, if_pos (by have := HED.out; omega), HED.out])
      clear IH GO FN FR
      go_enter Tryz.func42, Tryz.ntmps42
      go_wp2_with (fail)
      rw [← eW]
      clear eW
      go_wp2_with (fail)
      exact END.out _ _ _ F.out CT.out.1 CT.out.2
    · have q1 : ¬ (1000 : Int) < (d : Int) := by omega
      have GO2 := Lib.hid (GO.out.trans (if_neg (by have := HED.out; omega)))
      clear GO
      cases hfd : findB bl root with
      | none =>
        rw [hfd] at FR
        simp only [Option.getD_none, Option.isSome_none] at FR
        have F : Hid (goF bl (f + 1) root ahead s = (17, ⟨d, s.out⟩)) := Lib.hid (by rw [GO2.out, hfd, HED.out])
        clear IH GO2 FN hfd
        go_enter Tryz.func42, Tryz.ntmps42
        go_upto_region 4 with (fail)
        rw [← eW]
        clear eW
        go_wp2_with (go_at_call 101; (with_reducible refine (FR.out).mono ?_); rintro e w2 ⟨rfl, hb2⟩)
        exact END.out _ _ _ F.out (CT.out.1.keep hb2) (CT.out.2.trans (KeepR.of_below hb2))
      | some dat =>
        rw [hfd] at FR
        simp only [Option.getD_some, Option.isSome_some] at FR
        have hds := find_size SZ.out hfd
        have DE : Hid (∀ W', Calls Tryz.prog 102 #[.string dat] W' (DecOwn (tl dat) W')) := Lib.hid fun W' => by
          have h := rdecode_own (tl dat) (by rw [tl_len]; omega) W'
          have EB : bs (tl dat) = dat := rfl
          rw [EB] at h
          exact h
        unfold DecOwn at DE
        have RG : Hid (Right (decode (tl dat)).1) := Lib.hid (by
          rcases decode_err (tl dat) with h | ⟨_, h⟩
          · exact decode_right h
          · rw [h]; exact fun i hi => absurd hi (by simp))
        have LC := decode_count (tl dat)
        rw [tl_len] at LC
        have F0 : Hid (Rest bl f ahead (decode (tl dat)).1 0 (decode (tl dat)).2 ⟨d, s.out⟩ (goF bl (f + 1) root ahead s)) := Lib.hid (by
          rw [GO2.out, hfd, ← HED.out]
          rfl)
        clear GO2 hfd
        generalize (decode (tl dat)).1 = l at *
        generalize (decode (tl dat)).2 = c0 at *
        by_cases hc0 : c0 = 0
        · subst hc0
          go_enter Tryz.func42, Tryz.ntmps42
          go_upto_region 4 with (fail)
          rw [← eW]
          clear eW
          go_wp2_with (first
            | (go_at_call 101; (with_reducible refine (FR.out).mono ?_); rintro e w2 ⟨rfl, hb2⟩)
            | (go_at_call 102; (with_reducible refine (DE.out _).mono ?_); rintro e w3 ⟨v3, rfl, ho3, hb3⟩; obtain ⟨A3, c3, rfl⟩ := dw_form ho3))
          have D2 := CT.out.1.keep hb2
          have D3 := Lib.hid (D2.keep hb3)
          have K3 : Hid (KeepR W0.heap.size v W w3 v) := Lib.hid ((CT.out.2.trans (KeepR.of_below hb2)).trans (KeepR.of_below hb3))
          have hx2 := Lg.lt_heap D2.st
          have F3 : Hid (FarR W0.heap.size v w3 A3 l) := Lib.hid (farr_own (W := w2) ho3 (Nat.le_succ _) D2.row hx2)
          have E3 : Hid (Ens w3 A3 l) := Lib.hid (Reads.of_own ho3)
          have S3 : Hid (FineS s.dirs ⟨d, s.out⟩) := Lib.hid ⟨by show d ≤ 1000; omega, by have := HED.out; show s.dirs < d; omega, HLEN.out, HSZ.out⟩
          have hah : (bs ahead).size ≤ 49000 := by rw [bs_len]; have := HAH.out; omega
          have hll : (l.length : Int) ≤ 1000000 := by omega
          clear CT DE FR e0 e1 ho3 hb3 hb2 hdi hdm q1 HLEN HSZ hx2 hbig D2
          go_loopw [11] (fun iv Wx => ∃ (k : Nat) (vk : Value) (sk : Wk), iv = .int .i64 k ∧ k ≤ l.length ∧ Hid (WrAt W0 Ab bl.length cb Wx vk sk) ∧ Hid (KeepR W0.heap.size v W Wx vk) ∧ Hid (FarR W0.heap.size vk Wx A3 l) ∧ Hid (Ens Wx A3 l) ∧ Hid (FineS s.dirs sk) ∧ Hid (Rest bl f ahead l k 0 sk (goF bl (f + 1) root ahead s))) (fun i _ => l.length - (intOf i).toNat)
          case atStart => exact ⟨0, v, _, rfl, Nat.zero_le _, D3, K3, F3, E3, S3, F0⟩
          case round =>
            clear D3 K3 F3 E3 S3 F0
            obtain ⟨k, vk, sk, rfl, hk, D, K, FR, EN, FJ, RE⟩ := hrel
            by_cases hlt : k < l.length
            · have hkI : (k : Int) < (l.length : Int) := by omega
              obtain ⟨ad, rfl, had, e0, e1, e2⟩ := Ens.at_ EN.out hlt
              have RX := RG.out k hlt
              have hnl : (bs l[k].n).size ≤ 48 := by
                rw [bs_len]
                have h := RX.1
                unfold Lg.pathOk at h
                simp only [Bool.and_eq_true, decide_eq_true_eq] at h
                exact h.1.2
              have hgl : l[k].g.length = 32 := RX.2.2.1
              have RD := Lib.hid (fun h => RE.out.dir hlt h)
              have RL := Lib.hid (fun h h2 => RE.out.lack hlt h h2)
              have RM := Lib.hid (fun d h h2 h3 => RE.out.many (d := d) hlt h h2 h3)
              have RF := Lib.hid (fun d h h2 h3 => RE.out.file (d := d) hlt h h2 h3)
              have BT := Lib.hid (bs_three ahead l[k].n)
              have BA := Lib.hid (bs_append ahead l[k].n)
              have NX : Hid (∀ g a, a.length ≤ 49 * sk.dirs → g.length ≤ 1000000 → Keeps sk (goF bl f g a sk) ∧ ∀ x ∈ (goF bl f g a sk).2.out, x.p.size ≤ 49 * 1001) := Lib.hid fun g a h1 h2 => go_keeps bl f g a sk FJ.out.dirs FJ.out.len FJ.out.each h1
              have AL : Hid ((ahead ++ l[k].n ++ [47]).length ≤ 49 * sk.dirs) := Lib.hid (by
                have h1 := FJ.out.more
                have h2 := HAH.out
                simp only [List.length_append, List.length_singleton]
                rw [bs_len] at hnl
                omega)
              have PS : Hid ((bs (ahead ++ l[k].n)).size ≤ 49 * 1001) := Lib.hid (by
                have h1 := AL.out
                have h2 := FJ.out.dirs
                simp only [List.length_append, List.length_singleton] at h1
                rw [bs_len, List.length_append]
                omega)
              clear RX RE
              cases hdir : l[k].dir
              · rw [hdir] at e1
                have h0 : wr.cell? ⟨W0.heap.size, 0, none⟩ = some (.slice Ab bl.length cb) := (cell_heap D.out.st 0).trans rfl
                have hxr := Lg.lt_heap D.out.st
                have adl : (ad.add (k * 3)).block < wr.heap.size := by rw [block_of_add]; exact had
                have kS0 : wr.cell? ⟨(ad.add (k * 3)).block, (ad.add (k * 3)).off + 2, none⟩ = some (.string (bs l[k].g)) ∧ wr.cell? ⟨W0.heap.size, 0, none⟩ = some (.slice Ab bl.length cb) := ⟨e2, h0⟩
                have FD : Hid (Calls Tryz.prog 101 #[.string (bs l[k].g), .slice Ab bl.length cb] wr.drew fun e w' => e = .returned (.tuple #[.string ((findB bl l[k].g).getD ⟨#[]⟩), .bool (findB bl l[k].g).isSome]) ∧ Below wr.drew.heap.size wr.drew w') := Lib.hid (FN.out l[k].g wr.drew (D.out.bw.trans (((Below.refl _ _).drew).mono D.out.bw.size)))
                cases hfd : findB bl l[k].g with
                | none =>
                  rw [hfd] at FD
                  simp only [Option.getD_none, Option.isSome_none] at FD
                  have R2 := Lib.hid (RL.out hdir hfd)
                  have R := Lib.hid (R2.out.stop (by decide))
                  clear RD RL RM RF hdir hfd IH NX R2
                  generalize l[k] = x at *
                  go_wp2_with (fail)
                  go_region_held3 (fun W' => W'.cell? ⟨(ad.add (k * 3)).block, (ad.add (k * 3)).off + 2, none⟩ = some (.string (bs x.g)) ∧ W'.cell? ⟨W0.heap.size, 0, none⟩ = some (.slice Ab bl.length cb)) (first | (with_reducible exact kS0) | (with_reducible exact kS9) | go_keep)
                    ((go_at_call 101; (with_reducible refine (FD.out).mono ?_); rintro e w9 ⟨rfl, hb9⟩; have h9 : Below wr.heap.size wr w9 := ((Below.refl _ _).drew).trans hb9; have kS9 : w9.cell? ⟨(ad.add (k * 3)).block, (ad.add (k * 3)).off + 2, none⟩ = some (.string (bs x.g)) ∧ w9.cell? ⟨W0.heap.size, 0, none⟩ = some (.slice Ab bl.length cb) := ⟨(h9.cell (p := ⟨(ad.add (k * 3)).block, (ad.add (k * 3)).off + 2, none⟩) adl).trans e2, (h9.cell (p := ⟨W0.heap.size, 0, none⟩) hxr).trans h0⟩; have H9 := Lib.hid h9; clear h9 hb9))
                  all_goals
                    go_wp2_with (fail)
                    exact END.out _ _ _ R.out (D.out.keep H9.out) (K.out.trans (KeepR.of_below H9.out))
                | some dat2 =>
                  rw [hfd] at FD
                  simp only [Option.getD_some, Option.isSome_some] at FD
                  obtain ⟨Ak, ck, rfl⟩ := dw_form D.out.row
                  have h2 : wr.cell? ⟨W0.heap.size, 2, none⟩ = some (.slice Ak sk.out.length ck) := (cell_heap D.out.st 2).trans rfl
                  by_cases h32 : 32 ≤ sk.out.length
                  · have q3 : (32 : Int) ≤ (sk.out.length : Int) := by omega
                    have R2 := Lib.hid (RM.out dat2 hdir hfd h32)
                    have R := Lib.hid (R2.out.stop (by decide))
                    clear RD RL RM RF hdir hfd IH NX R2
                    generalize l[k] = x at *
                    go_wp2_with (fail)
                    go_region_held3 (fun W' => W'.cell? ⟨(ad.add (k * 3)).block, (ad.add (k * 3)).off + 2, none⟩ = some (.string (bs x.g)) ∧ W'.cell? ⟨W0.heap.size, 0, none⟩ = some (.slice Ab bl.length cb)) (first | (with_reducible exact kS0) | (with_reducible exact kS9) | go_keep)
                      ((go_at_call 101; (with_reducible refine (FD.out).mono ?_); rintro e w9 ⟨rfl, hb9⟩; have h9 : Below wr.heap.size wr w9 := ((Below.refl _ _).drew).trans hb9; have kS9 : w9.cell? ⟨(ad.add (k * 3)).block, (ad.add (k * 3)).off + 2, none⟩ = some (.string (bs x.g)) ∧ w9.cell? ⟨W0.heap.size, 0, none⟩ = some (.slice Ab bl.length cb) := ⟨(h9.cell (p := ⟨(ad.add (k * 3)).block, (ad.add (k * 3)).off + 2, none⟩) adl).trans e2, (h9.cell (p := ⟨W0.heap.size, 0, none⟩) hxr).trans h0⟩; have H9 := Lib.hid h9; have e9 : w9.cell? (ad.add (k * 3)) = some (.string (bs x.n)) := (h9.cell (p := ad.add (k * 3)) adl).trans e0; have v9 : w9.cell? ⟨W0.heap.size, 2, none⟩ = some (.slice Ak sk.out.length ck) := (h9.cell (p := ⟨W0.heap.size, 2, none⟩) hxr).trans h2; clear h9 hb9))
                    all_goals
                      go_wp2_with (fail)
                      exact END.out _ _ _ R.out (D.out.keep H9.out) (K.out.trans (KeepR.of_below H9.out))
                  · have q3 : ¬ (32 : Int) ≤ (sk.out.length : Int) := by omega
                    have hl32 : (sk.out.length : Int) ≤ 32 := by omega
                    have R2 := Lib.hid (RF.out dat2 hdir hfd h32)
                    have hds2 := find_size SZ.out hfd
                    have FI2 : Hid (FineS s.dirs ⟨sk.dirs, sk.out ++ [⟨bs (ahead ++ l[k].n), dat2⟩]⟩) := Lib.hid ⟨FJ.out.dirs, FJ.out.more, by show (sk.out ++ _).length ≤ 32; rw [List.length_append]; simp only [List.length_singleton]; omega, fun f hf => by
                      rcases List.mem_append.1 hf with hf | hf
                      · exact FJ.out.each f hf
                      · obtain rfl := List.mem_singleton.1 hf
                        exact PS.out⟩
                    have t1 : ¬ 9223372036854775807 < (bs ahead).size + (bs l[k].n).size := by omega
                    clear RD RL RM RF hdir hfd IH NX
                    generalize l[k] = x at *
                    go_wp2_with (fail)
                    go_region_held3 (fun W' => W'.cell? ⟨(ad.add (k * 3)).block, (ad.add (k * 3)).off + 2, none⟩ = some (.string (bs x.g)) ∧ W'.cell? ⟨W0.heap.size, 0, none⟩ = some (.slice Ab bl.length cb)) (first | (with_reducible exact kS0) | (with_reducible exact kS9) | go_keep)
                      ((go_at_call 101; (with_reducible refine (FD.out).mono ?_); rintro e w9 ⟨rfl, hb9⟩; have h9 : Below wr.heap.size wr w9 := ((Below.refl _ _).drew).trans hb9; have kS9 : w9.cell? ⟨(ad.add (k * 3)).block, (ad.add (k * 3)).off + 2, none⟩ = some (.string (bs x.g)) ∧ w9.cell? ⟨W0.heap.size, 0, none⟩ = some (.slice Ab bl.length cb) := ⟨(h9.cell (p := ⟨(ad.add (k * 3)).block, (ad.add (k * 3)).off + 2, none⟩) adl).trans e2, (h9.cell (p := ⟨W0.heap.size, 0, none⟩) hxr).trans h0⟩; have H9 := Lib.hid h9; have e9 : w9.cell? (ad.add (k * 3)) = some (.string (bs x.n)) := (h9.cell (p := ad.add (k * 3)) adl).trans e0; have v9 : w9.cell? ⟨W0.heap.size, 2, none⟩ = some (.slice Ak sk.out.length ck) := (h9.cell (p := ⟨W0.heap.size, 2, none⟩) hxr).trans h2; clear h9 hb9))
                    all_goals
                      go_wp2_with (fail)
                      have D9 := Lib.hid (D.out.keep H9.out)
                      have K9 : Hid (KeepR W0.heap.size v W w9 (.slice Ak sk.out.length ck)) := Lib.hid (K.out.trans (KeepR.of_below H9.out))
                      have FR9 : Hid (FarR W0.heap.size (.slice Ak sk.out.length ck) w9 (some ad) l) := Lib.hid (FR.out.keep (KeepR.of_below H9.out))
                      have EN9 : Hid (Ens w9 (some ad) l) := Lib.hid (farr_ens EN.out FR.out (KeepR.of_below H9.out))
                      have b9 : Below w9.heap.size w9 (w9.drew.alloc (.cells #[.string (bs ahead ++ bs x.n), .string dat2] 75)) := ((Below.refl _ _).drew).alloc (Nat.le_refl _) _
                      have z9 : w9.heap.size < (w9.drew.alloc (.cells #[.string (bs ahead ++ bs x.n), .string dat2] 75)).heap.size := by simp
                      have x9 := Lg.lt_heap D9.out.st
                      have OA := Lib.hid (own_later D9.out.row b9)
                      have ST9 := Lib.hid ((b9.block _ x9).trans D9.out.st)
                      have HB9 := Lib.hid b9
                      have HZ9 := Lib.hid z9
                      clear b9 z9 kS0 kS9 e0 e2 h0 h2 adl
                      go_region_law (refine step_append_any _ rfl (.tmp 100) (.tmp 110) _ rfl (W0.heap.size + 1) 75 i0 _ 2 32 Tryz.underlying25 hi hz0 hz1 hz2 hzs (by omega) (.slice Ak sk.out.length ck) sk.out.length (fc sk.out) rfl OA.out _ (some ⟨w9.heap.size, 0, none⟩) 1 1 [.string (bs ahead ++ bs x.n), .string dat2] rfl (reads2_one _ _ _ _ _ rfl) (fc_cell [⟨bs ahead ++ bs x.n, dat2⟩]) (by simp only [maxLen]; omega) (by omega) (by simp; omega) ?_; intro v' w4 hown2 hg2 hat2; obtain ⟨A4, c4, rfl⟩ := dw_form hown2; have PT := Lib.hid (D9.out.put (f := ⟨bs ahead ++ bs x.n, dat2⟩) HB9.out HZ9.out hown2 hg2 hat2); have hd4 := (hg2.block W0.heap.size (by simp; omega) (fun e => by have := (D9.out.row.lt _ e.symm).1; omega)).trans ST9.out; have c4' := (cell_heap hd4 2).trans rfl; have f4 := frozen_heap hd4 2; clear hown2 hg2 hat2 hd4)
                      all_goals
                        have PT2 := PT.out
                        rw [BA.out] at PT2
                        have HP := Lib.hid PT2
                        clear PT PT2
                        go_wp2_with (fail)
                        go_roundw
                        case rel => exact ⟨k + 1, _, _, by go_num, by omega, Lib.hid HP.out.1, Lib.hid (K9.out.trans HP.out.2), Lib.hid (FR9.out.keep HP.out.2), Lib.hid (farr_ens EN9.out FR9.out HP.out.2), FI2, R2⟩
                        case measure => simp [intOf]; omega
              · rw [hdir] at e1
                have NY := Lib.hid (NX.out l[k].g (ahead ++ l[k].n ++ [47]) AL.out (by omega))
                have R2 := Lib.hid (RD.out hdir)
                have C : Hid (∀ W', Below wr.heap.size wr W' → Calls Tryz.prog 42 #[.pointer (some ⟨W0.heap.size, 0, none⟩), .string (bs l[k].g), .string (bs ahead ++ bs l[k].n ++ ⟨#[47]⟩)] W' (WrSays W0 Ab bl.length cb (goF bl f l[k].g (ahead ++ l[k].n ++ [47]) sk) W' vk)) := Lib.hid fun W' hW => by
                  rw [BT.out]
                  exact IH.out l[k].g (ahead ++ l[k].n ++ [47]) sk W' vk (D.out.keep hW) FJ.out AL.out (by omega)
                clear RD RL RM RF hdir IH NX
                generalize goF bl f l[k].g (ahead ++ l[k].n ++ [47]) sk = r at *
                generalize l[k] = x at *
                obtain ⟨rc, rs⟩ := r
                dsimp only at NY R2 C
                have kS0 : wr.cell? (ad.add (k * 3)) = some (.string (bs x.n)) ∧ wr.cell? ⟨(ad.add (k * 3)).block, (ad.add (k * 3)).off + 2, none⟩ = some (.string (bs x.g)) := ⟨e0, e2⟩
                have adl : (ad.add (k * 3)).block < wr.heap.size := by rw [block_of_add]; exact had
                have KP : Hid (∀ w9 v9, KeepR W0.heap.size vk wr w9 v9 → w9.cell? (ad.add (k * 3)) = some (.string (bs x.n)) ∧ w9.cell? ⟨(ad.add (k * 3)).block, (ad.add (k * 3)).off + 2, none⟩ = some (.string (bs x.g))) := Lib.hid fun w9 v9 k9 => by
                  obtain ⟨h1, h3, h4⟩ := FR.out (by omega) ad rfl
                  have hb : w9.heap[ad.block]? = wr.heap[ad.block]? := k9.block ad.block h4 h1 h3
                  exact ⟨(World.cell?_of_block (by rw [block_of_add]; exact hb)).trans e0, (World.cell?_of_block (by show w9.heap[(ad.add (k * 3)).block]? = _; rw [block_of_add]; exact hb)).trans e2⟩
                have CD := Lib.hid (C.out wr.drew ((Below.refl _ _).drew))
                have KD : Hid (KeepR W0.heap.size vk wr wr.drew vk) := Lib.hid (KeepR.of_below ((Below.refl _ _).drew))
                have t1 : ¬ 9223372036854775807 < (bs ahead).size + (bs x.n).size := by omega
                have t2 : ¬ 9223372036854775807 < (bs ahead).size + (bs x.n).size + 1 := by omega
                clear C
                go_wp2_with (fail)
                go_region_held3 (fun W' => W'.cell? (ad.add (k * 3)) = some (.string (bs x.n)) ∧ W'.cell? ⟨(ad.add (k * 3)).block, (ad.add (k * 3)).off + 2, none⟩ = some (.string (bs x.g))) (first | (with_reducible exact kS0) | (with_reducible exact kS9) | go_keep)
                  ((go_at_call 42; (with_reducible refine (CD.out).mono ?_); rintro e w9 ⟨rfl, v9, D9, K9⟩; have kS9 := KP.out w9 v9 (KD.out.trans K9); have HD9 := Lib.hid D9; have HK9 := Lib.hid (KD.out.trans K9); clear D9 K9))
                by_cases hrc : rc = 0
                · subst hrc
                  go_wp2_with (fail)
                  go_roundw
                  case rel => exact ⟨k + 1, v9, rs, by go_num, by omega, HD9, Lib.hid (K.out.trans HK9.out), Lib.hid (FR.out.keep HK9.out), Lib.hid (farr_ens EN.out FR.out HK9.out), Lib.hid ⟨NY.out.1.most rfl, Nat.lt_of_lt_of_le FJ.out.more NY.out.1.dirs, NY.out.1.out, NY.out.2⟩, R2⟩
                  case measure => simp [intOf]; omega
                · have q5 : (rc != 0) = true := by simpa using hrc
                  have R := Lib.hid (R2.out.stop hrc)
                  clear R2
                  go_wp2_with (fail)
                  exact END.out _ _ _ R.out HD9.out (K.out.trans HK9.out)
            · have hkI : ¬ (k : Int) < (l.length : Int) := by omega
              have R := Lib.hid (RE.out.done (by omega))
              clear RE FJ IH
              go_wp2_with (fail)
              exact END.out _ _ _ R.out D.out K.out
        · have q2 : (c0 != 0) = true := by simpa using hc0
          have R := Lib.hid (F0.out.stop hc0)
          clear F0 IH FN
          go_enter Tryz.func42, Tryz.ntmps42
          go_upto_region 4 with (fail)
          rw [← eW]
          clear eW
          go_wp2_with (first
            | (go_at_call 101; (with_reducible refine (FR.out).mono ?_); rintro e w2 ⟨rfl, hb2⟩)
            | (go_at_call 102; (with_reducible refine (DE.out _).mono ?_); rintro e w3 ⟨v3, rfl, ho3, hb3⟩))
          exact END.out _ _ _ R.out ((CT.out.1.keep hb2).keep hb3) ((CT.out.2.trans (KeepR.of_below hb2)).trans (KeepR.of_below hb3))
end Go.Proofs.YtlndnpfjneeeeaaGreatDoor.Fs
