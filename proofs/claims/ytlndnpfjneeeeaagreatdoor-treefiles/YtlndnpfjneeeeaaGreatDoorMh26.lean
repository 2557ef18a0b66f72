/- Joined by mkmerged.py: FsDown2. -/
import Derived.Test.YtlndnpfjneeeeaaGreatDoorMh25
import Derived.Deep.CutRange
/- FsDown2, what a claim needs of it (prune.py). -/
namespace Go.Proofs.YtlndnpfjneeeeaaGreatDoor.Fs
open Go.RowKit
set_option linter.unusedVariables false
set_option maxRecDepth 100000
def Rest (bl : List ByteArray) (f : Nat) (ahead : B) (l : List En) (k : Nat) (c : Int) (s : Wk) (r : Int × Wk) : Prop := r = if c = 0 then eachE bl (goF bl f) ahead (l.drop k) s else (c, s)
theorem Rest.stop {bl : List ByteArray} {f : Nat} {ahead : B} {l : List En} {k : Nat} {c : Int} {s : Wk} {r : Int × Wk} (h : Rest bl f ahead l k c s r) (hc : c ≠ 0) : r = (c, s) := by unfold Rest at h; rw [if_neg hc] at h; exact h
theorem Rest.done {bl : List ByteArray} {f : Nat} {ahead : B} {l : List En} {k : Nat} {s : Wk} {r : Int × Wk} (h : Rest bl f ahead l k 0 s r) (hk : l.length ≤ k) : r = (0, s) := by
  unfold Rest at h
  rw [if_pos rfl, List.drop_eq_nil_of_le hk] at h
  exact h
theorem Rest.dir {bl : List ByteArray} {f : Nat} {ahead : B} {l : List En} {k : Nat} {s : Wk} {r : Int × Wk} (h : Rest bl f ahead l k 0 s r) (hk : k < l.length) (hd : l[k].dir = true) : Rest bl f ahead l (k + 1) (goF bl f l[k].g (ahead ++ l[k].n ++ [47]) s).1 (goF bl f l[k].g (ahead ++ l[k].n ++ [47]) s).2 r := by
  unfold Rest at *
  rw [if_pos rfl, List.drop_eq_getElem_cons hk, eachE, if_pos hd] at h
  exact h
theorem Rest.lack {bl : List ByteArray} {f : Nat} {ahead : B} {l : List En} {k : Nat} {s : Wk} {r : Int × Wk} (h : Rest bl f ahead l k 0 s r) (hk : k < l.length) (hd : l[k].dir = false) (hf : findB bl l[k].g = none) : Rest bl f ahead l (k + 1) 17 s r := by
  unfold Rest at *
  rw [if_pos rfl, List.drop_eq_getElem_cons hk, eachE, if_neg (by simp [hd]), hf] at h
  exact h
theorem Rest.many {bl : List ByteArray} {f : Nat} {ahead : B} {l : List En} {k : Nat} {s : Wk} {r : Int × Wk} {d : ByteArray} (h : Rest bl f ahead l k 0 s r) (hk : k < l.length) (hd : l[k].dir = false) (hf : findB bl l[k].g = some d) (h32 : 32 ≤ s.out.length) : Rest bl f ahead l (k + 1) 15 s r := by
  unfold Rest at *
  rw [if_pos rfl, List.drop_eq_getElem_cons hk, eachE, if_neg (by simp [hd]), hf] at h
  simp only [if_pos h32] at h
  exact h
theorem Rest.file {bl : List ByteArray} {f : Nat} {ahead : B} {l : List En} {k : Nat} {s : Wk} {r : Int × Wk} {d : ByteArray} (h : Rest bl f ahead l k 0 s r) (hk : k < l.length) (hd : l[k].dir = false) (hf : findB bl l[k].g = some d) (h32 : ¬ 32 ≤ s.out.length) : Rest bl f ahead l (k + 1) 0 ⟨s.dirs, s.out ++ [⟨bs (ahead ++ l[k].n), d⟩]⟩ r := by
  unfold Rest at *
  rw [if_pos rfl, List.drop_eq_getElem_cons hk, eachE, if_neg (by simp [hd]), hf] at h
  simp only [if_neg h32] at h
  exact h
structure FineS (s0 : Nat) (s : Wk) : Prop where
  dirs : s.dirs ≤ 1000
  more : s0 < s.dirs
  len : s.out.length ≤ 32
  each : ∀ f ∈ s.out, f.p.size ≤ 49 * 1001
theorem find_size {bl : List ByteArray} (h : ∀ s ∈ bl, s.size ≤ 1000000) {d : B} {s : ByteArray} (hf : findB bl d = some s) : s.size ≤ 1000000 := h s (List.mem_of_find?_eq_some hf)
theorem bs_three (a n : B) : bs a ++ bs n ++ ⟨#[47]⟩ = bs (a ++ n ++ [47]) := by
  rw [show (⟨#[47]⟩ : ByteArray) = bs [47] from rfl, bs_append, bs_append]
theorem go_eq (bl : List ByteArray) (f : Nat) (root ahead : B) (s : Wk) : goF bl (f + 1) root ahead s = if 1000 < s.dirs + 1 then (15, ⟨s.dirs + 1, s.out⟩) else
    match findB bl root with
    | none => (17, ⟨s.dirs + 1, s.out⟩)
    | some d => if (decode (tl d)).2 = 0 then eachE bl (goF bl f) ahead (decode (tl d)).1 ⟨s.dirs + 1, s.out⟩ else ((decode (tl d)).2, ⟨s.dirs + 1, s.out⟩) := by
  rw [goF]
  cases findB bl root <;> rfl
set_option maxHeartbeats 8000000 in
theorem down_walk (W0 : World) (bl : List ByteArray) (bk m n : Nat) (hE : Env W0) (hK : KnAt W0 m n (findB bl)) (hB : W0.heap[bk]? = some (.cells #[.map (some m)] 80 (0, 0))) (hz : ∀ s ∈ bl, s.size ≤ 1000000) :
    ∀ (f : Nat) (root ahead : B) (s : Wk) (W : World) (v : Value), WdAt W0 bk W v s → 1001 ≤ f + s.dirs → s.dirs ≤ 1000 → s.out.length ≤ 32 → (∀ x ∈ s.out, x.p.size ≤ 49 * 1001) → ahead.length ≤ 49 * s.dirs → root.length ≤ maxLen →
    Calls Tryz.prog 36 #[.string (bs root), .string (bs ahead), .pointer (some ⟨W0.heap.size + 1, 0, none⟩), .pointer (some ⟨bk, 0, none⟩), .pointer (some ⟨W0.heap.size + 2, 0, none⟩), .pointer (some ⟨W0.heap.size, 0, none⟩)] W (WdSays W0 bk (goF bl f root ahead s) W v)
  | 0, _, _, _, _, _, _, h, h2, _, _, _, _ => absurd h (by omega)
  | f + 1, root, ahead, s, W, v, hD, hf1, hd1, hlen, hsz, hah, hro => by
    have IH : Hid (∀ (g a : B) (s' : Wk) (W' : World) (v' : Value), WdAt W0 bk W' v' s' → FineS s.dirs s' → a.length ≤ 49 * s'.dirs → g.length ≤ 1000000 →
        Calls Tryz.prog 36 #[.string (bs g), .string (bs a), .pointer (some ⟨W0.heap.size + 1, 0, none⟩), .pointer (some ⟨bk, 0, none⟩), .pointer (some ⟨W0.heap.size + 2, 0, none⟩), .pointer (some ⟨W0.heap.size, 0, none⟩)] W' (WdSays W0 bk (goF bl f g a s') W' v')) := Lib.hid fun g a s' W' v' h1 h2 h3 h4 =>
      down_walk W0 bl bk m n hE hK hB hz f g a s' W' v' h1 (by have := h2.more; omega) h2.dirs h2.len h2.each h3 (by unfold maxLen; omega)
    obtain ⟨z, hzi, hzs⟩ := infoF
    obtain ⟨i0, hi, hz0, hz1, hz2⟩ := Lg.info_parts hzi
    obtain ⟨d, ed⟩ : ∃ d, d = s.dirs + 1 := ⟨_, rfl⟩
    have hx := Lg.lt_heap hD.dirs
    have hbw := hD.bw.size
    have hkl := hK.lt
    have hbl := Lg.lt_heap hB
    have hdi : (s.dirs : Int) + 1 = (d : Int) := by omega
    have hdm : (d : Int) ≤ 1001 := by omega
    have c0 : W.cell? ⟨W0.heap.size + 1, 0, none⟩ = some (.int .i64 (s.dirs : Int)) := (cell_heap hD.dirs 0).trans rfl
    have f0 : W.frozen? ⟨W0.heap.size + 1, 0, none⟩ = false := frozen_heap hD.dirs 0
    have CT := Lib.hid (hD.count d)
    obtain ⟨W1, eW⟩ : ∃ W1, W1 = W.setCell ⟨W0.heap.size + 1, 0, none⟩ (.int .i64 (d : Int)) := ⟨_, rfl⟩
    rw [← eW] at CT
    have KN : Hid (∀ W', Below W0.heap.size W0 W' → KnAt W' m n (findB bl)) := Lib.hid fun W' hW => hK.keep (hW.block m hkl)
    have KB : Hid (∀ W', Below W0.heap.size W0 W' → W'.cell? ⟨bk, 0, none⟩ = some (.map (some m))) := Lib.hid fun W' hW => (cell_heap (heap_below hW hbl hB) 0).trans rfl
    have EV : Hid (∀ W', Below W0.heap.size W0 W' → Env W') := Lib.hid fun W' hW => hE.below hW
    have cd : W1.cell? ⟨W0.heap.size + 1, 0, none⟩ = some (.int .i64 (d : Int)) := (cell_heap CT.out.1.dirs 0).trans rfl
    have cb := KB.out W1 CT.out.1.bw
    have LK := KnAt.look (KN.out W1 CT.out.1.bw) (s := bs root) (by rw [bs_len]; exact hro)
    have ET : tl (bs root) = root := rfl
    rw [ET] at LK
    have GO := Lib.hid (go_eq bl f root ahead s)
    have SZ := Lib.hid hz
    have HSZ := Lib.hid hsz
    have HAH := Lib.hid hah
    have HED := Lib.hid ed
    have HLEN := Lib.hid hlen
    clear hE hK hB hz hD hsz hzi ed hah hlen
    generalize hQ : WdSays W0 bk (goF bl (f + 1) root ahead s) W v = Q
    have END : Hid (∀ (r : Int × Wk) w' v', goF bl (f + 1) root ahead s = r → WdAt W0 bk w' v' r.2 → KeepW W0.heap.size v W w' v' → Q (.returned (.int .i64 r.1)) w') := Lib.hid fun r w' v' h1 h2 h3 => by
      rw [← hQ, h1]
      exact ⟨rfl, v', h2, h3⟩
    clear hQ
    by_cases hbig : 1000 < d
    · have q1 : (1000 : Int) < (d : Int) := by omega
      have F : Hid (goF bl (f + 1) root ahead s = (15, ⟨d, s.out⟩)) := Lib.hid (by rw [GO.out, if_pos (by have := HED.out; omega), HED.out])
      clear IH GO KN KB EV LK
      go_enter Tryz.func36, Tryz.ntmps36
      go_wp2_with (fail)
      rw [← eW]
      clear eW
      go_wp2_with (fail)
      exact END.out _ _ _ F.out CT.out.1 CT.out.2
    · have q1 : ¬ (1000 : Int) < (d : Int) := by omega
      have GO2 := Lib.hid (GO.out.trans (if_neg (by have := HED.out; omega)))
      clear GO
      cases hfd : findB bl root with
      | none =>
        rw [hfd] at LK
        simp only [Option.getD_none, Option.isSome_none] at LK
        have F : Hid (goF bl (f + 1) root ahead s = (17, ⟨d, s.out⟩)) := Lib.hid (by rw [GO2.out, hfd, HED.out])
        clear IH GO2 KN KB EV hfd
        go_enter Tryz.func36, Tryz.ntmps36
        go_upto_region 4 with (fail)
        rw [← eW]
        clear eW
        go_wp2_with (fail)
        exact END.out _ _ _ F.out CT.out.1 CT.out.2
      | some dat =>
        rw [hfd] at LK
        simp only [Option.getD_some, Option.isSome_some] at LK
        have hds := find_size SZ.out hfd
        have DE := Lib.hid (pdecode_own (tl dat) (by rw [tl_len]; omega) W1 (EV.out _ CT.out.1.bw))
        have EB : bs (tl dat) = dat := rfl
        rw [EB] at DE
        unfold DecOwn at DE
        have RG : Hid (Right (decode (tl dat)).1) := Lib.hid (by
          rcases decode_err (tl dat) with h | ⟨_, h⟩
          · exact decode_right h
          · rw [h]; exact fun i hi => absurd hi (by simp))
        have LC := decode_count (tl dat)
        rw [tl_len] at LC
        have F0 : Hid (Rest bl f ahead (decode (tl dat)).1 0 (decode (tl dat)).2 ⟨d, s.out⟩ (goF bl (f + 1) root ahead s)) := Lib.hid (by
          rw [GO2.out, hfd, ← HED.out]
          rfl)
        clear GO2 hfd
        generalize (decode (tl dat)).1 = l at *
        generalize (decode (tl dat)).2 = c0 at *
        go_enter Tryz.func36, Tryz.ntmps36
        go_upto_region 4 with (fail)
        rw [← eW]
        clear eW
        go_wp2_with (go_at_call 37; (with_reducible refine (DE.out).mono ?_); rintro e w2 ⟨v2, rfl, ho2, hb2⟩; obtain ⟨A2, c2, rfl⟩ := dw_form ho2)
        have D2 := Lib.hid (CT.out.1.keep hb2)
        have K2 : Hid (KeepW W0.heap.size v W w2 v) := Lib.hid (CT.out.2.trans (KeepW.of_below hb2))
        have hx1 := Lg.lt_heap CT.out.1.dirs
        have F2 : Hid (FarW W0.heap.size v w2 A2 l) := Lib.hid (farw_own (W := W1) ho2 (Nat.le_succ _) CT.out.1.row hx1)
        have E2 : Hid (Ens w2 A2 l) := Lib.hid (Reads.of_own ho2)
        have S2 : Hid (c0 = 0 → FineS s.dirs ⟨d, s.out⟩) := Lib.hid fun _ => ⟨by show d ≤ 1000; omega, by have := HED.out; show s.dirs < d; omega, HLEN.out, HSZ.out⟩
        have hah : (bs ahead).size ≤ 49000 := by rw [bs_len]; have := HAH.out; omega
        have hll : (l.length : Int) ≤ 1000000 := by omega
        have HAH := HAH
        clear CT DE LK cd cb ET EB ho2 hb2 hdi hdm q1 HLEN HSZ hx1 hbig
        go_loopw [12, 13] (fun ev iv Wx => ∃ (k : Nat) (c : Int) (vk : Value) (sk : Wk), ev = .int .i64 c ∧ iv = .int .i64 k ∧ k ≤ l.length ∧ Hid (WdAt W0 bk Wx vk sk) ∧ Hid (KeepW W0.heap.size v W Wx vk) ∧ Hid (FarW W0.heap.size vk Wx A2 l) ∧ Hid (Ens Wx A2 l) ∧ Hid (c = 0 → FineS s.dirs sk) ∧ Hid (Rest bl f ahead l k c sk (goF bl (f + 1) root ahead s))) (fun _ i _ => l.length - (intOf i).toNat)
        case atStart => exact ⟨0, c0, v, _, rfl, rfl, Nat.zero_le _, D2, K2, F2, E2, S2, F0⟩
        case round =>
          clear D2 K2 F2 E2 S2 F0
          obtain ⟨k, c, vk, sk, rfl, rfl, hk, D, K, FR, EN, FI, RE⟩ := hrel
          by_cases hlt : k < l.length
          · have hkI : (k : Int) < (l.length : Int) := by omega
            by_cases hc : c = 0
            · subst hc
              have FJ := Lib.hid (FI.out rfl)
              clear FI
              obtain ⟨ad, rfl, had, e0, e1, e2⟩ := Ens.at_ EN.out hlt
              have RX := RG.out k hlt
              have hnl : (bs l[k].n).size ≤ 48 := by
                rw [bs_len]
                have h := RX.1
                unfold Lg.pathOk at h
                simp only [Bool.and_eq_true, decide_eq_true_eq] at h
                exact h.1.2
              have hgl : l[k].g.length = 32 := RX.2.2.1
              obtain ⟨W2, eW⟩ : ∃ W2, W2 = wr.alloc (.cells #[.string (bs l[k].n), .bool l[k].dir, .string (bs l[k].g)] 79) := ⟨_, rfl⟩
              have hbr : Below wr.heap.size wr W2 := by rw [eW]; exact (Below.refl _ _).alloc (Nat.le_refl _) _
              have hblk : W2.heap[wr.heap.size]? = some (.cells #[.string (bs l[k].n), .bool l[k].dir, .string (bs l[k].g)] 79 (0, 0)) := by rw [eW]; exact heap_alloc_new wr _
              have d0 : W2.cell? ⟨wr.heap.size, 0, none⟩ = some (.string (bs l[k].n)) := (cell_heap hblk 0).trans rfl
              have d1 : W2.cell? ⟨wr.heap.size, 1, none⟩ = some (.bool l[k].dir) := (cell_heap hblk 1).trans rfl
              have d2 : W2.cell? ⟨wr.heap.size, 2, none⟩ = some (.string (bs l[k].g)) := (cell_heap hblk 2).trans rfl
              have DW := Lib.hid (D.out.keep hbr)
              have KW : Hid (KeepW W0.heap.size v W W2 vk) := Lib.hid (K.out.trans (KeepW.of_below hbr))
              have FW : Hid (FarW W0.heap.size vk W2 (some ad) l) := Lib.hid (FR.out.keep (KeepW.of_below hbr))
              have EW : Hid (Ens W2 (some ad) l) := Lib.hid (farw_ens EN.out FR.out (KeepW.of_below hbr))
              have b0 : W2.cell? ⟨bk, 0, none⟩ = some (.map (some m)) := KB.out W2 DW.out.bw
              have f0' : W2.cell? ⟨W0.heap.size + 2, 0, none⟩ = some (.func (.func 36) #[] #[.pointer (some ⟨W0.heap.size + 1, 0, none⟩), .pointer (some ⟨bk, 0, none⟩), .pointer (some ⟨W0.heap.size + 2, 0, none⟩), .pointer (some ⟨W0.heap.size, 0, none⟩)]) := (cell_heap DW.out.fn 0).trans rfl
              have LK := KnAt.look (KN.out W2 DW.out.bw) (s := bs l[k].g) (by rw [bs_len]; unfold maxLen; omega)
              have ET : tl (bs l[k].g) = l[k].g := rfl
              rw [ET] at LK
              clear ET
              have RD := Lib.hid (fun h => RE.out.dir hlt h)
              have RL := Lib.hid (fun h h2 => RE.out.lack hlt h h2)
              have RM := Lib.hid (fun d h h2 h3 => RE.out.many (d := d) hlt h h2 h3)
              have RF := Lib.hid (fun d h h2 h3 => RE.out.file (d := d) hlt h h2 h3)
              have BT := Lib.hid (bs_three ahead l[k].n)
              have BA := Lib.hid (bs_append ahead l[k].n)
              have NX : Hid (∀ g a, a.length ≤ 49 * sk.dirs → g.length ≤ 1000000 → Keeps sk (goF bl f g a sk) ∧ ∀ x ∈ (goF bl f g a sk).2.out, x.p.size ≤ 49 * 1001) := Lib.hid fun g a h1 h2 => go_keeps bl f g a sk FJ.out.dirs FJ.out.len FJ.out.each h1
              have AL : Hid ((ahead ++ l[k].n ++ [47]).length ≤ 49 * sk.dirs) := Lib.hid (by
                have h1 := FJ.out.more
                have h2 := HAH.out
                simp only [List.length_append, List.length_singleton]
                rw [bs_len] at hnl
                omega)
              have PS : Hid ((bs (ahead ++ l[k].n)).size ≤ 49 * 1001) := Lib.hid (by
                have h1 := AL.out
                have h2 := FJ.out.dirs
                simp only [List.length_append, List.length_singleton] at h1
                rw [bs_len, List.length_append]
                omega)
              clear RX hblk RE D K FR EN
              cases hdir : l[k].dir
              · rw [hdir] at e1 d1 eW
                cases hfd : findB bl l[k].g with
                | none =>
                  rw [hfd] at LK
                  simp only [Option.getD_none, Option.isSome_none] at LK
                  have R2 := Lib.hid (RL.out hdir hfd)
                  clear RD RL RM RF hdir hfd IH NX
                  generalize l[k] = x at *
                  go_upto_region 12 with (fail)
                  rw [← eW]
                  clear eW
                  go_wp2_with (fail)
                  go_roundw
                  case rel => exact ⟨k + 1, 17, vk, sk, rfl, by go_num, by omega, DW, KW, FW, EW, Lib.hid fun h => absurd h (by decide), R2⟩
                  case measure => simp [intOf]; omega
                | some dat2 =>
                  rw [hfd] at LK
                  simp only [Option.getD_some, Option.isSome_some] at LK
                  obtain ⟨Ak, ck, rfl⟩ := dw_form DW.out.row
                  have c3 : W2.cell? ⟨W0.heap.size, 0, none⟩ = some (.slice Ak sk.out.length ck) := (cell_heap DW.out.out 0).trans rfl
                  by_cases h32 : 32 ≤ sk.out.length
                  · have q3 : (32 : Int) ≤ (sk.out.length : Int) := by omega
                    have R2 := Lib.hid (RM.out dat2 hdir hfd h32)
                    clear RD RL RM RF hdir hfd IH NX
                    generalize l[k] = x at *
                    go_upto_region 12 with (fail)
                    rw [← eW]
                    clear eW
                    go_wp2_with (fail)
                    go_roundw
                    case rel => exact ⟨k + 1, 15, _, sk, rfl, by go_num, by omega, DW, KW, FW, EW, Lib.hid fun h => absurd h (by decide), R2⟩
                    case measure => simp [intOf]; omega
                  · have q3 : ¬ (32 : Int) ≤ (sk.out.length : Int) := by omega
                    have hl32 : (sk.out.length : Int) ≤ 32 := by omega
                    have R2 := Lib.hid (RF.out dat2 hdir hfd h32)
                    have hds2 := find_size SZ.out hfd
                    have FI2 : Hid (FineS s.dirs ⟨sk.dirs, sk.out ++ [⟨bs (ahead ++ l[k].n), dat2⟩]⟩) := Lib.hid ⟨FJ.out.dirs, FJ.out.more, by show (sk.out ++ _).length ≤ 32; rw [List.length_append]; simp only [List.length_singleton]; omega, fun f hf => by
                      rcases List.mem_append.1 hf with hf | hf
                      · exact FJ.out.each f hf
                      · obtain rfl := List.mem_singleton.1 hf
                        exact PS.out⟩
                    clear RD RL RM RF hdir hfd IH NX
                    generalize l[k] = x at *
                    go_upto_region 12 with (fail)
                    rw [← eW]
                    clear eW
                    have hx2 := Lg.lt_heap DW.out.fn
                    have hzA : W2.heap.size < (W2.alloc (.cells #[.string (bs (ahead ++ x.n)), .string dat2] 75)).heap.size := by simp
                    have hbA : Below W2.heap.size W2 (W2.alloc (.cells #[.string (bs (ahead ++ x.n)), .string dat2] 75)) := (Below.refl _ _).alloc (Nat.le_refl _) _
                    go_wp2_with (at_builtin; rw [BA.out]; refine wpList_append_any _ rfl (.tmp 55) (.tmp 62) _ rfl (W0.heap.size + 3) 75 i0 _ 2 32 Tryz.underlying25 hi hz0 hz1 hz2 hzs (by omega) _ sk.out.length _ rfl (DW.out.row.alloc _) _ (some ⟨W2.heap.size, 0, none⟩) 1 1 [.string (bs (ahead ++ x.n)), .string dat2] rfl (reads2_one _ _ _ _ _ rfl) (fc_cell [⟨bs (ahead ++ x.n), dat2⟩]) (by simp only [maxLen]; omega) (by omega) (by simp; omega) ?_; intro v' w4 hown2 hg2 hat2; obtain ⟨A4, c4, rfl⟩ := dw_form hown2; have PT := Lib.hid (DW.out.put (f := ⟨bs (ahead ++ x.n), dat2⟩) hbA hzA hown2 hg2 hat2); have hd4 := (hg2.block W0.heap.size (by simp; omega) (fun e => by have := (DW.out.row.lt _ e.symm).1; omega)).trans ((hbA.block _ (by omega)).trans DW.out.out); have c4 := (cell_heap hd4 0).trans rfl; have f4 := frozen_heap hd4 0; clear hown2 hg2 hat2 hd4)
                    go_roundw
                    case rel => exact ⟨k + 1, 0, _, _, rfl, by go_num, by omega, Lib.hid PT.out.1, Lib.hid (KW.out.trans PT.out.2), Lib.hid (FW.out.keep PT.out.2), Lib.hid (farw_ens EW.out FW.out PT.out.2), Lib.hid fun _ => FI2.out, R2⟩
                    case measure => simp [intOf]; omega
              · rw [hdir] at e1 d1 eW
                have R2 := Lib.hid (RD.out hdir)
                have NY := Lib.hid (NX.out l[k].g (ahead ++ l[k].n ++ [47]) AL.out (by omega))
                have C := Lib.hid (IH.out l[k].g (ahead ++ l[k].n ++ [47]) sk W2 vk DW.out FJ.out AL.out (by omega))
                rw [← BT.out] at C
                clear RD RL RM RF hdir IH NX
                generalize goF bl f l[k].g (ahead ++ l[k].n ++ [47]) sk = r at *
                generalize l[k] = x at *
                cases hfd : findB bl x.g with
                | none =>
                  rw [hfd] at LK
                  simp only [Option.getD_none, Option.isSome_none] at LK
                  clear hfd
                  go_upto_region 12 with (fail)
                  rw [← eW]
                  clear eW
                  go_wp2_with (go_at_call 36; (with_reducible refine (C.out).mono ?_); rintro e w3 ⟨rfl, v3, D3, K3⟩)
                  go_roundw
                  case rel => exact ⟨k + 1, _, v3, r.2, rfl, by go_num, by omega, Lib.hid D3, Lib.hid (KW.out.trans K3), Lib.hid (FW.out.keep K3), Lib.hid (farw_ens EW.out FW.out K3), Lib.hid fun h => ⟨NY.out.1.most h, Nat.lt_of_lt_of_le FJ.out.more NY.out.1.dirs, NY.out.1.out, NY.out.2⟩, R2⟩
                  case measure => simp [intOf]; omega
                | some dat2 =>
                  rw [hfd] at LK
                  simp only [Option.getD_some, Option.isSome_some] at LK
                  clear hfd
                  go_upto_region 12 with (fail)
                  rw [← eW]
                  clear eW
                  go_wp2_with (go_at_call 36; (with_reducible refine (C.out).mono ?_); rintro e w3 ⟨rfl, v3, D3, K3⟩)
                  go_roundw
                  case rel => exact ⟨k + 1, _, v3, r.2, rfl, by go_num, by omega, Lib.hid D3, Lib.hid (KW.out.trans K3), Lib.hid (FW.out.keep K3), Lib.hid (farw_ens EW.out FW.out K3), Lib.hid fun h => ⟨NY.out.1.most h, Nat.lt_of_lt_of_le FJ.out.more NY.out.1.dirs, NY.out.1.out, NY.out.2⟩, R2⟩
                  case measure => simp [intOf]; omega
            · have q2 : (c == 0) = false := by simpa using hc
              have R := Lib.hid (RE.out.stop hc)
              clear RE FI IH
              go_wp2_with (fail)
              exact END.out _ _ _ R.out D.out K.out
          · have hkI : ¬ (k : Int) < (l.length : Int) := by omega
            have R : Hid (goF bl (f + 1) root ahead s = (c, sk)) := Lib.hid (by
              by_cases hc : c = 0
              · subst hc; exact RE.out.done (by omega)
              · exact RE.out.stop hc)
            clear RE FI IH
            go_wp2_with (fail)
            exact END.out _ _ _ R.out D.out K.out
end Go.Proofs.YtlndnpfjneeeeaaGreatDoor.Fs
