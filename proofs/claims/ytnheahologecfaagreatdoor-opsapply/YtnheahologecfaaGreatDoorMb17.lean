/- Joined by mkmerged.py: GrRCheck. -/
import Derived.Test.YtnheahologecfaaGreatDoorMb16
import Derived.Test.YtnheahologecfaaGreatDoorMb15
import Derived.Test.YtnheahologecfaaGreatDoorMb12
/- GrRCheck, what a claim needs of it (prune.py). -/
namespace Go.Proofs.YtnheahologecfaaGreatDoor.Gr
open Go.RowKit
open Lg (Strs tl)
set_option linter.unusedVariables false
set_option maxRecDepth 100000
def TgCap (w : World) (A : Option Addr) (l : List Tg) : Prop := ∀ ad, A = some ad → ∀ k, k < l.length →
  (∀ A' n c, w.cell? ((ad.add (k * 4)).add 2) = some (.slice A' n c) → n ≤ c) ∧ (∀ A' n c, w.cell? ((ad.add (k * 4)).add 3) = some (.slice A' n c) → n ≤ c)
theorem TgCap.at_ {w : World} {l : List Tg} {ad : Addr} (h : TgCap w (some ad) l) {V : World} (hb : Below w.heap.size w V) (had : ad.block < w.heap.size) {k : Nat} (hk : k < l.length) {Ad As : Option Addr} {ld cd ls cs : Nat}
    (h2 : V.cell? ((ad.add (k * 4)).add 2) = some (.slice Ad ld cd)) (h3 : V.cell? ((ad.add (k * 4)).add 3) = some (.slice As ls cs)) : ld ≤ cd ∧ ls ≤ cs := by
  have hc : ∀ j, V.cell? ((ad.add (k * 4)).add j) = w.cell? ((ad.add (k * 4)).add j) := fun j => hb.cell (by rw [block_of_add, block_of_add]; exact had)
  obtain ⟨g2, g3⟩ := h ad rfl k hk
  exact ⟨g2 _ _ _ ((hc 2).symm.trans h2), g3 _ _ _ ((hc 3).symm.trans h3)⟩
theorem nameF_cases (s : ByteArray) : nameF s = 0 ∨ nameF s = 14 := by
  unfold nameF Lg.nameE
  split <;> simp
theorem rparse_err (c : ByteArray) (W : World) :
    Calls Tryz.prog 118 #[.string c] W fun e w' => (∃ A n k, e = .returned (.tuple #[.slice A n k, .int .i64 (parseF c)])) ∧ Below W.heap.size W w' := by
  refine (Lg.rparse_any c W).mono ?_
  rintro e w' ⟨⟨A, n, k, h1, _, _⟩, hb⟩
  exact ⟨⟨A, n, k, h1⟩, hb⟩
theorem any_take {ss : List ByteArray} (h : ∀ s ∈ ss.take ss.length, pathF s = 0) : (ss.any fun s => decide (pathF s ≠ 0)) = false := by
  rw [List.take_length] at h
  rw [List.any_eq_false]
  intro x hx
  simp [h x hx]
theorem any_at {ss : List ByteArray} {q : Nat} (hq : q < ss.length) (h : pathF ss[q] ≠ 0) : (ss.any fun s => decide (pathF s ≠ 0)) = true := List.any_eq_true.2 ⟨_, List.getElem_mem hq, decide_eq_true h⟩
set_option maxHeartbeats 4000000 in
theorem rcheck_any (A : Option Addr) (l : List Tg) (c : Nat) (w : World) (hr : Tgs w A l) (hcap : TgCap w A l) (hl : l.length ≤ 1000) (hlc : l.length ≤ c) (hf : ∀ t ∈ l, Fits t) :
    Calls Tryz.prog 90 #[.slice A l.length c] w fun e w' => e = .returned (.int .i64 (checkF l)) ∧ Below w.heap.size w w' := by
  have HC := Lib.hid hcap
  have HR := Lib.hid hr
  have FT := Lib.hid hf
  by_cases h12 : 12 < l.length
  · have g : (12 : Int) < (l.length : Int) := by omega
    have F : Hid (checkF l = 15) := Lib.hid (if_pos h12)
    clear hcap hr hf h12
    go_enter Tryz.func90, Tryz.ntmps90
    go_wp2_with (fail)
    go_ret
    exact ⟨Lg.ret_int F.out, Below.refl _ _⟩
  have g12 : ¬ (12 : Int) < (l.length : Int) := by omega
  have HIT : Hid (∀ k, k < l.length → (∀ j, j < k → errF l j = 0) → errF l k ≠ 0 → checkF l = errF l k) := Lib.hid fun k hk h he => check_hit h12 hk h he
  clear hcap hr hf
  go_enter Tryz.func90, Tryz.ntmps90
  go_wp2_with (fail)
  go_loopw [3] (fun i wx => ∃ k : Nat, i = .int .i64 k ∧ k ≤ l.length ∧ (∀ j, j < k → errF l j = 0) ∧ Below w.heap.size w wx) (fun i _ => l.length - (intOf i).toNat)
  case atStart => exact ⟨0, rfl, by omega, fun j hj => by omega, Below.refl _ _⟩
  case round =>
    obtain ⟨k, rfl, hk, hz, hb⟩ := hrel
    have HZ := Lib.hid hz
    clear hz
    by_cases hlt : k < l.length
    · have hkI : (k : Int) < (l.length : Int) := by omega
      have hk0 : (0 : Int) ≤ (k : Int) := by omega
      have hkc : (k : Int) ≤ (c : Int) := by omega
      obtain ⟨ad, rfl, had, hcs⟩ := HR.out.below hb (by omega)
      obtain ⟨Ad, cd, As, cs, c0, c1, c2, c3, hd, hs⟩ := hcs k hlt
      have e1 : wr.cell? ⟨(ad.add (k * 4)).block, (ad.add (k * 4)).off + 1, none⟩ = some (.string l[k].c) := c1
      have e2 : wr.cell? ⟨(ad.add (k * 4)).block, (ad.add (k * 4)).off + 2, none⟩ = some (.slice Ad l[k].ds.length cd) := c2
      have e3 : wr.cell? ⟨(ad.add (k * 4)).block, (ad.add (k * 4)).off + 3, none⟩ = some (.slice As l[k].ss.length cs) := c3
      obtain ⟨wb, eW⟩ : ∃ wb, wb = wr.alloc (.cells #[.string l[k].n, .string l[k].c, .slice Ad l[k].ds.length cd, .slice As l[k].ss.length cs] 73) := ⟨_, rfl⟩
      have hbb : Below wr.heap.size wr wb := by rw [eW]; exact (Below.refl _ _).alloc (Nat.le_refl _) _
      have hbw : Below w.heap.size w wb := hb.trans (hbb.mono hb.size)
      have hblk : wb.heap[wr.heap.size]? = some (.cells #[.string l[k].n, .string l[k].c, .slice Ad l[k].ds.length cd, .slice As l[k].ss.length cs] 73 (0, 0)) := by rw [eW]; exact heap_alloc_new wr _
      have FK := FT.out _ (List.getElem_mem hlt)
      have PN : Hid (∀ V, Calls Tryz.prog 89 #[.string l[k].n] V fun e w' => e = .returned (.int .i64 (nameF l[k].n)) ∧ V = w') := Lib.hid fun V => Lg.rname_any l[k].n (by have := FK.n; omega) V
      have RP : Hid (∀ V, Calls Tryz.prog 118 #[.string l[k].c] V fun e w' => (∃ A n k', e = .returned (.tuple #[.slice A n k', .int .i64 (parseF l[k].c)])) ∧ Below V.heap.size V w') := Lib.hid fun V => rparse_err l[k].c V
      obtain ⟨hcd, hcs2⟩ := HC.out.at_ hb (by
        obtain ⟨ad', e, h, _⟩ := HR.out (by omega)
        injection e with e; subst e; exact h) hlt c2 c3
      have SD : Hid (∀ V, Below wb.heap.size wb V → Strs V Ad l[k].ds) := Lib.hid fun V hV => (hd.below hbb).below hV
      have SS : Hid (∀ V, Below wb.heap.size wb V → Strs V As l[k].ss) := Lib.hid fun V hV => (hs.below hbb).below hV
      have TD : Hid (∀ V, Below wb.heap.size wb V → Calls Tryz.prog 145 #[.slice Ad l[k].ds.length cd] V fun e w' => e = .returned (.bool (dup l[k].ds)) ∧ Drew V w') := Lib.hid fun V hV => rtwice_any Ad l[k].ds cd V (SD.out V hV) (by have := FK.dl; omega) hcd
      have TS : Hid (∀ V, Below wb.heap.size wb V → Calls Tryz.prog 145 #[.slice As l[k].ss.length cs] V fun e w' => e = .returned (.bool (dup l[k].ss)) ∧ Drew V w') := Lib.hid fun V hV => rtwice_any As l[k].ss cs V (SS.out V hV) (by have := FK.sl; omega) hcs2
      have PT : Hid (∀ s ∈ l[k].ss, ∀ V, Calls Tryz.prog 113 #[.string s] V fun e w' => e = .returned (.int .i64 (pathF s)) ∧ V = w') := Lib.hid fun s hs V => Lg.rpath_any s (by have := FK.s s hs; omega) V
      have hdl := FK.dl
      have hsl := FK.sl
      have FB : Hid (∀ b, isT (l.take k) l[k].n = b → ∀ V, Below wb.heap.size wb V → Calls Tryz.prog 91 #[.slice (some ad) k c, .string l[k].n] V (FindB (l.take k) l[k].n b w V)) := Lib.hid fun b hb2 V hV => by
        have := rfindB_any (some ad) (l.take k) c l[k].n w V (HR.out.take k) (hbw.trans (hV.mono hbw.size)) (by simp; omega) hb2
        rw [List.length_take, Nat.min_eq_left (by omega)] at this
        exact this
      have B4 : Hid (∀ V, Below wb.heap.size wb V → V.heap[wr.heap.size]? = some (.cells #[.string l[k].n, .string l[k].c, .slice Ad l[k].ds.length cd, .slice As l[k].ss.length cs] 73 (0, 0))) := Lib.hid fun V hV => (hV.block _ (Lg.lt_heap hblk)).trans hblk
      have EN := Lib.hid (err_name hlt)
      have ET := Lib.hid (err_twice hlt)
      have EA := Lib.hid (err_alone hlt)
      have N14 := nameF_cases l[k].n
      have F1 := Lib.hid (alone_parse (t := l[k]))
      have F2 := Lib.hid (alone_big (t := l[k]))
      have F3 := Lib.hid (alone_dup (t := l[k]))
      have F4 := Lib.hid (alone_last (t := l[k]))
      have HK := Lib.hid (HIT.out k hlt HZ.out)
      have NX := Lib.hid (upto_err HZ.out)
      have HBW := Lib.hid hbw
      have hltb := Lg.lt_heap hblk
      clear hcs c1 c2 c3 hd hs hbb hbw hblk FK hcd hcs2
      generalize errF l k = E at *
      generalize hT : isT (l.take k) l[k].n = T at *
      generalize l[k] = t at *
      generalize hN : nameF t.n = N at *
      generalize hA : alone pathF parseF t = a at *
      generalize hP : parseF t.c = p at *
      generalize hq1 : dup t.ds = q1 at *
      generalize hq2 : dup t.ss = q2 at *
      clear hN hA hP hq1 hq2
      by_cases hn : N = 0
      · subst hn
        clear N14
        have FT2 := Lib.hid (FB.out T rfl)
        have EA2 : Hid (T = false → E = a) := Lib.hid (EA.out rfl)
        have ET2 : Hid (T = true → E = 16) := Lib.hid (ET.out rfl)
        clear EA ET EN
        have b0 := Lg.cell_at (B4.out wb (Below.refl _ _)) 0
        have hneb : wr.heap.size ≠ wb.heap.size := by omega
        have hneb' : wb.heap.size ≠ wr.heap.size := by omega
        go_upto_region 9 with (go_at_call 89; (with_reducible refine (PN.out _).mono ?_); rintro e w' ⟨rfl, rfl⟩)
        rw [← eW]
        clear eW
        go_cut [5, 6] from 17 to 81 (fun v5 v6 wx => v6 = .bool T ∧ Below wb.heap.size wb wx)
        case first =>
          go_region_held3 (fun W => W.cell? ⟨wr.heap.size, 0, none⟩ = some (.string t.n)) (go_keep) (first
            | (go_at_call 91; (with_reducible refine (FT2.out _ (Below.refl _ _).drew).mono ?_); rintro e W2 ⟨⟨t2, Ad2, As2, cd2, cs2, rfl, ht2, hd2, hs2⟩, hb2⟩; clear ht2 hd2 hs2; have q2 := Lg.cell_at (B4.out W2 ((Below.refl _ _).drew.trans hb2)) 0; have hz2 : wb.heap.size ≤ W2.heap.size := hb2.size; have hne2 : wr.heap.size ≠ W2.heap.size := by omega)
            | (go_at_call 91; (with_reducible refine (FT2.out _ ((Below.refl _ _).alloc (Nat.le_refl _) _).drew).mono ?_); rintro e W2 ⟨⟨t2, Ad2, As2, cd2, cs2, rfl, ht2, hd2, hs2⟩, hb2⟩; clear ht2 hd2 hs2; have hbA : Below wb.heap.size wb W2 := ((Below.refl _ _).alloc (Nat.le_refl _) _).drew.trans (hb2.mono (by simp)); have q2 := Lg.cell_at (B4.out W2 hbA) 0; have hzz : W2.heap[wb.heap.size]? = some (.cells #[.string ⟨#[]⟩, .string ⟨#[]⟩, .slice none 0 0, .slice none 0 0] 73 (0, 0)) := (hb2.block _ (by simp)).trans (heap_alloc_new wb _); obtain ⟨z0, z1, z2, z3, y0, y1, y2, y3⟩ := Lg.four hzz; clear hzz))
          all_goals
            (try go_wp2_with (fail))
            go_meet
            first
              | exact ⟨rfl, (((Below.refl _ _).drew.trans hb2).alloc hz2 _)⟩
              | exact ⟨rfl, Lg.set4_below hbA (Nat.le_refl _) _ _ _ _⟩
        case rest =>
          obtain ⟨rfl, hbc⟩ := hcut
          obtain ⟨x0, x1, x2, x3, _, _, _, _⟩ := Lg.four (B4.out wc hbc)
          have HBC := Lib.hid (HBW.out.trans (hbc.mono HBW.out.size))
          have BC := Lib.hid hbc
          have BXC : Hid (∀ V, Below wc.heap.size wc V → V.cell? ⟨wr.heap.size, 2, none⟩ = some (.slice Ad t.ds.length cd) ∧ V.cell? ⟨wr.heap.size, 3, none⟩ = some (.slice As t.ss.length cs)) := Lib.hid fun V hV => by
            obtain ⟨_, _, c2, c3, _⟩ := Lg.four (B4.out V (hbc.trans (hV.mono hbc.size)))
            exact ⟨c2, c3⟩
          have RC := Lib.hid (RP.out wc)
          have BTR : Hid (∀ V, Below wc.heap.size wc V → Below wb.heap.size wb V) := Lib.hid fun V hV => hbc.trans (hV.mono hbc.size)
          have BW2 : Hid (∀ V, Below wc.heap.size wc V → Below w.heap.size w V) := Lib.hid fun V hV => HBC.out.trans (hV.mono HBC.out.size)
          clear b0 hneb hneb' e1 e2 e3 c0 hbc
          cases T
          · have G1 := Lib.hid (EA2.out rfl)
            by_cases hp : p = 0
            · subst hp
              have F2' : Hid (12 < t.ds.length ∨ 32 < t.ss.length → a = 15) := Lib.hid (F2.out rfl)
              have F3' : Hid (¬ (12 < t.ds.length ∨ 32 < t.ss.length) → q1 = true ∨ q2 = true → a = 16) := Lib.hid (F3.out rfl)
              have F4' : Hid (¬ (12 < t.ds.length ∨ 32 < t.ss.length) → ¬ (q1 = true ∨ q2 = true) → a = if (t.ss.any fun s => decide (pathF s ≠ 0)) = true then 13 else 0) := Lib.hid (F4.out rfl)
              clear F1 F2 F3 F4 EA2 ET2
              by_cases h2 : 12 < t.ds.length ∨ 32 < t.ss.length
              · have F5 := Lib.hid (F2'.out h2)
                have F := Lib.hid (HK.out (by rw [G1.out, F5.out]; decide))
                clear F2' F3' F4' HK NX
                rcases (show 12 < t.ds.length ∨ (¬ 12 < t.ds.length ∧ 32 < t.ss.length) by omega) with h3 | ⟨h3, h4⟩
                · have g1 : (12 : Int) < (t.ds.length : Int) := by omega
                  clear h2 h3
                  go_wp2_with (go_at_call 118; (with_reducible refine (RC.out).mono ?_); rintro e w2 ⟨⟨A2, n2, k2, rfl⟩, hb2⟩; obtain ⟨b2, b3⟩ := BXC.out _ hb2)
                  go_ret
                  exact ⟨Lg.ret_int (by rw [F.out, G1.out, F5.out]), BW2.out _ hb2⟩
                · have g1 : ¬ (12 : Int) < (t.ds.length : Int) := by omega
                  have g2 : (32 : Int) < (t.ss.length : Int) := by omega
                  clear h2 h3 h4
                  go_wp2_with (go_at_call 118; (with_reducible refine (RC.out).mono ?_); rintro e w2 ⟨⟨A2, n2, k2, rfl⟩, hb2⟩; obtain ⟨b2, b3⟩ := BXC.out _ hb2)
                  go_ret
                  exact ⟨Lg.ret_int (by rw [F.out, G1.out, F5.out]), BW2.out _ hb2⟩
              · have g1 : ¬ (12 : Int) < (t.ds.length : Int) := by omega
                have g2 : ¬ (32 : Int) < (t.ss.length : Int) := by omega
                have F6 := Lib.hid (F3'.out h2)
                have F7 := Lib.hid (F4'.out h2)
                clear F2' F3' F4' h2
                cases q1
                · cases q2
                  · have F8 : Hid (a = if (t.ss.any fun s => decide (pathF s ≠ 0)) = true then 13 else 0) := Lib.hid (F7.out (by simp))
                    clear F6 F7
                    go_wp2_with (first
                      | (go_at_call 118; (with_reducible refine (RC.out).mono ?_); rintro e w2 ⟨⟨A2, n2, k2, rfl⟩, hb2⟩; obtain ⟨b2, b3⟩ := BXC.out _ hb2; have T2 := Lib.hid (TD.out _ (BTR.out _ hb2)))
                      | (go_at_call 145; (with_reducible refine (T2.out).mono ?_); rintro e w3 ⟨rfl, hd3⟩; have hb3' := hb2.trans (hd3.below.mono hb2.size); obtain ⟨b4, b5⟩ := BXC.out _ hb3'; have T3 := Lib.hid (TS.out _ (BTR.out _ hb3')); clear T2)
                      | (go_at_call 145; (with_reducible refine (T3.out).mono ?_); rintro e w4 ⟨rfl, hd4⟩; have hb4' := hb3'.trans (hd4.below.mono hb3'.size); obtain ⟨b6, b7⟩ := BXC.out _ hb4'))
                    go_loop [9] (fun i => ∃ q : Nat, i = .int .i64 q ∧ q ≤ t.ss.length ∧ ∀ s ∈ t.ss.take q, pathF s = 0) (fun i => t.ss.length - (intOf i).toNat)
                    case atStart => exact ⟨0, rfl, by omega, by simp⟩
                    case round =>
                      obtain ⟨q, rfl, hq, hpq⟩ := hrel
                      have HP := Lib.hid hpq
                      clear hpq
                      by_cases hqt : q < t.ss.length
                      · have hqI : (q : Int) < (t.ss.length : Int) := by omega
                        obtain ⟨bd, rfl, _, hc⟩ := (SS.out _ (BTR.out _ hb4')).at_ hqt
                        have PQ := Lib.hid (PT.out t.ss[q] (List.getElem_mem hqt) w4)
                        have AT := Lib.hid (any_at hqt)
                        have TN := Lib.hid (take_mem (l := []) HP.out hqt)
                        generalize t.ss[q] = s at *
                        by_cases hs : pathF s = 0
                        · have F := Lib.hid (TN.out hs)
                          generalize pathF s = z at *
                          subst hs
                          go_wp2_with (go_at_call 113; (with_reducible refine (PQ.out).mono ?_); rintro e w' ⟨rfl, rfl⟩)
                          go_round
                          case rel => exact ⟨q + 1, by go_num, by omega, F.out⟩
                          case measure => simp [intOf]; omega
                        · have F5 := Lib.hid (AT.out hs)
                          have F9 : Hid (a = 13) := Lib.hid (by rw [F8.out, if_pos F5.out])
                          have F := Lib.hid (HK.out (by rw [G1.out, F9.out]; decide))
                          have gz : (pathF s != 0) = true := by simpa using hs
                          clear hs TN AT
                          go_wp2_with (go_at_call 113; (with_reducible refine (PQ.out).mono ?_); rintro e w' ⟨rfl, rfl⟩)
                          go_ret
                          exact ⟨Lg.ret_int (by rw [F.out, G1.out, F9.out]), BW2.out _ hb4'⟩
                      · obtain rfl : q = t.ss.length := by omega
                        have F9 : Hid (E = 0) := Lib.hid (by rw [G1.out, F8.out, any_take HP.out]; rfl)
                        have F := Lib.hid (NX.out F9.out)
                        clear NX HK
                        go_wp2_with (fail)
                        go_roundw
                        case rel => exact ⟨k + 1, by go_num, by omega, F.out, BW2.out _ hb4'⟩
                        case measure => simp [intOf]; omega
                  · have F5 := Lib.hid (F6.out (.inr rfl))
                    have F := Lib.hid (HK.out (by rw [G1.out, F5.out]; decide))
                    clear F6 F7 NX HK
                    go_wp2_with (first
                      | (go_at_call 118; (with_reducible refine (RC.out).mono ?_); rintro e w2 ⟨⟨A2, n2, k2, rfl⟩, hb2⟩; obtain ⟨b2, b3⟩ := BXC.out _ hb2; have T2 := Lib.hid (TD.out _ (BTR.out _ hb2)))
                      | (go_at_call 145; (with_reducible refine (T2.out).mono ?_); rintro e w3 ⟨rfl, hd3⟩; have hb3' := hb2.trans (hd3.below.mono hb2.size); obtain ⟨b4, b5⟩ := BXC.out _ hb3'; have T3 := Lib.hid (TS.out _ (BTR.out _ hb3')); clear T2)
                      | (go_at_call 145; (with_reducible refine (T3.out).mono ?_); rintro e w4 ⟨rfl, hd4⟩; have hb4' := hb3'.trans (hd4.below.mono hb3'.size)))
                    go_ret
                    exact ⟨Lg.ret_int (by rw [F.out, G1.out, F5.out]), BW2.out _ hb4'⟩
                · have F5 := Lib.hid (F6.out (.inl rfl))
                  have F := Lib.hid (HK.out (by rw [G1.out, F5.out]; decide))
                  clear F6 F7 NX HK
                  go_wp2_with (first
                    | (go_at_call 118; (with_reducible refine (RC.out).mono ?_); rintro e w2 ⟨⟨A2, n2, k2, rfl⟩, hb2⟩; obtain ⟨b2, b3⟩ := BXC.out _ hb2; have T2 := Lib.hid (TD.out _ (BTR.out _ hb2)))
                    | (go_at_call 145; (with_reducible refine (T2.out).mono ?_); rintro e w3 ⟨rfl, hd3⟩; have hb3' := hb2.trans (hd3.below.mono hb2.size)))
                  go_ret
                  exact ⟨Lg.ret_int (by rw [F.out, G1.out, F5.out]), BW2.out _ hb3'⟩
            · have g1 : (p != 0) = true := by simpa using hp
              have F5 := Lib.hid (F1.out hp)
              have F := Lib.hid (HK.out (by rw [G1.out, F5.out]; exact hp))
              clear F1 F2 F3 F4 NX HK EA2 ET2 hp
              go_wp2_with (go_at_call 118; (with_reducible refine (RC.out).mono ?_); rintro e w2 ⟨⟨A2, n2, k2, rfl⟩, hb2⟩)
              go_ret
              exact ⟨Lg.ret_int (by rw [F.out, G1.out, F5.out]), BW2.out _ hb2⟩
          · have F1 := Lib.hid (ET2.out rfl)
            have F := Lib.hid (HK.out (by rw [F1.out]; decide))
            clear NX HK
            go_wp2_with (fail)
            go_ret
            exact ⟨Lg.ret_int (by rw [F.out, F1.out]), HBC.out⟩
      · obtain rfl : N = 14 := by rcases N14 with h | h <;> first | exact absurd h hn | exact h
        have G1 := Lib.hid (EN.out hn)
        have F := Lib.hid (HK.out (by rw [G1.out]; exact hn))
        clear hn N14 EN ET EA
        go_wp2_with (go_at_call 89; (with_reducible refine (PN.out _).mono ?_); rintro e w' ⟨rfl, rfl⟩)
        go_ret
        exact ⟨Lg.ret_int (by rw [F.out, G1.out]), by rw [← eW]; exact HBW.out⟩
    · obtain rfl : k = l.length := by omega
      have DEP : Hid (∀ t ∈ l, ∀ d ∈ t.ds, isT l d = false → checkF l = 30) := Lib.hid fun t ht d hd h => check_dep h12 HZ.out ht hd h
      have CE : Hid (DepsTo l l.length → checkF l = if (order l).length < l.length then 31 else 0) := Lib.hid fun h => check_end h12 HZ.out h.all
      clear HIT HZ hk
      go_wp2_with (fail)
      go_loopw [10] (fun i wx => ∃ k : Nat, i = .int .i64 k ∧ k ≤ l.length ∧ DepsTo l k ∧ Below w.heap.size w wx) (fun i _ => l.length - (intOf i).toNat)
      case atStart => exact ⟨0, rfl, by omega, DepsTo.zero _, hb⟩
      case round =>
        obtain ⟨k, rfl, hk, hdt, hb⟩ := hrel
        have HD := Lib.hid hdt
        clear hdt
        by_cases hlt : k < l.length
        · have hkI : (k : Int) < (l.length : Int) := by omega
          obtain ⟨ad, rfl, had, hcs⟩ := HR.out.below hb (by omega)
          obtain ⟨Ad, cd, As, cs, c0, c1, c2, c3, hd, hs⟩ := hcs k hlt
          have had2 : (ad.add (k * 4)).block < wr.heap.size := by rw [block_of_add]; exact had
          have C2 : Hid (∀ V, Below wr.heap.size wr V → V.cell? ⟨(ad.add (k * 4)).block, (ad.add (k * 4)).off + 2, none⟩ = some (.slice Ad l[k].ds.length cd)) := Lib.hid fun V hV => (hV.cell (p := ⟨(ad.add (k * 4)).block, (ad.add (k * 4)).off + 2, none⟩) had2).trans c2
          clear had2
          have SD : Hid (∀ V, Below wr.heap.size wr V → Strs V Ad l[k].ds) := Lib.hid fun V hV => hd.below hV
          have NX := Lib.hid (HD.out.next hlt)
          have DM : Hid (∀ d ∈ l[k].ds, isT l d = false → checkF l = 30) := Lib.hid (DEP.out l[k] (List.getElem_mem hlt))
          have hdl := (FT.out _ (List.getElem_mem hlt)).dl
          clear hcs c1 c2 c3 hd hs
          generalize l[k] = t at *
          obtain ⟨wo, rfl⟩ : ∃ wo : World, wo = wr := ⟨_, rfl⟩
          go_wp2_with (fail)
          go_loopw [11] (fun i wx => ∃ q : Nat, i = .int .i64 q ∧ q ≤ t.ds.length ∧ (∀ d ∈ t.ds.take q, isT l d = true) ∧ Below wo.heap.size wo wx) (fun i _ => t.ds.length - (intOf i).toNat)
          case atStart => exact ⟨0, rfl, by omega, by simp, Below.refl _ _⟩
          case round =>
            obtain ⟨q, rfl, hq, htq, hbq⟩ := hrel
            have HQ := Lib.hid htq
            have c2q := C2.out _ hbq
            clear htq
            by_cases hqt : q < t.ds.length
            · have hqI : (q : Int) < (t.ds.length : Int) := by omega
              obtain ⟨bd, rfl, _, hc⟩ := (SD.out _ hbq).at_ hqt
              have DQ := Lib.hid (DM.out t.ds[q] (List.getElem_mem hqt))
              have TN := Lib.hid (take_mem (l := []) HQ.out hqt)
              have hbw := hb.trans (hbq.mono hb.size)
              generalize t.ds[q] = d at *
              cases hT : isT l d
              · have F2 := Lib.hid (rfindB_any (some ad) l c d w wr HR.out hbw (by omega) hT)
                have F := Lib.hid (DQ.out hT)
                clear hT
                go_wp2_with (go_at_call 91; (with_reducible refine (F2.out).mono ?_); rintro e w2 ⟨⟨t2, Ad2, As2, cd2, cs2, rfl, ht2, hd2, hs2⟩, hb2⟩; clear ht2 hd2 hs2)
                go_ret
                exact ⟨Lg.ret_int F.out, (hbw.trans (hb2.mono hbw.size)).alloc (by have := hb2.size; have := hbw.size; omega) _⟩
              · have F2 := Lib.hid (rfindB_any (some ad) l c d w wr HR.out hbw (by omega) hT)
                have F := Lib.hid (TN.out hT)
                clear hT
                go_wp2_with (go_at_call 91; (with_reducible refine (F2.out).mono ?_); rintro e w2 ⟨⟨t2, Ad2, As2, cd2, cs2, rfl, ht2, hd2, hs2⟩, hb2⟩; clear ht2 hd2 hs2)
                go_roundw
                case rel => exact ⟨q + 1, by go_num, by omega, F.out, (hbq.trans (hb2.mono hbq.size)).alloc (by have := hb2.size; have := hbq.size; omega) _⟩
                case measure => simp [intOf]; omega
            · obtain rfl : q = t.ds.length := by omega
              have F := Lib.hid (NX.out (by have := HQ.out; rwa [List.take_length] at this))
              go_wp2_with (fail)
              go_roundw
              case rel => exact ⟨k + 1, by go_num, by omega, F.out, hb.trans (hbq.mono hb.size)⟩
              case measure => simp [intOf]; omega
        · obtain rfl : k = l.length := by omega
          have SO := Lib.hid (order_any A l c wr (HR.out.below hb) hl FT.out)
          have hol := order_le l
          by_cases ho : (order l).length < l.length
          · have g : (((order l).length : Int) != (l.length : Int)) = true := by rw [bne_iff_ne]; omega
            have F : Hid (checkF l = 31) := Lib.hid (by rw [CE.out HD.out, if_pos ho])
            clear ho CE
            go_wp2_with (go_at_call 146; (with_reducible refine (SO.out).mono ?_); rintro e w4 ⟨⟨A4, c4, rfl, _, _⟩, hb4⟩)
            go_ret
            exact ⟨Lg.ret_int F.out, hb.trans (hb4.mono hb.size)⟩
          · have g : (((order l).length : Int) != (l.length : Int)) = false := by rw [bne_eq_false_iff_eq]; omega
            have F : Hid (checkF l = 0) := Lib.hid (by rw [CE.out HD.out, if_neg ho])
            clear ho CE
            go_wp2_with (go_at_call 146; (with_reducible refine (SO.out).mono ?_); rintro e w4 ⟨⟨A4, c4, rfl, _, _⟩, hb4⟩)
            go_ret
            exact ⟨Lg.ret_int F.out, hb.trans (hb4.mono hb.size)⟩
end Go.Proofs.YtnheahologecfaaGreatDoor.Gr
