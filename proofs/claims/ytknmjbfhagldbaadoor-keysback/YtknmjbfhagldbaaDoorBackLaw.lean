/- What is laid is read again, and what is read is laid as the same bytes; and the walk of KeysBack. -/
import Derived.Test.YtknmjbfhagldbaaDoorGraphsLaw
import Derived.Test.YtknmjbfhagldbaaDoorPkBack
namespace Go.Proofs.YtknmjbfhagldbaaDoor
open Go.RowKit
set_option linter.unusedVariables false
set_option maxRecDepth 100000
def laysT (t : TgL) : List UInt8 := targetB t.n t.c t.ds t.ss
def laysF (f : List UInt8 × List UInt8) : List UInt8 := fileB f.1 f.2
def unTg (t : Tg) : TgL := ⟨tl t.n, tl t.c, t.ds.map tl, t.ss.map tl⟩
def unFl (f : Fl) : List UInt8 × List UInt8 := (tl f.p, tl f.d)
theorem map_bt : ∀ l : List ByteArray, (l.map tl).map bs = l
  | [] => rfl
  | a :: l => by rw [List.map_cons, List.map_cons, map_bt l]; rfl
theorem map_tb : ∀ l : List (List UInt8), (l.map bs).map tl = l
  | [] => rfl
  | a :: l => by rw [List.map_cons, List.map_cons, map_tb l]; rfl
theorem mk_un (t : Tg) : mkTg (unTg t) = t := by
  obtain ⟨n, c, ds, ss⟩ := t
  unfold mkTg unTg
  rw [map_bt, map_bt]
  rfl
theorem b_mk (t : TgL) : (mkTg t).b = laysT t := by
  unfold mkTg Tg.b laysT
  simp only
  rw [map_tb, map_tb]
  rfl
theorem map_un (l : List Tg) : (l.map unTg).map mkTg = l := by
  rw [List.map_map]
  exact (List.map_congr_left (fun t _ => mk_un t)).trans (List.map_id l)
theorem map_unF (l : List Fl) : (l.map unFl).map mkFl = l := by
  rw [List.map_map]
  exact (List.map_congr_left (fun t _ => (show mkFl (unFl t) = t from rfl))).trans (List.map_id l)
theorem back_T {t : TgL} (hn : t.n.length < 10000000) (hc : t.c.length < 10000000) (hd : (t.ds.flatMap Pk.text).length < 10000000) (hs : (t.ss.flatMap Pk.text).length < 10000000) : takesT ⟨laysT t, 0⟩ = (t, ⟨[], 0⟩) := by
  have e0 : laysT t = Pk.text t.n ++ (Pk.text t.c ++ (Pk.list t.ds ++ Pk.list t.ss)) := by simp [laysT, targetB]
  simp only [takesT, e0, Pk.text_read hn, Pk.text_read hc, Pk.list_read hd, Pk.list_read' hs]
theorem back_F {f : List UInt8 × List UInt8} (hp : f.1.length < 10000000) (hd : f.2.length < 10000000) : takesF ⟨laysF f, 0⟩ = (f, ⟨[], 0⟩) := by
  simp only [takesF, laysF, fileB, Pk.text_read hp, Pk.text_read' hd]
theorem same_T (s : List UInt8) (h : (takesT ⟨s, 0⟩).2.fin = 0) : s = laysT (takesT ⟨s, 0⟩).1 := by
  obtain ⟨f1, f2⟩ := Pk.fin_zero h
  obtain ⟨g1, g2⟩ := Pk.list_bad (Pk.Rd.text ⟨s, 0⟩).2.text.2.list.2 f1
  obtain ⟨h1, h2⟩ := Pk.list_bad (Pk.Rd.text ⟨s, 0⟩).2.text.2 g1
  obtain ⟨i1, i2⟩ := Pk.text_bad (Pk.Rd.text ⟨s, 0⟩).2 h1
  obtain ⟨_, j2⟩ := Pk.text_bad ⟨s, 0⟩ i1
  have f3 : (Pk.Rd.text ⟨s, 0⟩).2.text.2.list.2.list.2.rest = [] := f2
  refine j2.trans ?_
  rw [i2, h2, g2, f3]
  simp [laysT, targetB, takesT]
theorem same_F (s : List UInt8) (h : (takesF ⟨s, 0⟩).2.fin = 0) : s = laysF (takesF ⟨s, 0⟩).1 := by
  obtain ⟨f1, f2⟩ := Pk.fin_zero h
  obtain ⟨i1, i2⟩ := Pk.text_bad (Pk.Rd.text ⟨s, 0⟩).2 f1
  obtain ⟨_, j2⟩ := Pk.text_bad ⟨s, 0⟩ i1
  have f3 : (Pk.Rd.text ⟨s, 0⟩).2.text.2.rest = [] := f2
  refine j2.trans ?_
  rw [i2, f3]
  simp [laysF, fileB, takesF]
theorem graph_back (l : List Tg) (h1 : l.length ≤ 20) (h2 : ∀ t ∈ l, t.Ok) : Pk.all takesT (Pk.list (l.map Tg.b)) = (l.map unTg, 0) := by
  have e : l.map Tg.b = (l.map unTg).map laysT := by rw [List.map_map]; rfl
  have hf := Tg.flat_ok h1 h2
  rw [e] at hf ⊢
  refine Pk.all_back (fun x hx => ?_) (by omega)
  obtain ⟨t, ht, rfl⟩ := List.mem_map.1 hx
  have ok := h2 t ht
  have a := ok.n; have b := ok.c; have c := ok.ds_le; have d := ok.ss_le
  rw [Lib.size_eq] at a b
  exact back_T (show (tl t.n).length < _ from Nat.lt_of_le_of_lt a (by decide)) (show (tl t.c).length < _ from Nat.lt_of_le_of_lt b (by decide)) (show ((t.ds.map tl).flatMap Pk.text).length < _ by omega) (show ((t.ss.map tl).flatMap Pk.text).length < _ by omega)
theorem files_back (l : List Fl) (h1 : l.length ≤ 60) (h2 : ∀ t ∈ l, t.Ok) : Pk.all takesF (Pk.list (l.map Fl.b)) = (l.map unFl, 0) := by
  have e : l.map Fl.b = (l.map unFl).map laysF := by rw [List.map_map]; rfl
  have hf := Fl.flat_ok h1 h2
  rw [e] at hf ⊢
  refine Pk.all_back (fun x hx => ?_) (by omega)
  obtain ⟨t, ht, rfl⟩ := List.mem_map.1 hx
  have ok := h2 t ht
  have a := ok.p; have b := ok.d
  rw [Lib.size_eq] at a b
  exact back_F (show (tl t.p).length < _ from Nat.lt_of_le_of_lt a (by decide)) (show (tl t.d).length < _ from Nat.lt_of_le_of_lt b (by decide))
theorem graph_same {s : List UInt8} (h : (Pk.all takesT s).2 = 0) : s = Pk.list (((Pk.all takesT s).1.map mkTg).map Tg.b) := by
  have := Pk.all_same (lays := laysT) same_T (data := s) (l := (Pk.all takesT s).1) (by rw [← h])
  rw [List.map_map, show (Tg.b ∘ mkTg) = laysT from funext b_mk]
  exact this
theorem files_same {s : List UInt8} (h : (Pk.all takesF s).2 = 0) : s = Pk.list (((Pk.all takesF s).1.map mkFl).map Fl.b) := by
  have := Pk.all_same (lays := laysF) same_F (data := s) (l := (Pk.all takesF s).1) (by rw [← h])
  rw [List.map_map, show (Fl.b ∘ mkFl) = laysF from rfl]
  exact this
theorem flat_in {l : List (List UInt8)} {s : List UInt8} (h : s = Pk.list l) : (l.flatMap Pk.text).length ≤ s.length := by
  rw [h]
  exact text_len _
theorem list_len {l : List (List UInt8)} (h : (l.flatMap Pk.text).length ≤ 400000000) : (Pk.list l).length ≤ 500000000 := by
  show (Pk.text (l.flatMap Pk.text)).length ≤ _
  generalize l.flatMap Pk.text = f at *
  have := Pk.dec_len_le 8 f.length (by omega)
  unfold Pk.text
  simp only [List.length_append, List.length_cons, List.length_nil]
  omega
set_option maxHeartbeats 4000000 in
theorem backlaw_walk (A F : Option Addr) (l : List Tg) (fs : List Fl) (c d : Nat) (hl : l.length ≤ 9223372036854775807) (hz : ∀ t ∈ l, t.Fit) (hlf : fs.length ≤ 9223372036854775807) (hzf : ∀ f ∈ fs, f.Fit) (s : ByteArray) (hs : s.size ≤ maxLen) (w : World) (ht : Tab w) (hr : Tgs w w.heap.size A l) (hq : Fls w w.heap.size F fs) :
    Calls Tryd.prog 8 #[.slice A l.length c, .slice F fs.length d, .string s] w fun e w' => e = .returned (.bool true) ∧ Below w.heap.size w w' := by
  unfold maxLen at hs
  have FW : Hid (Calls Tryd.prog 10 #[.slice A l.length c, .slice F fs.length d] w (FewSays l fs w)) := Lib.hid (few_any A F l fs c d w hl hlf hr hq hz hzf)
  have hzz : ∀ t ∈ l, t.ds.length ≤ 9223372036854775807 ∧ t.ss.length ≤ 9223372036854775807 := fun t h => ⟨(hz t h).2.2.1, (hz t h).2.2.2⟩
  go_enter Tryd.func8, Tryd.ntmps8
  go_wp2_with (fail)
  refine (FW.out).mono ?_
  rintro e w' ⟨b, rfl, rfl, hb⟩
  cases b
  · clear hb hzz
    have hbx : Below w.heap.size w w := Below.refl _ _
    have htx := ht
    by_cases h5 : s.size ≤ 50000
    · have i1 : ¬ (50000 : Int) < (s.size : Int) := by omega
      have hsl : (tl s).length ≤ 50000 := by rw [← Lib.size_eq]; exact h5
      have R1 := Lib.hid (readGraph_any (tl s) (by omega))
      have R2 := Lib.hid (readFiles_any (tl s) (by omega))
      rw [bs_of] at R1 R2
      go_wp2_with (fail)
      refine (R1.out _).mono ?_
      rintro e u1 ⟨v1, xs1, rfl, ho1, htc1, hd1⟩
      obtain ⟨C1, m1, k1, rfl⟩ := own_form ho1
      obtain ⟨rfl, hg1⟩ := tgs_of_own ho1 htc1
      go_wp2_with (fail)
      refine (R2.out u1).mono ?_
      rintro e u2 ⟨v2, rfl, ho2, hd2⟩
      obtain ⟨C2, m2, k2, rfl⟩ := own_form ho2
      obtain ⟨rfl, hg2⟩ := fls_of_own ho2
      have hy1 := hbx.trans (hd1.mono hbx.size)
      have hy2 := hy1.trans (hd2.mono hy1.size)
      have hg1' := hg1.below hd2
      have hz2 := hd2.size
      have GG : Hid ((Pk.all takesT (tl s)).2 = 0 → ∀ W, Below u2.heap.size u2 W → Calls Tryd.prog 12 #[.slice C1 (Pk.all takesT (tl s)).1.length k1] W fun e w' => e = .returned (.string s) ∧ Below W.heap.size W w') := Lib.hid (fun h0 W hW => by
        have e1 := graph_same h0
        have e2 := flat_in e1
        have := kgraph_sz C1 ((Pk.all takesT (tl s)).1.map mkTg) k1 (by omega) W (ht.on (hy2.trans (hW.mono hy2.size))) (((hg1'.more hz2).below hW).more hW.size)
        rw [← e1, List.length_map, bs_of] at this
        exact this)
      have FF : Hid ((Pk.all takesF (tl s)).2 = 0 → ∀ W, Below u2.heap.size u2 W → Calls Tryd.prog 14 #[.slice C2 (Pk.all takesF (tl s)).1.length k2] W fun e w' => e = .returned (.string s) ∧ Below W.heap.size W w') := Lib.hid (fun h0 W hW => by
        have e1 := files_same h0
        have e2 := flat_in e1
        have := kfiles_sz C2 ((Pk.all takesF (tl s)).1.map mkFl) k2 (by omega) W (ht.on (hy2.trans (hW.mono hy2.size))) ((hg2.below hW).more hW.size)
        rw [← e1, List.length_map, bs_of] at this
        exact this)
      clear ho1 htc1 ho2 hg1 hg1' hg2
      generalize (Pk.all takesT (tl s)).1.length = nT at *
      generalize (Pk.all takesT (tl s)).2 = eT at *
      generalize (Pk.all takesF (tl s)).1.length = nF at *
      generalize (Pk.all takesF (tl s)).2 = eF at *
      by_cases hT : eT = 0
      · have GG1 := Lib.hid (GG.out hT)
        have n1 : ((eT : Int) == 0) = true := by simp; omega
        clear GG hT
        by_cases hF : eF = 0
        · have FF1 := Lib.hid (FF.out hF)
          have n2 : ((eF : Int) == 0) = true := by simp; omega
          clear FF hF
          go_wp2_with (first | (go_at_call 12; ((with_reducible refine (GG1.out _ (Below.refl _ _)).mono ?_); rintro e u3 ⟨rfl, hd3⟩; have hy3 := hy2.trans (hd3.mono hy2.size))) | (go_at_call 14; ((with_reducible refine (FF1.out _ hd3).mono ?_); rintro e u4 ⟨rfl, hd4⟩; have hy4 := hy3.trans (hd4.mono hy3.size); have hty := ht.on hy4)) | (go_at_call 11; ((with_reducible refine (awake_any _ hty).mono ?_); rintro e u5 ⟨rfl, hd5⟩)))
          go_ret
          exact ⟨rfl, hy4.trans (hd5.mono hy4.size)⟩
        · have n2 : ((eF : Int) == 0) = false := by simp; omega
          clear FF hF
          go_wp2_with (first | (go_at_call 12; ((with_reducible refine (GG1.out _ (Below.refl _ _)).mono ?_); rintro e u3 ⟨rfl, hd3⟩; have hy3 := hy2.trans (hd3.mono hy2.size); have hty := ht.on hy3)) | (go_at_call 11; ((with_reducible refine (awake_any _ hty).mono ?_); rintro e u5 ⟨rfl, hd5⟩)))
          go_ret
          exact ⟨rfl, hy3.trans (hd5.mono hy3.size)⟩
      · have n1 : ((eT : Int) == 0) = false := by simp; omega
        clear GG hT
        by_cases hF : eF = 0
        · have FF1 := Lib.hid (FF.out hF)
          have n2 : ((eF : Int) == 0) = true := by simp; omega
          clear FF hF
          go_wp2_with (first | (go_at_call 14; ((with_reducible refine (FF1.out _ (Below.refl _ _)).mono ?_); rintro e u4 ⟨rfl, hd4⟩; have hy4 := hy2.trans (hd4.mono hy2.size); have hty := ht.on hy4)) | (go_at_call 11; ((with_reducible refine (awake_any _ hty).mono ?_); rintro e u5 ⟨rfl, hd5⟩)))
          go_ret
          exact ⟨rfl, hy4.trans (hd5.mono hy4.size)⟩
        · have n2 : ((eF : Int) == 0) = false := by simp; omega
          have hty := ht.on hy2
          clear FF hF
          go_wp2_with (go_at_call 11; ((with_reducible refine (awake_any _ hty).mono ?_); rintro e u5 ⟨rfl, hd5⟩))
          go_ret
          exact ⟨rfl, hy2.trans (hd5.mono hy2.size)⟩
    · have i1 : (50000 : Int) < (s.size : Int) := by omega
      go_wp2_with (go_at_call 11; ((with_reducible refine (awake_any _ htx).mono ?_); rintro e w9 ⟨rfl, hb9⟩))
      go_ret
      exact ⟨rfl, hbx.trans (hb9.mono hbx.size)⟩
  · obtain ⟨h1, h2, h3, h4⟩ := hb rfl
    have GB := graph_back l h1 h2
    have FB := files_back fs h3 h4
    have hX0 := Tg.flat_ok h1 h2
    have hY0 := Fl.flat_ok h3 h4
    have hX : (Pk.list (l.map Tg.b)).length ≤ 500000000 := list_len (by omega)
    have hY : (Pk.list (fs.map Fl.b)).length ≤ 500000000 := list_len (by omega)
    have KG := Lib.hid (kgraph_any A l c h1 h2 w ht hr)
    have KF := Lib.hid (fun W (hW : Below w.heap.size w W) => kfiles_any F fs d h3 h4 W (ht.on hW) ((hq.below hW).more hW.size))
    have RG := Lib.hid (readGraph_any _ hX)
    have RF := Lib.hid (readFiles_any _ hY)
    unfold ReadTSays at RG
    unfold ReadFSays at RF
    rw [GB] at RG
    rw [FB] at RF
    clear hb GB FB hX0 hY0 hX hY h2 h4
    generalize Pk.list (l.map Tg.b) = X at *
    generalize Pk.list (fs.map Fl.b) = Y at *
    go_wp2_with (first | (go_at_call 12; ((with_reducible refine (KG.out).mono ?_); rintro e w1 ⟨rfl, hb1⟩)))
    refine (RG.out w1).mono ?_
    rintro e w2 ⟨v1, xs1, rfl, ho1, htc1, hb2⟩
    obtain ⟨A1, m1, c1, rfl⟩ := own_form ho1
    obtain ⟨rfl, hf1⟩ := tgs_of_own ho1 htc1
    rw [map_un] at hf1
    have hb12 := hb1.trans (hb2.mono hb1.size)
    clear ho1 htc1
    rw [List.length_map]
    go_wp2_with (first | (go_at_call 14; ((with_reducible refine (KF.out _ hb12).mono ?_); rintro e w3 ⟨rfl, hb3⟩)))
    refine (RF.out w3).mono ?_
    rintro e w4 ⟨v2, rfl, ho2, hb4⟩
    obtain ⟨A2, m2, c2, rfl⟩ := own_form ho2
    obtain ⟨rfl, hf2⟩ := fls_of_own ho2
    rw [map_unF] at hf2
    have hb13 := hb12.trans (hb3.mono hb12.size)
    have hb14 := hb13.trans (hb4.mono hb13.size)
    have hb34 := hb3.trans (hb4.mono hb3.size)
    clear ho2
    rw [List.length_map]
    have SG := Lib.hid (sameG_any A A1 l c c1 _ _ w4 hl hzz (hr.below hb14) (hf1.below hb34))
    have AK := Lib.hid (fun n => alike_any F A2 fs d c2 _ _ (w4.drewN n) (by omega) (hq.below (belowDN hb14 n)) (hf2.below (belowDN (Below.refl _ _) n)))
    clear hf1 hf2 hzz
    by_cases h5 : s.size ≤ 50000
    · have i1 : ¬ (50000 : Int) < (s.size : Int) := by omega
      have hsl : (tl s).length ≤ 50000 := by rw [← Lib.size_eq]; exact h5
      have R1 := Lib.hid (readGraph_any (tl s) (by omega))
      have R2 := Lib.hid (readFiles_any (tl s) (by omega))
      rw [bs_of] at R1 R2
      go_wp2_with (first | (go_at_call 21; ((with_reducible refine (SG.out).mono ?_); rintro e w5 ⟨rfl, n5, rfl⟩)) | (go_at_call 18; ((with_reducible refine (AK.out _).mono ?_); rintro e w6 ⟨rfl, hb6⟩; have hbx := (belowDN hb14 n5).trans (hb6.mono (belowDN hb14 n5).size); have htx := ht.on hbx)) | (fail))
      refine (R1.out _).mono ?_
      rintro e u1 ⟨v1, xs1, rfl, ho1, htc1, hd1⟩
      obtain ⟨C1, m1, k1, rfl⟩ := own_form ho1
      obtain ⟨rfl, hg1⟩ := tgs_of_own ho1 htc1
      go_wp2_with (fail)
      refine (R2.out u1).mono ?_
      rintro e u2 ⟨v2, rfl, ho2, hd2⟩
      obtain ⟨C2, m2, k2, rfl⟩ := own_form ho2
      obtain ⟨rfl, hg2⟩ := fls_of_own ho2
      have hy1 := hbx.trans (hd1.mono hbx.size)
      have hy2 := hy1.trans (hd2.mono hy1.size)
      have hg1' := hg1.below hd2
      have hz2 := hd2.size
      have GG : Hid ((Pk.all takesT (tl s)).2 = 0 → ∀ W, Below u2.heap.size u2 W → Calls Tryd.prog 12 #[.slice C1 (Pk.all takesT (tl s)).1.length k1] W fun e w' => e = .returned (.string s) ∧ Below W.heap.size W w') := Lib.hid (fun h0 W hW => by
        have e1 := graph_same h0
        have e2 := flat_in e1
        have := kgraph_sz C1 ((Pk.all takesT (tl s)).1.map mkTg) k1 (by omega) W (ht.on (hy2.trans (hW.mono hy2.size))) (((hg1'.more hz2).below hW).more hW.size)
        rw [← e1, List.length_map, bs_of] at this
        exact this)
      have FF : Hid ((Pk.all takesF (tl s)).2 = 0 → ∀ W, Below u2.heap.size u2 W → Calls Tryd.prog 14 #[.slice C2 (Pk.all takesF (tl s)).1.length k2] W fun e w' => e = .returned (.string s) ∧ Below W.heap.size W w') := Lib.hid (fun h0 W hW => by
        have e1 := files_same h0
        have e2 := flat_in e1
        have := kfiles_sz C2 ((Pk.all takesF (tl s)).1.map mkFl) k2 (by omega) W (ht.on (hy2.trans (hW.mono hy2.size))) ((hg2.below hW).more hW.size)
        rw [← e1, List.length_map, bs_of] at this
        exact this)
      clear ho1 htc1 ho2 hg1 hg1' hg2
      generalize (Pk.all takesT (tl s)).1.length = nT at *
      generalize (Pk.all takesT (tl s)).2 = eT at *
      generalize (Pk.all takesF (tl s)).1.length = nF at *
      generalize (Pk.all takesF (tl s)).2 = eF at *
      by_cases hT : eT = 0
      · have GG1 := Lib.hid (GG.out hT)
        have n1 : ((eT : Int) == 0) = true := by simp; omega
        clear GG hT
        by_cases hF : eF = 0
        · have FF1 := Lib.hid (FF.out hF)
          have n2 : ((eF : Int) == 0) = true := by simp; omega
          clear FF hF
          go_wp2_with (first | (go_at_call 12; ((with_reducible refine (GG1.out _ (Below.refl _ _)).mono ?_); rintro e u3 ⟨rfl, hd3⟩; have hy3 := hy2.trans (hd3.mono hy2.size))) | (go_at_call 14; ((with_reducible refine (FF1.out _ hd3).mono ?_); rintro e u4 ⟨rfl, hd4⟩; have hy4 := hy3.trans (hd4.mono hy3.size); have hty := ht.on hy4)) | (go_at_call 11; ((with_reducible refine (awake_any _ hty).mono ?_); rintro e u5 ⟨rfl, hd5⟩)))
          go_ret
          exact ⟨rfl, hy4.trans (hd5.mono hy4.size)⟩
        · have n2 : ((eF : Int) == 0) = false := by simp; omega
          clear FF hF
          go_wp2_with (first | (go_at_call 12; ((with_reducible refine (GG1.out _ (Below.refl _ _)).mono ?_); rintro e u3 ⟨rfl, hd3⟩; have hy3 := hy2.trans (hd3.mono hy2.size); have hty := ht.on hy3)) | (go_at_call 11; ((with_reducible refine (awake_any _ hty).mono ?_); rintro e u5 ⟨rfl, hd5⟩)))
          go_ret
          exact ⟨rfl, hy3.trans (hd5.mono hy3.size)⟩
      · have n1 : ((eT : Int) == 0) = false := by simp; omega
        clear GG hT
        by_cases hF : eF = 0
        · have FF1 := Lib.hid (FF.out hF)
          have n2 : ((eF : Int) == 0) = true := by simp; omega
          clear FF hF
          go_wp2_with (first | (go_at_call 14; ((with_reducible refine (FF1.out _ (Below.refl _ _)).mono ?_); rintro e u4 ⟨rfl, hd4⟩; have hy4 := hy2.trans (hd4.mono hy2.size); have hty := ht.on hy4)) | (go_at_call 11; ((with_reducible refine (awake_any _ hty).mono ?_); rintro e u5 ⟨rfl, hd5⟩)))
          go_ret
          exact ⟨rfl, hy4.trans (hd5.mono hy4.size)⟩
        · have n2 : ((eF : Int) == 0) = false := by simp; omega
          have hty := ht.on hy2
          clear FF hF
          go_wp2_with (go_at_call 11; ((with_reducible refine (awake_any _ hty).mono ?_); rintro e u5 ⟨rfl, hd5⟩))
          go_ret
          exact ⟨rfl, hy2.trans (hd5.mono hy2.size)⟩
    · have i1 : (50000 : Int) < (s.size : Int) := by omega
      go_wp2_with (first | (go_at_call 21; ((with_reducible refine (SG.out).mono ?_); rintro e w5 ⟨rfl, n5, rfl⟩)) | (go_at_call 18; ((with_reducible refine (AK.out _).mono ?_); rintro e w6 ⟨rfl, hb6⟩; have hbx := (belowDN hb14 n5).trans (hb6.mono (belowDN hb14 n5).size); have htx := ht.on hbx)) | (go_at_call 11; ((with_reducible refine (awake_any _ htx).mono ?_); rintro e w9 ⟨rfl, hb9⟩)))
      go_ret
      exact ⟨rfl, hbx.trans (hb9.mono hbx.size)⟩
end Go.Proofs.YtknmjbfhagldbaaDoor
