/- The walk of GraphTurned. -/
import Derived.Test.YtoofflnaebkigaaDoorGrFinds
import Derived.IntWalk
namespace Go.Proofs.YtoofflnaebkigaaDoor.Gr
open Go.RowKit
open Lg (Strs tl)
set_option linter.unusedVariables false
set_option maxRecDepth 100000
/-- targets as a row of cells -/
inductive TRow (w : World) : List Value → List Tg → Prop
  | nil : TRow w [] []
  | cons {t : Tg} {Ad As : Option Addr} {cd cs : Nat} {cells : List Value} {l : List Tg} : Strs w Ad t.ds → Strs w As t.ss → TRow w cells l →
      TRow w (.string t.n :: .string t.c :: .slice Ad t.ds.length cd :: .slice As t.ss.length cs :: cells) (t :: l)
theorem TRow.later {w w' : World} {cells : List Value} {l : List Tg} (h : TRow w cells l) (hb : Below w.heap.size w w') : TRow w' cells l := by
  induction h with
  | nil => exact .nil
  | cons h1 h2 _ ih => exact .cons (h1.below hb) (h2.below hb) ih
theorem TRow.append {w : World} {c1 c2 : List Value} {l1 l2 : List Tg} (h1 : TRow w c1 l1) (h2 : TRow w c2 l2) : TRow w (c1 ++ c2) (l1 ++ l2) := by
  induction h1 with
  | nil => exact h2
  | cons a1 a2 _ ih => exact .cons a1 a2 ih
theorem TRow.len {w : World} {c : List Value} {l : List Tg} (h : TRow w c l) : c.length = l.length * 4 := by
  induction h with
  | nil => rfl
  | cons a1 a2 _ ih => simp only [List.length_cons, ih]; omega
theorem TRow.one {w : World} {c : List Value} {l : List Tg} (h : TRow w c l) : ∀ u ∈ c, u.oneCell' = true := by
  induction h with
  | nil => simp
  | cons a1 a2 _ ih =>
    intro u hu
    simp only [List.mem_cons] at hu
    rcases hu with rfl | rfl | rfl | rfl | hu
    · rfl
    · rfl
    · rfl
    · rfl
    · exact ih u hu
theorem TRow.at_ {w : World} {cells : List Value} {l : List Tg} (h : TRow w cells l) : ∀ {k : Nat} (hk : k < l.length),
    ∃ Ad cd As cs, cells[k * 4]? = some (.string l[k].n) ∧ cells[k * 4 + 1]? = some (.string l[k].c) ∧ cells[k * 4 + 2]? = some (.slice Ad l[k].ds.length cd) ∧ cells[k * 4 + 3]? = some (.slice As l[k].ss.length cs) ∧ Strs w Ad l[k].ds ∧ Strs w As l[k].ss := by
  induction h with
  | nil => intro k hk; simp at hk
  | @cons t Ad As cd cs cells l a1 a2 _ ih =>
    intro k hk
    cases k with
    | zero => exact ⟨Ad, cd, As, cs, rfl, rfl, rfl, rfl, a1, a2⟩
    | succ k =>
      obtain ⟨Ad', cd', As', cs', h1, h2, h3, h4, h5⟩ := ih (k := k) (by simpa using hk)
      refine ⟨Ad', cd', As', cs', ?_, ?_, ?_, ?_, h5⟩
      · rw [show (k + 1) * 4 = k * 4 + 4 by omega]; exact h1
      · rw [show (k + 1) * 4 + 1 = k * 4 + 1 + 4 by omega]; exact h2
      · rw [show (k + 1) * 4 + 2 = k * 4 + 2 + 4 by omega]; exact h3
      · rw [show (k + 1) * 4 + 3 = k * 4 + 3 + 4 by omega]; exact h4
theorem rows_of {w : World} {ad : Addr} : ∀ (l : List Tg) (i : Nat), (∀ k (hk : k < l.length), TgAt w (ad.add ((i + k) * 4)) l[k]) → ∃ cells, TRow w cells l ∧ ∀ j u, cells[j]? = some u → w.cell? (ad.add (i * 4 + j)) = some u
  | [], i, _ => ⟨[], .nil, by simp⟩
  | t :: l, i, h => by
    obtain ⟨cells, h1, h2⟩ := rows_of l (i + 1) (fun k hk => by
      have := h (k + 1) (by simp; omega)
      rw [show i + 1 + k = i + (k + 1) by omega]
      exact this)
    obtain ⟨Ad, cd, As, cs, c0, c1, c2, c3, hd, hs⟩ := h 0 (by simp)
    simp only [Nat.add_zero, List.getElem_cons_zero] at c0 c1 c2 c3 hd hs
    rw [add_of_add] at c1 c2 c3
    refine ⟨_, .cons (Ad := Ad) (As := As) (cd := cd) (cs := cs) hd hs h1, fun j u hu => ?_⟩
    match j, hu with
    | 0, hu => simp at hu; rw [← hu]; exact c0
    | 1, hu => simp at hu; rw [← hu]; exact c1
    | 2, hu => simp at hu; rw [← hu]; exact c2
    | 3, hu => simp at hu; rw [← hu]; exact c3
    | j + 4, hu =>
      simp at hu
      have := h2 j u hu
      rw [show i * 4 + (j + 4) = (i + 1) * 4 + j by omega]; exact this
theorem add0 (ad : Addr) : ad.add 0 = ad := by cases ad; simp [Addr.add]
/-- a part of targets as a row -/
theorem part_row {w : World} {ad a' : Addr} {l m : List Tg} {i : Nat} (hb : ad.block < w.heap.size) (hc : ∀ k (hk : k < l.length), TgAt w (ad.add (k * 4)) l[k]) (hi : i + m.length ≤ l.length) (hm : ∀ k (hk : k < m.length), m[k] = l[i + k]'(by omega)) (ha : a' = ad.add (i * 4)) :
    ∃ cells, TRow w cells m ∧ Reads w w.heap.size 4 (some a') m.length cells := by
  obtain ⟨cells, h1, h2⟩ := rows_of (w := w) (ad := ad) m i (fun k hk => by rw [hm k hk]; exact hc (i + k) (by omega))
  refine ⟨cells, h1, h1.len, fun _ => ⟨_, rfl, by rw [ha, block_of_add]; exact hb, fun j u hu => ?_⟩⟩
  rw [ha, add_of_add]
  exact h2 j u hu
theorem checkF_turn (l : List Tg) (n : Nat) : (checkF l == 0) = (checkF (l.drop n ++ l.take n) == 0) := by
  have h := check_turn (l := l) (nameE := nameF) (pathE := pathF) (parseE := parseF) n
  unfold checkF
  rw [Bool.eq_iff_iff]
  simpa using h
theorem tgs_of_own {w : World} {B : Nat} {v : Value} {l : List Tg} {cells : List Value} (ho : w.ownsRow B 35 4 v l.length cells) (h : TRow w cells l) : ∃ A c, v = .slice A l.length c ∧ l.length ≤ c ∧ Tgs w A l := by
  have hv : ∃ A c, v = .slice A l.length c ∧ l.length ≤ c := by
    rcases ho.2 with ⟨rfl, h0⟩ | ⟨g, cap, cur, rfl, hB, hg, h1, _⟩
    · exact ⟨none, 0, by rw [h0], by omega⟩
    · exact ⟨_, _, rfl, h1⟩
  obtain ⟨A, c, rfl, hc⟩ := hv
  refine ⟨A, c, rfl, hc, fun hn => ?_⟩
  obtain ⟨ad, rfl, hb, hr⟩ := (Reads.of_own ho).2 hn
  refine ⟨ad, rfl, hb, fun k hk => ?_⟩
  obtain ⟨Ad, cd, As, cs, h0, h1, h2, h3, hd, hs⟩ := h.at_ hk
  refine ⟨Ad, cd, As, cs, hr _ _ h0, ?_, ?_, ?_, hd, hs⟩
  · rw [add_of_add]; exact hr _ _ h1
  · rw [add_of_add]; exact hr _ _ h2
  · rw [add_of_add]; exact hr _ _ h3
theorem infoT : ∃ z, (Tryd.prog.info? 35).map (fun i => (i.zero, i.size, i.bytes)) = some (some z, 4, 80) ∧ z.cells.size = 4 := ⟨.agg #[.string ⟨#[]⟩, .string ⟨#[]⟩, .slice none 0 0, .slice none 0 0], by kernel_rfl, rfl⟩
theorem turn_of (turn : Int) {L : Nat} (hL : 0 < L) : ∃ n : Nat, n < L ∧ turn.tmod (L : Int) % (L : Int) = (n : Int) ∧ -(L : Int) < turn.tmod L ∧ turn.tmod L < L := by
  have h1 : -(L : Int) < turn.tmod L := by
    have := Int.lt_tmod_of_pos turn (b := (L : Int)) (by omega)
    omega
  have h2 : turn.tmod L < L := Int.tmod_lt_of_pos turn (by omega)
  have h3 := Int.emod_nonneg (turn.tmod (L : Int)) (b := (L : Int)) (by omega)
  have h4 := Int.emod_lt_of_pos (turn.tmod (L : Int)) (b := (L : Int)) (by omega)
  exact ⟨(turn.tmod (L : Int) % (L : Int)).toNat, by omega, by omega, h1, h2⟩
set_option maxHeartbeats 2000000 in
theorem turned_walk (A : Option Addr) (l : List Tg) (c : Nat) (turn : Int) (ht : (Lit.int .i64 turn).wf = true) (w : World) (hE : Lg.Env w) (hr : Came w A l c) :
    Calls Tryd.prog 5 #[.slice A l.length c, .int .i64 turn] w fun e w' => e = .returned (.bool true) ∧ Below w.heap.size w w' := by
  have AW := Lib.hid awake_any
  have EV := Lib.hid (fun W (h : Below w.heap.size w W) => hE.below h)
  have FW := Lib.hid (few_any A l c w hr.big hr.at_ hr.fit)
  have HR := Lib.hid hr
  obtain ⟨z, hzi, hzs⟩ := infoT
  obtain ⟨i0, hi, hz0, hz1, hz2⟩ := Lg.info_parts hzi
  have tb : -9223372036854775808 ≤ turn ∧ turn ≤ 9223372036854775807 := by
    simp [Lit.wf, IntKind.min, IntKind.max, IntKind.signed, IntKind.bits] at ht
    omega
  obtain ⟨tb1, tb2⟩ := tb
  clear hE hr ht hzi
  go_enter Tryd.func5, Tryd.ntmps5
  go_wp2_with (fail)
  refine (FW.out).mono ?_
  rintro e w' ⟨b, rfl, rfl, hb⟩
  cases b
  · clear hb
    go_wp2_with (go_at_call 12; (with_reducible refine (AW.out _ (EV.out _ (Below.refl _ _))).mono ?_); rintro e w1 ⟨rfl, b1⟩)
    go_ret
    exact ⟨rfl, b1⟩
  obtain ⟨h1, h2⟩ := hb rfl
  have FT := fun t ht => (h2 t ht).fits
  clear hb h2
  by_cases h0 : l.length = 0
  · have g0 : ((l.length : Int) == 0) = true := by rw [h0]; rfl
    clear FT h0
    go_wp2_with (go_at_call 12; (with_reducible refine (AW.out _ (EV.out _ (Below.refl _ _))).mono ?_); rintro e w1 ⟨rfl, b1⟩)
    go_ret
    exact ⟨rfl, b1⟩
  obtain ⟨ad, rfl, hbk, hcell⟩ := HR.out.at_ (by omega)
  have hlc := HR.out.len
  have g0 : ((l.length : Int) == 0) = false := by rw [beq_eq_false_iff_ne]; omega
  have g1 : (1 : Int) ≤ (l.length : Int) := by omega
  have g2 : (l.length : Int) ≤ 30 := by omega
  obtain ⟨n, hn, en, e1, e2⟩ := turn_of turn (L := l.length) (by omega)
  have hcn : c ≠ n := by omega
  have hcn2 : ¬ c - n = 0 := by omega
  obtain ⟨x1, t1, r1⟩ := part_row (a' := ad.add (n * 4)) (m := l.drop n) (i := n) hbk hcell (by simp; omega) (fun k hk => by simp) rfl
  obtain ⟨x2, t2, r2⟩ := part_row (a' := ad) (m := l.take n) (i := 0) hbk hcell (by simp; omega) (fun k hk => by simp) (by rw [Nat.zero_mul, add0])
  rw [show (l.drop n).length = l.length - n by simp] at r1
  rw [show (l.take n).length = n by simp; omega] at r2
  have O1 := Lib.hid t1.one
  have O2 := Lib.hid t2.one
  have TR := Lib.hid (t1.append t2)
  have R1 := Lib.hid r1
  have R2 := Lib.hid r2
  have PL : Hid (∀ W, Below w.heap.size w W → Calls Tryd.prog 10 #[.slice (some ad) l.length c] W fun e w' => e = .returned (.int .i64 (checkF l)) ∧ Below W.heap.size W w') := Lib.hid fun W hW => pcheck_any (some ad) l c W (EV.out _ hW) (HR.out.at_.below hW) (by omega) HR.out.len FT
  have CT := Lib.hid (checkF_turn l n)
  have FM : Hid (∀ t ∈ l.drop n ++ l.take n, Fits t) := Lib.hid fun t ht => FT t (by
    rcases List.mem_append.1 ht with h | h
    · exact List.mem_of_mem_drop h
    · exact List.mem_of_mem_take h)
  have LS : Hid ((l.drop n ++ l.take n).length ≤ 1000) := Lib.hid (by simp; omega)
  have LM : Hid (0 + (l.length - n) + n = (l.drop n ++ l.take n).length) := Lib.hid (by simp; omega)
  generalize l.drop n ++ l.take n = m at *
  have CF : Hid (∃ F, checkF m = F) := Lib.hid ⟨_, rfl⟩
  obtain ⟨F, hF⟩ := CF.out
  clear CF
  have CF := Lib.hid hF
  rw [hF] at CT
  clear hF
  generalize checkF l = E at *
  have gE : ∃ b, (E == 0) = b ∧ (F == 0) = b := ⟨(E == 0), rfl, CT.out.symm⟩
  obtain ⟨b, gE, gF⟩ := gE
  clear hcell t1 t2 r1 r2 FW FT CT
  cases b
  all_goals go_wp2_with (first
    | (at_builtin; refine wpList_append_any _ rfl (.tmp 26) (.tmp 29) _ rfl w.heap.size 35 i0 _ 4 80 Tryd.underlying22 hi hz0 hz1 hz2 hzs (by omega) (.slice none 0 0) 0 [] rfl (World.ownsRow_nil _ _ _ _) _ (some (ad.add (n * 4))) (l.length - n) _ x1 rfl R1.out O1.out (by simp only [maxLen]; omega) (by omega) (Nat.le_refl _) ?_; intro v4 w4 hown4 hg4 hat4; have b4 : Below w.heap.size w w4 := (Below.refl _ _).grown hg4 (Nat.le_refl _) (fun k hk => by cases hk); have R3 := Lib.hid (R2.out.below b4))
    | (at_builtin; refine wpList_append_any _ rfl (.tmp 31) (.tmp 34) _ rfl w.heap.size 35 i0 _ 4 80 Tryd.underlying22 hi hz0 hz1 hz2 hzs (by omega) v4 (0 + (l.length - n)) ([] ++ x1) rfl hown4 _ (some ad) n _ x2 rfl R3.out O2.out (by simp only [maxLen]; omega) (by omega) b4.size ?_; intro v5 w5 hown5 hg5 hat5; have b5 : Below w.heap.size w w5 := b4.grown hg5 b4.size (fun k hk => (own_lt hown4 hk).1); rw [LM.out, List.nil_append] at hown5; obtain ⟨A5, c5, rfl, hc5, T5⟩ := tgs_of_own hown5 (TR.out.later b5); have P5 := Lib.hid (PL.out _ b5); have PM : Hid (∀ W, Below w.heap.size w W → Below w5.heap.size w5 W → Calls Tryd.prog 10 #[.slice A5 m.length c5] W fun e w' => e = .returned (.int .i64 F) ∧ Below W.heap.size W w') := Lib.hid fun W h0 hW => by rw [← CF.out]; exact pcheck_any A5 m c5 W (EV.out _ h0) (T5.below hW) LS.out hc5 FM.out)
    | (go_at_call 10; first
      | ((with_reducible refine (P5.out).mono ?_); rintro e w6 ⟨rfl, b6⟩; have b06 := b5.trans (b6.mono b5.size); have P6 := Lib.hid (PM.out _ b06 b6))
      | ((with_reducible refine (P6.out).mono ?_); rintro e w7 ⟨rfl, b7⟩; have b07 := b06.trans (b7.mono b06.size); have E7 := Lib.hid (EV.out _ b07)))
    | (go_at_call 12; (with_reducible refine (AW.out _ E7.out).mono ?_); rintro e w8 ⟨rfl, b8⟩))
  all_goals
    go_ret
    exact ⟨rfl, b07.trans (b8.mono b07.size)⟩
end Go.Proofs.YtoofflnaebkigaaDoor.Gr
