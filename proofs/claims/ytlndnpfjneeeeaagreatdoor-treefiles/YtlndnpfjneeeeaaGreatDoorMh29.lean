/- Joined by mkmerged.py: FsRFilesW, FsTfLaw. -/
import Derived.Test.YtlndnpfjneeeeaaGreatDoorMh28
import Derived.Test.YtlndnpfjneeeeaaGreatDoorMh19
import Derived.Test.YtlndnpfjneeeeaaGreatDoorMh27
import Derived.Test.YtlndnpfjneeeeaaGreatDoorMh22
import Derived.BigQuiet
import Derived.Deep.CutBlock
import Derived.Deep.QuietTactic
import Derived.Laws.Cover1
import Derived.Sort.Walk0
import Derived.Test.YtlndnpfjneeeeaaGreatDoorMh17
/- FsRFilesW, what a claim needs of it (prune.py). -/
namespace Go.Proofs.YtlndnpfjneeeeaaGreatDoor.Fs
open Go.RowKit
set_option linter.unusedVariables false
set_option maxRecDepth 100000
theorem rise_ins {l : List Fl} {f : Fl} {q : Nat} (h : Rise l) (hq : q ≤ l.length) (hlo : ∀ j (hj : j < l.length), j < q → tl l[j].p ≤ tl f.p) (hhi : ∀ hq' : q < l.length, ¬ tl l[q].p ≤ tl f.p) : Rise (l.take q ++ f :: l.drop q) := by
  unfold Rise at *
  have h1 : (l.take q).Pairwise fun f g => tl f.p ≤ tl g.p := h.sublist (List.take_sublist q l)
  have h2 : (l.drop q).Pairwise fun f g => tl f.p ≤ tl g.p := h.sublist (List.drop_sublist q l)
  have lo : ∀ x ∈ l.take q, tl x.p ≤ tl f.p := fun x hx => by
    obtain ⟨j, hj, rfl⟩ := List.mem_iff_getElem.1 hx
    rw [List.length_take] at hj
    rw [List.getElem_take]
    exact hlo j (by omega) (by omega)
  have hi : ∀ x ∈ l.drop q, tl f.p ≤ tl x.p := fun x hx => by
    obtain ⟨j, hj, rfl⟩ := List.mem_iff_getElem.1 hx
    rw [List.length_drop] at hj
    rw [List.getElem_drop]
    have h3 : tl f.p ≤ tl l[q].p := by
      rcases List.le_total (tl f.p) (tl l[q].p) with h4 | h4
      · exact h4
      · exact absurd h4 (hhi (by omega))
    rcases Nat.eq_zero_or_pos j with h5 | h5
    · subst h5
      simpa using h3
    · exact List.le_trans h3 (List.pairwise_iff_getElem.1 h q (q + j) (by omega) (by omega) (by omega))
  refine List.pairwise_append.2 ⟨h1, List.pairwise_cons.2 ⟨hi, h2⟩, fun a ha b hb => ?_⟩
  rcases List.mem_cons.1 hb with rfl | hb
  · exact lo a ha
  · exact List.le_trans (lo a ha) (hi b hb)
theorem perm_ins {l m : List Fl} {f : Fl} {q : Nat} (h : l.Perm m) : (l.take q ++ f :: l.drop q).Perm (m ++ [f]) := by
  have h1 : (l.take q ++ f :: l.drop q).Perm (f :: l) := by
    have := (List.perm_middle (a := f) (l₁ := l.take q) (l₂ := l.drop q))
    rwa [List.take_append_drop] at this
  exact h1.trans ((h.cons f).trans (List.perm_append_singleton f m).symm)
structure Ins (out : List Fl) (i : Nat) (l : List Fl) : Prop where
  rise : Rise l
  perm : l.Perm (out.take i)
theorem Ins.zero (out : List Fl) : Ins out 0 [] := ⟨List.Pairwise.nil, by simp⟩
theorem Ins.next {out l : List Fl} {i q : Nat} (h : Ins out i l) (hi : i < out.length) (hq : q ≤ l.length) (hlo : ∀ j (hj : j < l.length), j < q → tl l[j].p ≤ tl out[i].p) (hhi : ∀ hq' : q < l.length, ¬ tl l[q].p ≤ tl out[i].p) : Ins out (i + 1) (l.take q ++ out[i] :: l.drop q) :=
  ⟨rise_ins h.rise hq hlo hhi, by rw [List.take_succ_eq_append_getElem hi]; exact perm_ins h.perm⟩
theorem Ins.len {out l : List Fl} {i : Nat} (h : Ins out i l) (hi : i ≤ out.length) : l.length = i := by rw [h.perm.length_eq, List.length_take]; omega
theorem Ins.all {out l : List Fl} (h : Ins out out.length l) (ha : Apart out) : l = sortP out := rise_one ha (by have := h.perm; rwa [List.take_length] at this) (sortP_perm out) h.rise (sortP_rise out)
theorem le_cases (a s : ByteArray) : (tl a ≤ tl s ∧ Op.bytesLess a.toList s.toList = true) ∨ (tl a ≤ tl s ∧ Op.bytesLess a.toList s.toList = false ∧ (a.toList == s.toList) = true ∧ a.toList = s.toList) ∨ (¬ tl a ≤ tl s ∧ Op.bytesLess a.toList s.toList = false ∧ (a.toList == s.toList) = false ∧ ¬ a.toList = s.toList) := by
  have TA : a.toList = tl a := Lib.toList_data a
  have TS : s.toList = tl s := Lib.toList_data s
  rw [bytesLess_eq, TA, TS]
  by_cases h1 : tl a < tl s
  · exact .inl ⟨List.le_of_lt h1, decide_eq_true h1⟩
  · by_cases h2 : tl a = tl s
    · exact .inr (.inl ⟨by rw [h2]; exact List.le_refl _, decide_eq_false h1, by rw [h2]; simp, h2⟩)
    · refine .inr (.inr ⟨fun h => h1 (le_lt h h2), decide_eq_false h1, by simpa using h2, h2⟩)
open Bx (fc_take fc_drop own_low)
theorem rf_take {w : World} {ad : Addr} {l : List Fl} {a : Nat} (h : Fls w (some ad) l) (ha : a ≤ l.length) : Reads w w.heap.size 2 (some ad) a (fc (l.take a)) := by
  refine ⟨by rw [fc_len]; simp; omega, fun h0 => ?_⟩
  obtain ⟨ad', e, hb, hc⟩ := h.2 (by omega)
  injection e with e
  subst e
  refine ⟨_, rfl, hb, fun j u hu => hc j u ?_⟩
  rw [← fc_take, List.getElem?_take] at hu
  split at hu
  · exact hu
  · cases hu
theorem rf_drop {w : World} {ad : Addr} {l : List Fl} {b : Nat} (h : Fls w (some ad) l) : Reads w w.heap.size 2 (some (ad.add (b * 2))) (l.length - b) (fc (l.drop b)) := by
  refine ⟨by rw [fc_len]; simp, fun h0 => ?_⟩
  obtain ⟨ad', e, hb, hc⟩ := h.2 (by omega)
  injection e with e
  subst e
  refine ⟨_, rfl, by rw [block_of_add]; exact hb, fun j u hu => ?_⟩
  rw [← fc_drop, List.getElem?_drop] at hu
  rw [add_of_add]
  exact hc _ u hu
theorem rf_zero {w : World} {B0 size : Nat} {A : Option Addr} : Reads w B0 size A 0 [] := ⟨by simp, fun h => absurd h (by omega)⟩
theorem rf_mid (a b : List Fl) (f : Fl) : [] ++ fc a ++ [Value.string f.p, .string f.d] ++ fc b = fc (a ++ f :: b) := by
  rw [List.nil_append, fc_append, List.append_assoc]; rfl
noncomputable def restF (out : List Fl) : List Fl × Int := if checkE (sortP out) = 0 then (sortP out, 0) else ([], checkE (sortP out))
theorem filesF_ok {bl : List ByteArray} {root : B} (h : (goF bl 1001 root [] ⟨0, []⟩).1 = 0) : filesF bl root = restF (goF bl 1001 root [] ⟨0, []⟩).2.out := by unfold filesF restF; rw [if_pos h]
set_option maxHeartbeats 8000000 in
theorem rfiles_any (A : Option Addr) (bl : List ByteArray) (c : Nat) (root : B) (w : World) (hr : Lg.Strs w A bl) (hl : bl.length ≤ 1000000000) (hz : ∀ s ∈ bl, s.size ≤ 1000000) (hro : root.length ≤ maxLen) :
    Calls Tryz.prog 9 #[.string (bs root), .slice A bl.length c] w (TfSays bl root w) := by
  obtain ⟨z, hzi, hzs⟩ := infoF
  obtain ⟨i0, hi, hz0, hz1, hz2⟩ := Lg.info_parts hzi
  clear hzi
  obtain ⟨W1, eW⟩ : ∃ W1, W1 = w.alloc (.cells #[.slice A bl.length c, .int .i64 0, .slice none 0 0] 93) := ⟨_, rfl⟩
  have hb1 : Below w.heap.size w W1 := by rw [eW]; exact (Below.refl _ _).alloc (Nat.le_refl _) _
  have DA : WrAt w A bl.length c W1 (.slice none 0 0) ⟨0, []⟩ := ⟨hb1, by rw [eW]; exact heap_alloc_new w _, World.ownsRow_nil _ _ _ _⟩
  have C : Hid (Calls Tryz.prog 42 #[.pointer (some ⟨w.heap.size, 0, none⟩), .string (bs root), .string ⟨#[]⟩] W1 (WrSays w A bl.length c (goF bl 1001 root [] ⟨0, []⟩) W1 (.slice none 0 0))) := Lib.hid (rdown_walk w A bl c hr hl hz 1001 root [] ⟨0, []⟩ W1 (.slice none 0 0) DA (by simp) (Nat.zero_le _) (by simp) (by simp) (by simp) hro)
  have KP := go_keeps bl 1001 root [] ⟨0, []⟩ (Nat.zero_le _) (by simp) (by simp) (by simp)
  have AP := go_apart bl root
  have DT : ∀ x ∈ (goF bl 1001 root [] ⟨0, []⟩).2.out, x.d.size ≤ 1000000 := fun x hx => by
    rcases go_data bl 1001 root [] ⟨0, []⟩ x hx with h | h
    · cases h
    · exact hz _ h
  have F1 : Hid ((goF bl 1001 root [] ⟨0, []⟩).1 = 0 → filesF bl root = restF (goF bl 1001 root [] ⟨0, []⟩).2.out) := Lib.hid filesF_ok
  have F2 : Hid (¬ (goF bl 1001 root [] ⟨0, []⟩).1 = 0 → filesF bl root = ([], (goF bl 1001 root [] ⟨0, []⟩).1)) := Lib.hid fun h => by unfold filesF; rw [if_neg h]
  unfold WrSays at C
  clear DA hr hl hz hro hb1
  generalize goF bl 1001 root [] ⟨0, []⟩ = r at *
  obtain ⟨rc, rs⟩ := r
  dsimp only at C KP AP DT F1 F2
  have KPH := Lib.hid KP
  have APH := Lib.hid AP
  have DTH := Lib.hid DT
  have h32 : rs.out.length ≤ 32 := KPH.out.1.out
  clear KP AP DT
  generalize hQ : TfSays bl root w = Q
  by_cases hc : rc = 0
  · subst hc
    have F := Lib.hid (F1.out rfl)
    have END : Hid (∀ e w', (∃ A c, e = .returned (.tuple #[.slice A (restF rs.out).1.length c, .int .i64 (restF rs.out).2]) ∧ Fls w' A (restF rs.out).1) → Below w.heap.size w w' → Q e w') := Lib.hid fun e w' h hb => by
      rw [← hQ]
      unfold TfSays
      rw [F.out]
      exact ⟨h, hb⟩
    clear F F1 F2 hQ
    go_enter Tryz.func9, Tryz.ntmps9
    go_wp2_with (go_at_call 42; rw [← eW]; clear eW; (with_reducible refine (C.out).mono ?_); rintro e w3 ⟨rfl, v3, D3, K3⟩; obtain ⟨A3, c3, rfl⟩ := dw_form D3.row)
    have HB3 := Lib.hid D3.bw
    have hx3 := Lg.lt_heap D3.st
    have XO : Hid (∀ W, Below w3.heap.size w3 W → W.cell? ⟨w.heap.size, 2, none⟩ = some (.slice A3 rs.out.length c3)) := Lib.hid fun W hW => (cell_heap (heap_below hW hx3 D3.st) 2).trans rfl
    have RO : Hid (∀ W, Below w3.heap.size w3 W → Reads W w3.heap.size 2 A3 rs.out.length (fc rs.out)) := Lib.hid fun W hW => (Reads.of_own D3.row).below hW
    have CK : Hid (∀ (l : List Fl) v W, Ins rs.out rs.out.length l → W.ownsRow w3.heap.size 75 2 v l.length (fc l) → ∃ A c, v = .slice A l.length c ∧ (Calls Tryz.prog 43 #[v] W fun e w' => e = .returned (.int .i64 (checkE (sortP rs.out))) ∧ Below W.heap.size W w')) := Lib.hid fun l v W hI ho => by
      obtain ⟨A, c, rfl⟩ := dw_form ho
      refine ⟨A, c, rfl, ?_⟩
      have e := hI.all APH.out
      subst e
      refine rpcheck_any A (sortP rs.out) c W (Reads.of_own ho) (by rw [(sortP_perm _).length_eq]; omega) (fun f hf => ?_)
      have hm' := (sortP_perm _).subset hf
      have h1 := KPH.out.2 f hm'
      have h2 := DTH.out f hm'
      unfold maxLen
      omega
    clear C D3 K3
    go_loopw [8, 9] (fun v8 v9 Wx => ∃ (i : Nat) (l : List Fl) (A8 : Option Addr) (c8 : Nat), v8 = .slice A8 l.length c8 ∧ v9 = .int .i64 i ∧ i ≤ rs.out.length ∧ Hid (Ins rs.out i l) ∧ Hid (Wx.ownsRow w3.heap.size 75 2 (.slice A8 l.length c8) l.length (fc l)) ∧ Below w3.heap.size w3 Wx ∧ Hid (i = 0 → A8 = none ∧ c8 = 0)) (fun _ i _ => rs.out.length - (intOf i).toNat)
    case atStart => exact ⟨0, [], none, 0, rfl, rfl, Nat.zero_le _, Lib.hid (Ins.zero _), Lib.hid (World.ownsRow_nil _ _ _ _), Below.refl _ _, Lib.hid fun _ => ⟨rfl, rfl⟩⟩
    case round =>
      obtain ⟨i, l, A8, c8, rfl, rfl, hin, IN, HO, hbx, Z8⟩ := hrel
      have hs8 := hbx.size
      have xo := XO.out _ hbx
      by_cases hlt : i < rs.out.length
      · have hltI : (i : Int) < (rs.out.length : Int) := by omega
        obtain ⟨ad, rfl, had, d0, d1⟩ := Fls.at_ (RO.out _ hbx) hlt
        have DF : Hid (∀ W, Below w3.heap.size w3 W → W.cell? (ad.add (i * 2)) = some (.string rs.out[i].p) ∧ W.cell? ⟨(ad.add (i * 2)).block, (ad.add (i * 2)).off + 1, none⟩ = some (.string rs.out[i].d)) := Lib.hid fun W hW => by
          obtain ⟨ad', e, _, h1, h2⟩ := Fls.at_ (RO.out W hW) hlt
          obtain rfl : ad = ad' := by injection e
          exact ⟨h1, h2⟩
        have LEN := IN.out.len hin
        have NXT := Lib.hid (fun q hq hlo hhi => IN.out.next (q := q) hlt hq hlo hhi)
        have LENH := Lib.hid LEN
        have hl32 : (l.length : Int) ≤ 32 := by omega
        clear LEN
        go_upto_block 2 with (fail)
        go_cut [10] from 30 to 51 (fun v10 wx => ∃ q : Nat, v10 = .int .i64 q ∧ q ≤ l.length ∧ Hid (∀ j (hj : j < l.length), j < q → tl l[j].p ≤ tl rs.out[i].p) ∧ Hid (∀ hq' : q < l.length, ¬ tl l[q].p ≤ tl rs.out[i].p) ∧ Below wr.heap.size wr wx)
        case first =>
          go_wp2_with (fail)
          go_loopw [10] (fun v10 wx => ∃ q : Nat, v10 = .int .i64 q ∧ q ≤ l.length ∧ Hid (∀ j (hj : j < l.length), j < q → tl l[j].p ≤ tl rs.out[i].p) ∧ Below wr.heap.size wr wx) (fun a _ => l.length - (intOf a).toNat)
          case atStart => exact ⟨0, rfl, Nat.zero_le _, Lib.hid fun j hj h => by omega, Below.refl _ _⟩
          case round =>
            obtain ⟨q, rfl, hq, LO, hbq⟩ := hrel
            by_cases hql : q < l.length
            · have hqI : (q : Int) < (l.length : Int) := by omega
              have hqd : decide (q < l.length) = true := decide_eq_true hql
              have hqD : decide ((q : Int) < (l.length : Int)) = true := decide_eq_true hqI
              have mixed : Tryz.prog.follows Departure.mixedOrders = true := by kernel_rfl
              obtain ⟨a8, rfl, h8, p0, p1⟩ := Fls.at_ (Reads.of_own (own_later HO.out hbq)) hql
              have xq := XO.out _ (hbx.trans (hbq.mono hbx.size))
              obtain ⟨f0, f1⟩ := DF.out _ (hbx.trans (hbq.mono hbx.size))
              have g1 : (0 : Int) ≤ (q : Int) := by omega
              have g2 : (0 : Int) ≤ (i : Int) := by omega
              have LN : Hid (tl l[q].p ≤ tl rs.out[i].p → ∀ j (hj : j < l.length), j < q + 1 → tl l[j].p ≤ tl rs.out[i].p) := Lib.hid fun h j hj hjq => by
                rcases Nat.lt_or_ge j q with h2 | h2
                · exact LO.out j hj h2
                · obtain rfl : j = q := by omega
                  exact h
              have HN : Hid (¬ tl l[q].p ≤ tl rs.out[i].p → ∀ hq' : q < l.length, ¬ tl l[q].p ≤ tl rs.out[i].p) := Lib.hid fun h _ => h
              rcases le_cases l[q].p rs.out[i].p with ⟨h1, k1⟩ | ⟨h1, k1, k2, k3⟩ | ⟨h1, k1, k2, k3⟩
              · have LN1 := Lib.hid (LN.out h1)
                clear h1 HN LN p1 d0 d1 xo f1
                generalize l[q].p = lp at *
                generalize rs.out[i].p = fp at *
                go_wp2_with (fail)
                go_quiet (fail)
                go_wp2_with (fail)
                go_roundw
                case rel => exact ⟨q + 1, by go_num, by omega, LN1, belowDN hbq nq⟩
                case measure => simp [intOf]; omega
              · have LN1 := Lib.hid (LN.out h1)
                clear h1 HN LN p1 d0 d1 xo f1
                generalize l[q].p = lp at *
                generalize rs.out[i].p = fp at *
                go_wp2_with (fail)
                go_quiet (fail)
                go_wp2_with (fail)
                go_roundw
                case rel => exact ⟨q + 1, by go_num, by omega, LN1, belowDN hbq nq⟩
                case measure => simp [intOf]; omega
              · have HN1 := Lib.hid (HN.out h1)
                clear h1 HN LN p1 d0 d1 xo f1
                generalize l[q].p = lp at *
                generalize rs.out[i].p = fp at *
                go_wp2_with (fail)
                go_quiet (fail)
                go_wp2_with (fail)
                go_meet
                exact ⟨q, rfl, hq, LO, HN1, belowDN hbq nq⟩
            · have hqI : ¬ (q : Int) < (l.length : Int) := by omega
              have hqd : decide (q < l.length) = false := decide_eq_false hql
              have hqD : decide ((q : Int) < (l.length : Int)) = false := decide_eq_false hqI
              have mixed : Tryz.prog.follows Departure.mixedOrders = true := by kernel_rfl
              go_wp2_with (fail)
              go_quiet (fail)
              go_wp2_with (fail)
              go_meet
              exact ⟨q, rfl, hq, LO, Lib.hid fun h => absurd h hql, belowDN hbq nq⟩
        case rest =>
          obtain ⟨q, rfl, hq, LO, HI, hbc⟩ := hcut
          have NX : Hid (Hid (Ins rs.out (i + 1) (l.take q ++ rs.out[i] :: l.drop q))) := Lib.hid (Lib.hid (NXT.out q hq LO.out HI.out))
          have HBC : Hid (Below w3.heap.size w3 wc) := Lib.hid (hbx.trans (hbc.mono hbx.size))
          have HOC := Lib.hid (own_later HO.out hbc)
          clear LO HI NXT d0 d1 xo hbc HO hbx
          generalize rs.out[i] = f at *
          have LL : Hid ((l.take q ++ f :: l.drop q).length = 0 + q + 1 + (l.length - q)) := Lib.hid (by simp; omega)
          by_cases hi0 : i = 0
          · obtain ⟨rfl, rfl⟩ := Z8.out hi0
            have hl0 : l.length = 0 := by have := LENH.out; omega
            obtain rfl : l = [] := List.eq_nil_of_length_eq_zero hl0
            obtain rfl : q = 0 := by simpa using hq
            have CV : Hid (∀ (v : Value) (W : World), W.ownsRow wc.heap.size 75 2 v (0 + 0 + 1 + 0) ([] ++ fc (([] : List Fl).take 0) ++ [.string f.p, .string f.d] ++ fc (([] : List Fl).drop 0)) → W.ownsRow wc.heap.size 75 2 v (([] : List Fl).take 0 ++ f :: ([] : List Fl).drop 0).length (fc (([] : List Fl).take 0 ++ f :: ([] : List Fl).drop 0))) := Lib.hid fun v W h => by
              rw [rf_mid] at h
              rw [show (([] : List Fl).take 0 ++ f :: ([] : List Fl).drop 0).length = 0 + 0 + 1 + 0 by simp; try omega]
              exact h
            have R1 : Hid (Reads wc wc.heap.size 2 none 0 (fc (([] : List Fl).take 0))) := Lib.hid rf_zero
            have RZ0 : Hid (∀ (W : World) (A : Option Addr), Reads W W.heap.size 2 A 0 (fc (([] : List Fl).drop 0))) := Lib.hid fun W A => rf_zero
            clear LL hq Z8 HOC LENH hl0 hi0
            go_wp2_with (first
                          | (at_builtin; refine wpList_append_any _ rfl (.tmp 52) (.tmp 55) _ rfl wc.heap.size 75 i0 _ 2 32 Tryz.underlying25 hi hz0 hz1 hz2 hzs (by omega) (.slice none 0 0) 0 [] rfl (World.ownsRow_nil _ _ _ _) _ _ 0 _ (fc ((([] : List Fl)).take 0)) rfl R1.out (fc_cell _) (by unfold maxLen; omega) (by omega) (Nat.le_refl _) ?_; intro v1 w1 ho1 hg1 hat1; have O1 := Lib.hid ho1; have B1 : Below wc.heap.size wc w1 := (Below.refl _ _).grown hg1 (Nat.le_refl _) (fun g hg => by cases hg); have B1w : Below w3.heap.size w3 w1 := HBC.out.trans (B1.mono HBC.out.size); have x1 := XO.out w1 B1w; obtain ⟨f0, f1⟩ := DF.out w1 B1w; clear ho1 hg1 hat1)
                          | (at_builtin; refine wpList_append_any _ rfl (.tmp 57) (.tmp 65) _ rfl wc.heap.size 75 i0 _ 2 32 Tryz.underlying25 hi hz0 hz1 hz2 hzs (by omega) v1 (0 + 0) ([] ++ fc ((([] : List Fl)).take 0)) rfl (own_later O1.out ((Below.refl _ _).alloc (Nat.le_refl _) _)) _ (some ⟨w1.heap.size, 0, none⟩) 1 _ [.string f.p, .string f.d] rfl (reads2_one _ _ _ _ _ rfl) (fc_cell [f]) (by unfold maxLen; omega) (by omega) (by simp; have := B1.size; omega) ?_; intro v2 w2 ho2 hg2 hat2; have O2 := Lib.hid ho2; have B2 : Below wc.heap.size wc w2 := (B1.alloc B1.size _).grown hg2 (by simp; have := B1.size; omega) (fun g hg => (O1.out.lt g hg).1); clear ho2 hg2 hat2)
                          | (at_builtin; refine wpList_append_any _ rfl (.tmp 67) (.tmp 70) _ rfl wc.heap.size 75 i0 _ 2 32 Tryz.underlying25 hi hz0 hz1 hz2 hzs (by omega) v2 (0 + 0 + 1) ([] ++ fc ((([] : List Fl)).take 0) ++ [.string f.p, .string f.d]) rfl O2.out _ _ 0 _ (fc ((([] : List Fl)).drop 0)) rfl (RZ0.out _ _) (fc_cell _) (by unfold maxLen; omega) (by omega) B2.size ?_; intro v3 w9 ho3 hg3 hat3; have O3 := Lib.hid (CV.out _ _ ho3); obtain ⟨A9, c9, rfl⟩ := dw_form O3.out; have B3 : Below wc.heap.size wc w9 := B2.grown hg3 B2.size (fun g hg => (O2.out.lt g hg).1); clear ho3 hg3 hat3))
            go_roundw
            case rel => exact ⟨i + 1, (([] : List Fl)).take 0 ++ f :: (([] : List Fl)).drop 0, A9, c9, rfl, by go_num, by omega, NX.out, Lib.hid (own_low O3.out HBC.out.size), HBC.out.trans (B3.mono HBC.out.size), Lib.hid fun h => by omega⟩
            case measure => simp [intOf]; omega
          · have hlp : 0 < l.length := by have := LENH.out; omega
            obtain ⟨a8, rfl, ha8, hc8⟩ := (Reads.of_own HOC.out).2 hlp
            have hcl : l.length ≤ c8 := by
              obtain ⟨A', c', e, h⟩ := Bx.own_slc HOC.out
              injection e with _ _ e3
              omega
            by_cases hqc : q = c8
            · subst hqc
              have hql : q = l.length := by omega
              have CV : Hid (∀ (v : Value) (W : World), W.ownsRow wc.heap.size 75 2 v (0 + q + 1 + 0) ([] ++ fc (l.take q) ++ [.string f.p, .string f.d] ++ fc (l.drop q)) → W.ownsRow wc.heap.size 75 2 v (l.take q ++ f :: l.drop q).length (fc (l.take q ++ f :: l.drop q))) := Lib.hid fun v W h => by
                rw [rf_mid] at h
                rw [show (l.take q ++ f :: l.drop q).length = 0 + q + 1 + 0 by rw [LL.out]; omega]
                exact h
              have R1 := Lib.hid (rf_take (a := q) (Reads.of_own HOC.out) hq)
              have RZ0 : Hid (∀ (W : World) (A : Option Addr), Reads W W.heap.size 2 A 0 (fc (l.drop q))) := Lib.hid fun W A => by
                rw [List.drop_eq_nil_of_le (by omega)]
                exact rf_zero
              have hq1 : q ≤ l.length := hq
              have hq2 : l.length ≤ q := by omega
              have LQ : Hid ((l.take q ++ f :: l.drop q).length = q + 1) := Lib.hid (by rw [LL.out]; omega)
              clear LL hq Z8 HOC LENH hql
              go_wp2_with (first
                            | (at_builtin; refine wpList_append_any _ rfl (.tmp 52) (.tmp 55) _ rfl wc.heap.size 75 i0 _ 2 32 Tryz.underlying25 hi hz0 hz1 hz2 hzs (by omega) (.slice none 0 0) 0 [] rfl (World.ownsRow_nil _ _ _ _) _ _ q _ (fc (l.take q)) rfl R1.out (fc_cell _) (by unfold maxLen; omega) (by omega) (Nat.le_refl _) ?_; intro v1 w1 ho1 hg1 hat1; have O1 := Lib.hid ho1; have B1 : Below wc.heap.size wc w1 := (Below.refl _ _).grown hg1 (Nat.le_refl _) (fun g hg => by cases hg); have B1w : Below w3.heap.size w3 w1 := HBC.out.trans (B1.mono HBC.out.size); have x1 := XO.out w1 B1w; obtain ⟨f0, f1⟩ := DF.out w1 B1w; clear ho1 hg1 hat1)
                            | (at_builtin; refine wpList_append_any _ rfl (.tmp 57) (.tmp 65) _ rfl wc.heap.size 75 i0 _ 2 32 Tryz.underlying25 hi hz0 hz1 hz2 hzs (by omega) v1 (0 + q) ([] ++ fc (l.take q)) rfl (own_later O1.out ((Below.refl _ _).alloc (Nat.le_refl _) _)) _ (some ⟨w1.heap.size, 0, none⟩) 1 _ [.string f.p, .string f.d] rfl (reads2_one _ _ _ _ _ rfl) (fc_cell [f]) (by unfold maxLen; omega) (by omega) (by simp; have := B1.size; omega) ?_; intro v2 w2 ho2 hg2 hat2; have O2 := Lib.hid ho2; have B2 : Below wc.heap.size wc w2 := (B1.alloc B1.size _).grown hg2 (by simp; have := B1.size; omega) (fun g hg => (O1.out.lt g hg).1); clear ho2 hg2 hat2)
                            | (at_builtin; refine wpList_append_any _ rfl (.tmp 67) (.tmp 70) _ rfl wc.heap.size 75 i0 _ 2 32 Tryz.underlying25 hi hz0 hz1 hz2 hzs (by omega) v2 (0 + q + 1) ([] ++ fc (l.take q) ++ [.string f.p, .string f.d]) rfl O2.out _ _ 0 _ (fc (l.drop q)) rfl (RZ0.out _ _) (fc_cell _) (by unfold maxLen; omega) (by omega) B2.size ?_; intro v3 w9 ho3 hg3 hat3; have O3 := Lib.hid (CV.out _ _ ho3); obtain ⟨A9, c9, rfl⟩ := dw_form O3.out; have B3 : Below wc.heap.size wc w9 := B2.grown hg3 B2.size (fun g hg => (O2.out.lt g hg).1); clear ho3 hg3 hat3))
              go_roundw
              case rel => exact ⟨i + 1, l.take q ++ f :: l.drop q, A9, c9, by rw [LQ.out], by go_num, by omega, NX.out, Lib.hid (own_low O3.out HBC.out.size), HBC.out.trans (B3.mono HBC.out.size), Lib.hid fun h => by omega⟩
              case measure => simp [intOf]; omega
            · skip
              have CV : Hid (∀ (v : Value) (W : World), W.ownsRow wc.heap.size 75 2 v (0 + q + 1 + (l.length - q)) ([] ++ fc (l.take q) ++ [.string f.p, .string f.d] ++ fc (l.drop q)) → W.ownsRow wc.heap.size 75 2 v (l.take q ++ f :: l.drop q).length (fc (l.take q ++ f :: l.drop q))) := Lib.hid fun v W h => by
                rw [rf_mid] at h
                rw [LL.out]
                exact h
              have R1 := Lib.hid (rf_take (a := q) (Reads.of_own HOC.out) hq)
              have R3 := Lib.hid (rf_drop (b := q) (Reads.of_own HOC.out))
              have hcb1 : ¬ c8 = q := fun e => hqc e.symm
              have hcb2 : ¬ c8 - q = 0 := by omega
              have LQ : Hid ((l.take q ++ f :: l.drop q).length = q + (l.length - q + 1)) := Lib.hid (by rw [LL.out]; omega)
              clear LL Z8 HOC LENH
              go_wp2_with (first
                            | (at_builtin; refine wpList_append_any _ rfl (.tmp 52) (.tmp 55) _ rfl wc.heap.size 75 i0 _ 2 32 Tryz.underlying25 hi hz0 hz1 hz2 hzs (by omega) (.slice none 0 0) 0 [] rfl (World.ownsRow_nil _ _ _ _) _ _ q _ (fc (l.take q)) rfl R1.out (fc_cell _) (by unfold maxLen; omega) (by omega) (Nat.le_refl _) ?_; intro v1 w1 ho1 hg1 hat1; have O1 := Lib.hid ho1; have B1 : Below wc.heap.size wc w1 := (Below.refl _ _).grown hg1 (Nat.le_refl _) (fun g hg => by cases hg); have B1w : Below w3.heap.size w3 w1 := HBC.out.trans (B1.mono HBC.out.size); have x1 := XO.out w1 B1w; obtain ⟨f0, f1⟩ := DF.out w1 B1w; clear ho1 hg1 hat1)
                            | (at_builtin; refine wpList_append_any _ rfl (.tmp 57) (.tmp 65) _ rfl wc.heap.size 75 i0 _ 2 32 Tryz.underlying25 hi hz0 hz1 hz2 hzs (by omega) v1 (0 + q) ([] ++ fc (l.take q)) rfl (own_later O1.out ((Below.refl _ _).alloc (Nat.le_refl _) _)) _ (some ⟨w1.heap.size, 0, none⟩) 1 _ [.string f.p, .string f.d] rfl (reads2_one _ _ _ _ _ rfl) (fc_cell [f]) (by unfold maxLen; omega) (by omega) (by simp; have := B1.size; omega) ?_; intro v2 w2 ho2 hg2 hat2; have O2 := Lib.hid ho2; have B2 : Below wc.heap.size wc w2 := (B1.alloc B1.size _).grown hg2 (by simp; have := B1.size; omega) (fun g hg => (O1.out.lt g hg).1); clear ho2 hg2 hat2)
                            | (at_builtin; refine wpList_append_any _ rfl (.tmp 67) (.tmp 70) _ rfl wc.heap.size 75 i0 _ 2 32 Tryz.underlying25 hi hz0 hz1 hz2 hzs (by omega) v2 (0 + q + 1) ([] ++ fc (l.take q) ++ [.string f.p, .string f.d]) rfl O2.out _ _ (l.length - q) _ (fc (l.drop q)) rfl (R3.out.below B2) (fc_cell _) (by unfold maxLen; omega) (by omega) B2.size ?_; intro v3 w9 ho3 hg3 hat3; have O3 := Lib.hid (CV.out _ _ ho3); obtain ⟨A9, c9, rfl⟩ := dw_form O3.out; have B3 : Below wc.heap.size wc w9 := B2.grown hg3 B2.size (fun g hg => (O2.out.lt g hg).1); clear ho3 hg3 hat3))
              go_roundw
              case rel => exact ⟨i + 1, l.take q ++ f :: l.drop q, A9, c9, by rw [LQ.out], by go_num, by omega, NX.out, Lib.hid (own_low O3.out HBC.out.size), HBC.out.trans (B3.mono HBC.out.size), Lib.hid fun h => by omega⟩
              case measure => simp [intOf]; omega
      · have hltI : ¬ (i : Int) < (rs.out.length : Int) := by omega
        obtain rfl : i = rs.out.length := by omega
        obtain ⟨A9, c9, e9, hck⟩ := CK.out l _ _ IN.out HO.out
        have HCK := Lib.hid hck
        have ES := Lib.hid (IN.out.all APH.out)
        have HBX := Lib.hid hbx
        have RF : Hid (restF rs.out = if checkE (sortP rs.out) = 0 then (sortP rs.out, 0) else ([], checkE (sortP rs.out))) := Lib.hid rfl
        clear e9 hck CK IN Z8 hbx RO XO KPH DTH
        generalize checkE (sortP rs.out) = ce at *
        by_cases h0 : ce = 0
        · subst h0
          have F := Lib.hid (RF.out.trans (if_pos rfl))
          clear RF
          go_wp2_with (go_at_call 43; (with_reducible refine (HCK.out).mono ?_); rintro e w5 ⟨rfl, hb5⟩)
          refine END.out _ _ ⟨A8, c8, ?_, ?_⟩ (HB3.out.trans ((HBX.out.mono HB3.out.size).trans (hb5.mono (by have := HBX.out.size; have := HB3.out.size; omega))))
          · rw [F.out, ES.out]; rfl
          · rw [F.out, ← ES.out]; exact Reads.of_own (own_later HO.out hb5)
        · have q1 : (ce != 0) = true := by simpa using h0
          have F := Lib.hid (RF.out.trans (if_neg h0))
          clear RF
          go_wp2_with (go_at_call 43; (with_reducible refine (HCK.out).mono ?_); rintro e w5 ⟨rfl, hb5⟩)
          refine END.out _ _ ⟨none, 0, ?_, ?_⟩ (HB3.out.trans ((HBX.out.mono HB3.out.size).trans (hb5.mono (by have := HBX.out.size; have := HB3.out.size; omega))))
          · rw [F.out]; rfl
          · rw [F.out]; exact Reads.none_
  · have q1 : (rc != 0) = true := by simpa using hc
    have F := Lib.hid (F2.out hc)
    have END : Hid (∀ w', Below w.heap.size w w' → Q (.returned (.tuple #[.slice none 0 0, .int .i64 rc])) w') := Lib.hid fun w' hb => by
      rw [← hQ]
      unfold TfSays
      rw [F.out]
      exact ⟨⟨none, 0, rfl, Reads.none_⟩, hb⟩
    clear F F1 F2 hQ
    go_enter Tryz.func9, Tryz.ntmps9
    go_wp2_with (go_at_call 42; rw [← eW]; clear eW; (with_reducible refine (C.out).mono ?_); rintro e w3 ⟨rfl, v3, D3, K3⟩)
    exact END.out _ D3.bw
end Go.Proofs.YtlndnpfjneeeeaaGreatDoor.Fs
/- FsTfLaw, what a claim needs of it (prune.py). -/
namespace Go.Proofs.YtlndnpfjneeeeaaGreatDoor.Fs
open Go.RowKit
set_option linter.unusedVariables false
set_option maxRecDepth 100000
def okT (s : ByteArray) : Bool := decide (s.size ≤ 3000)
def someB (l : List ByteArray) : Bool := decide (l.length ≤ 100) && l.all okT
theorem some_any (A : Option Addr) (l : List ByteArray) (c : Nat) (w : World) (hr : Lg.Strs w A l) (hl : l.length ≤ maxLen) (hz : ∀ s ∈ l, s.size ≤ maxLen) :
    Calls Tryz.prog 6 #[.slice A l.length c] w fun e w' => e = .returned (.bool (someB l)) ∧ w = w' := by
  unfold maxLen at hl
  by_cases h : l.length ≤ 100
  · have i0 : ¬ (100 : Int) < (l.length : Int) := by omega
    have F : Hid (someB l = l.all okT) := Lib.hid (by unfold someB; rw [decide_eq_true h, Bool.true_and])
    have HZ := Lib.hid hz
    have RD : Hid (Lg.Strs w A l) := Lib.hid hr
    have FA : Hid (∀ k (hk : k < l.length), okT l[k] = false → l.all okT = false) := Lib.hid fun k hk e => List.all_eq_false.2 ⟨_, List.getElem_mem hk, by simp [e]⟩
    clear hr hz
    go_enter Tryz.func6, Tryz.ntmps6
    go_wp2_with (fail)
    go_loop [3] (fun i => ∃ k : Nat, i = .int .i64 k ∧ k ≤ l.length ∧ Hid (∀ j (hj : j < l.length), j < k → okT l[j] = true)) (fun i => l.length - (intOf i).toNat)
    case atStart => exact ⟨0, rfl, Nat.zero_le _, Lib.hid fun j hj h => by omega⟩
    case round =>
      obtain ⟨k, rfl, hk, AL⟩ := hrel
      by_cases hlt : k < l.length
      · have hkI : (k : Int) < (l.length : Int) := by omega
        obtain ⟨ad, rfl, had, hc⟩ := RD.out.at_ hlt
        have hsz := HZ.out _ (List.getElem_mem hlt)
        unfold maxLen at hsz
        by_cases hs : l[k].size ≤ 3000
        · have q1 : ¬ (3000 : Int) < (l[k].size : Int) := by omega
          have NX : Hid (∀ j (hj : j < l.length), j < k + 1 → okT l[j] = true) := Lib.hid fun j hj hjk => by
            rcases Nat.lt_or_ge j k with h2 | h2
            · exact AL.out j hj h2
            · obtain rfl : j = k := by omega
              exact decide_eq_true hs
          generalize l[k] = s at *
          go_wp2_with (fail)
          go_round
          case rel => exact ⟨k + 1, by go_num, by omega, NX⟩
          case measure => simp [intOf]; omega
        · have q1 : (3000 : Int) < (l[k].size : Int) := by omega
          have E := Lib.hid (FA.out k hlt (decide_eq_false hs))
          clear FA
          generalize l[k] = s at *
          go_wp2_with (fail)
          go_ret
          exact ⟨by rw [F.out, E.out]; rfl, rfl⟩
      · have hkI : ¬ (k : Int) < (l.length : Int) := by omega
        have E : Hid (l.all okT = true) := Lib.hid (List.all_eq_true.2 fun s hs => by
          obtain ⟨j, hj, rfl⟩ := List.mem_iff_getElem.1 hs
          exact AL.out j hj (by omega))
        go_wp2_with (fail)
        go_ret
        exact ⟨by rw [F.out, E.out]; rfl, rfl⟩
  · have i0 : (100 : Int) < (l.length : Int) := by omega
    have F : Hid (someB l = false) := Lib.hid (by unfold someB; rw [decide_eq_false h]; rfl)
    clear hr hz
    go_enter Tryz.func6, Tryz.ntmps6
    go_wp2_with (fail)
    go_ret
    exact ⟨by rw [F.out]; rfl, rfl⟩
def YesT (w : World) (e : Ending) (w' : World) : Prop := e = .returned (.bool true) ∧ Below w.heap.size w w'
set_option maxHeartbeats 4000000 in
theorem tfiles_walk (s : ByteArray) (hs : s.size ≤ maxLen) (A : Option Addr) (l : List ByteArray) (c : Nat) (w : World) (hE : Env w) (hr : Lg.Strs w A l) (hl : l.length ≤ maxLen) (hz : ∀ t ∈ l, t.size ≤ maxLen) :
    Calls Tryz.prog 3 #[.string s, .slice A l.length c] w (YesT w) := by
  have AW : Hid (∀ W, Below w.heap.size w W → Calls Tryz.prog 7 #[] W fun e w' => e = .returned (.bool true) ∧ Below W.heap.size W w') := Lib.hid fun W hW => awake_any W (hE.below hW)
  have SM := Lib.hid (some_any A l c w hr hl hz)
  cases hb : someB l
  · rw [hb] at SM
    clear hE hr hl hz hs hb
    generalize hQ : YesT w = Q
    have EN : Hid (∀ w', Below w.heap.size w w' → Q (.returned (.bool true)) w') := Lib.hid fun w' h => by rw [← hQ]; exact ⟨rfl, h⟩
    clear hQ
    go_enter Tryz.func3, Tryz.ntmps3
    go_wp2_with (first
      | (go_at_call 6; (with_reducible refine (SM.out).mono ?_); rintro e w1 ⟨rfl, rfl⟩)
      | (go_at_call 7; ((with_reducible refine (AW.out _ (Below.refl _ _)).mono ?_); rintro e w4 ⟨rfl, hb4⟩)))
    exact EN.out _ hb4
  · rw [hb] at SM
    unfold someB at hb
    rw [Bool.and_eq_true] at hb
    have hl1 := of_decide_eq_true hb.1
    have hz1 : ∀ t ∈ l, t.size ≤ 1000000 := fun t ht => by
      have := of_decide_eq_true (List.all_eq_true.1 hb.2 t ht)
      omega
    have EB : bs (tl s) = s := rfl
    have P1 := pfiles_any A l c (tl s) w hE hr (by omega) hz1 (by rw [tl_len]; exact hs)
    rw [EB] at P1
    have R1 : Hid (∀ W, Below w.heap.size w W → Calls Tryz.prog 9 #[.string s, .slice A l.length c] W (TfSays l (tl s) W)) := Lib.hid fun W hW => by
      have h := rfiles_any A l c (tl s) W (hr.below hW) (by omega) hz1 (by rw [tl_len]; exact hs)
      rw [EB] at h
      exact h
    have P1 := Lib.hid P1
    have LN : (filesF l (tl s)).1.length ≤ 1000000000 := by
      unfold filesF
      split
      · split
        · have h := (go_keeps l 1001 (tl s) [] ⟨0, []⟩ (Nat.zero_le _) (by simp) (by simp) (by simp)).1.out
          rw [(sortP_perm _).length_eq]
          omega
        · simp
      · simp
    unfold TfSays at P1 R1
    generalize (filesF l (tl s)).1 = m at *
    generalize (filesF l (tl s)).2 = ec at *
    have e1 : (ec == ec) = true := by simp
    have ed : decide (m = m) = true := by simp
    clear hE hr hl hz hs hb hl1 hz1 EB
    generalize hQ : YesT w = Q
    have EN : Hid (∀ w', Below w.heap.size w w' → Q (.returned (.bool true)) w') := Lib.hid fun w' h => by rw [← hQ]; exact ⟨rfl, h⟩
    clear hQ
    go_enter Tryz.func3, Tryz.ntmps3
    go_wp2_with (first
      | (go_at_call 6; (with_reducible refine (SM.out).mono ?_); rintro e w1 ⟨rfl, rfl⟩)
      | (go_at_call 8; (with_reducible refine (P1.out).mono ?_); rintro e w1 ⟨⟨A1, c1, rfl, hr1⟩, hb1⟩; have H1 := Lib.hid hr1; clear hr1)
      | (go_at_call 9; (with_reducible refine (R1.out _ hb1).mono ?_); rintro e w2 ⟨⟨A2, c2, rfl, hr2⟩, hb2⟩; have hb12 := hb1.trans (hb2.mono hb1.size); have SA := Lib.hid (rsameF_any A1 A2 m m c1 c2 w2 LN LN ((H1.out.below hb2).more hb2.size) hr2); clear hr2)
      | (go_at_call 10; (with_reducible refine (SA.out).mono ?_); rintro e w3 ⟨rfl, hb3⟩; have hb13 := hb12.trans (hb3.mono hb12.size))
      | (go_at_call 7; ((with_reducible refine (AW.out _ hb13).mono ?_); rintro e w4 ⟨rfl, hb4⟩)))
    exact EN.out _ (hb13.trans (hb4.mono hb13.size))
end Go.Proofs.YtlndnpfjneeeeaaGreatDoor.Fs
