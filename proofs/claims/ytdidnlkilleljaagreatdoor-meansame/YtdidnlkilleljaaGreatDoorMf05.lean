/- Joined by mkmerged.py: LgNum, LgAll, LgEq, LgStepW, LgStepB, LgRsplit. -/
import Derived.Test.YtdidnlkilleljaaGreatDoorMf03
import Derived.Test.YtdidnlkilleljaaGreatDoorMf04
import Derived.Lib.AtoiTie
import Derived.Lib.AtoiAllCases
import Derived.Lib.AppendIntMem
import Derived.Laws.ResultCell
import Derived.Laws.Rows
import Derived.Laws.NewBlocks
/- LgNum, what a claim needs of it (prune.py). -/
namespace Go.Proofs.YtdidnlkilleljaaGreatDoor.Lg
open Go.RowKit
set_option linter.unusedVariables false
set_option maxRecDepth 100000
def Env (w : World) : Prop :=
  (∃ m, w.cell? ⟨2, 0, none⟩ = some (.int .i64 m)) ∧ Lib.TabIs Tryz.prog w "internal/strconv.uint64pow10" .u64 Lib.pow10Tab ∧ Lib.TabIs Tryz.prog w "strings.asciiSpace" .u8 Lib.asciiSpaceTab ∧
  (∃ t p, w.cell? ⟨6, 0, none⟩ = some (.iface t p)) ∧ (∃ t p, w.cell? ⟨7, 0, none⟩ = some (.iface t p))
theorem cell_lt {w : World} {a : Addr} {v : Value} (h : w.cell? a = some v) : a.block < w.heap.size := by
  unfold World.cell? at h
  rcases Nat.lt_or_ge a.block w.heap.size with h1 | h1
  · exact h1
  · rw [Array.getElem?_eq_none h1] at h; cases h
theorem Env.below {w w' : World} (h : Env w) (hb : Below w.heap.size w w') : Env w' := by
  obtain ⟨⟨m, h1⟩, h2, h3, ⟨t, p, h4⟩, ⟨t', p', h5⟩⟩ := h
  exact ⟨⟨m, (hb.cell (cell_lt h1)).trans h1⟩, Lib.tabBelow_of_tabIs h2 w' hb, Lib.tabBelow_of_tabIs h3 w' hb, ⟨t, p, (hb.cell (cell_lt h4)).trans h4⟩, ⟨t', p', (hb.cell (cell_lt h5)).trans h5⟩⟩
theorem atoi_two {s : List UInt8} {n : Nat} (h : number s = some n) : Lib.atoiAll s = .ok (n : Int) := by
  have hd := number_some h
  match s, h with
  | [c], h =>
    simp only [number] at h
    split at h
    · next hc =>
      injection h with h
      subst h
      rw [Lib.atoiAll_short _ (by simp)]
      have n1 : (c == 45) = false := by simp; intro e; subst e; simp at hc
      have n2 : (c == 43) = false := by simp; intro e; subst e; simp at hc
      simp only [Lib.atoi, n1, n2, Lib.decNat, Lib.decFrom, Lib.digitVal, hc]
      simp [Lib.NumEnd.ofOption]
    · cases h
  | [c, d], h =>
    simp only [number] at h
    split at h
    · next hc =>
      injection h with h
      subst h
      rw [Lib.atoiAll_short _ (by simp)]
      have n1 : (c == 45) = false := by simp; intro e; subst e; simp at hc
      have n2 : (c == 43) = false := by simp; intro e; subst e; simp at hc
      have hc1 : 48 ≤ c.toNat ∧ c.toNat ≤ 57 := by omega
      simp only [Lib.atoi, n1, n2, Lib.decNat, Lib.decFrom, Lib.digitVal, hc.2.2, hc1]
      simp [Lib.NumEnd.ofOption]
      omega
    · cases h
def TimesSays (s : List UInt8) (e : Ending) : Prop := ∃ n : Int, e = .returned (.tuple #[.int .i64 n, .bool (number s).isSome]) ∧ ∀ k, number s = some k → n = k
set_option maxHeartbeats 1000000 in
theorem times_any (s : ByteArray) (hs : s.size ≤ 1000000000) (w : World) (hE : Env w) :
    Calls Tryz.prog 144 #[.string s] w fun e w' => TimesSays (tl s) e ∧ Below w.heap.size w w' := by
  cases hn : number (tl s) with
  | some n =>
    obtain ⟨h1, h2⟩ := number_some hn
    have AT := Lib.hid (Tryz.strconv_Atoi_ok s (by omega) n (atoi_two hn) w)
    have IT : Hid (∀ W, Calls Tryz.prog 110 #[.int .i64 n] W fun e w' => e = .returned (.string s) ∧ W = w') := Lib.hid (fun W => (Tryz.strconv_Itoa_small n h1 W).mono (fun e w' ⟨h3, h4⟩ => ⟨by rw [h3, h2], h4.symm⟩))
    have FIN : Hid (TimesSays (tl s) (.returned (.tuple #[.int .i64 n, .bool true]))) := Lib.hid ⟨n, by rw [hn]; rfl, fun k hk => by rw [hn] at hk; injection hk with hk; rw [hk]⟩
    have e1 : (0 : Int) ≤ (n : Int) := by omega
    have e2 : (n : Int) ≤ 99 := by omega
    have e3 : (s.toList == s.toList) = true := by simp
    clear hn h2
    go_enter Tryz.func144, Tryz.ntmps144
    go_wp2_with (go_at_call 191; ((with_reducible refine (AT.out).mono ?_); rintro e w1 ⟨rfl, hw1⟩))
    have B1 : Hid (Below w.heap.size w w1) := Lib.hid (by
      rcases hw1 with rfl | ⟨t, rfl⟩
      · exact Below.refl _ _
      · exact Lib.bytesWorld_below _ _ _)
    clear hw1
    go_wp2_with (go_at_call 110; ((with_reducible refine (IT.out _).mono ?_); rintro e w2 ⟨rfl, rfl⟩))
    go_ret2
    exact ⟨FIN.out, B1.out⟩
  | none =>
    have FIN : Hid (∀ n : Int, TimesSays (tl s) (.returned (.tuple #[.int .i64 n, .bool false]))) := Lib.hid fun n => ⟨n, by rw [hn]; rfl, fun k hk => by rw [hn] at hk; cases hk⟩
    have NO : Hid (∀ v : Int, 0 ≤ v → v ≤ 99 → (⟨(Lib.itoa v).toArray⟩ : ByteArray) ≠ s) := Lib.hid fun v h0 h1 e => by
      obtain ⟨n, rfl⟩ : ∃ n : Nat, v = n := ⟨v.toNat, by omega⟩
      rw [itoa_nat'] at e
      have h2 := number_dec (n := n) (by omega)
      rw [← e] at hn
      have h3 : tl (⟨(Lib.decDigits n).toArray⟩ : ByteArray) = Lib.decDigits n := rfl
      rw [h3, h2] at hn
      cases hn
    clear hn
    obtain ⟨_, hT, _, ⟨t1, p1, hS⟩, ⟨t2, p2, hR⟩⟩ := hE
    rcases ha : Lib.atoiAll (tl s) with v | _ | _
    · skip
      have hb := Lib.atoiAll_bounds ha
      have AT := Lib.hid (Tryz.strconv_Atoi_ok s (by omega) v ha w)
      have IT : Hid (∀ W, Below w.heap.size w W → Calls Tryz.prog 110 #[.int .i64 v] W fun e w' => e = .returned (.string ⟨(Lib.itoa v).toArray⟩) ∧ Below W.heap.size W w') := Lib.hid (fun W hW => (Tryz.strconv_Itoa v hb.1 hb.2 W (Lib.tabBelow_of_tabIs hT W hW)).mono (fun e w' ⟨h3, k, os, h4⟩ => ⟨h3, by rw [h4]; exact Lib.below_grow _ _ (Nat.le_refl _) _ _⟩))
      clear ha hT hS hR hb
      go_enter Tryz.func144, Tryz.ntmps144
      go_wp2_with (go_at_call 191; ((with_reducible refine (AT.out).mono ?_); rintro e w1 ⟨rfl, hw1⟩))
      have B1 : Hid (Below w.heap.size w w1) := Lib.hid (by
        rcases hw1 with rfl | ⟨t, rfl⟩
        · exact Below.refl _ _
        · exact Lib.bytesWorld_below _ _ _)
      clear hw1
      have I1 := Lib.hid (IT.out w1 B1.out)
      by_cases h0 : 0 ≤ v
      · by_cases h9 : v ≤ 99
        · have e1 := s_ne (NO.out v h0 h9)
          generalize (⟨(Lib.itoa v).toArray⟩ : ByteArray) = sv at *
          go_wp2_with (go_at_call 110; ((with_reducible refine (I1.out).mono ?_); rintro e w2 ⟨rfl, hw2⟩))
          go_ret2
          exact ⟨FIN.out _, B1.out.trans (hw2.mono B1.out.size)⟩
        · by_cases he : (⟨(Lib.itoa v).toArray⟩ : ByteArray) = s
          · have e3 : (s.toList == s.toList) = true := by simp
            rw [he] at I1
            clear he
            go_wp2_with (go_at_call 110; ((with_reducible refine (I1.out).mono ?_); rintro e w2 ⟨rfl, hw2⟩))
            go_ret2
            refine ⟨?_, B1.out.trans (hw2.mono B1.out.size)⟩
            show TimesSays (tl s) (.returned (.tuple #[.int .i64 v, .bool (decide (v ≤ 99))]))
            rw [decide_eq_false (by omega : ¬ v ≤ 99)]
            exact FIN.out _
          · have e1 := s_ne he
            clear he
            generalize (⟨(Lib.itoa v).toArray⟩ : ByteArray) = sv at *
            go_wp2_with (go_at_call 110; ((with_reducible refine (I1.out).mono ?_); rintro e w2 ⟨rfl, hw2⟩))
            go_ret2
            exact ⟨FIN.out _, B1.out.trans (hw2.mono B1.out.size)⟩
      · by_cases he : (⟨(Lib.itoa v).toArray⟩ : ByteArray) = s
        · have e3 : (s.toList == s.toList) = true := by simp
          rw [he] at I1
          clear he
          go_wp2_with (go_at_call 110; ((with_reducible refine (I1.out).mono ?_); rintro e w2 ⟨rfl, hw2⟩))
          go_ret2
          exact ⟨FIN.out _, B1.out.trans (hw2.mono B1.out.size)⟩
        · have e1 := s_ne he
          clear he
          generalize (⟨(Lib.itoa v).toArray⟩ : ByteArray) = sv at *
          go_wp2_with (go_at_call 110; ((with_reducible refine (I1.out).mono ?_); rintro e w2 ⟨rfl, hw2⟩))
          go_ret2
          exact ⟨FIN.out _, B1.out.trans (hw2.mono B1.out.size)⟩
    · skip
      have AT := Lib.hid (Tryz.strconv_Atoi_syntax s (by omega) ha _ w hS (.inr ⟨t1, p1, rfl⟩))
      clear ha hT hS hR
      go_enter Tryz.func144, Tryz.ntmps144
      go_wp2_with (go_at_call 191; ((with_reducible refine (AT.out).mono ?_); rintro e w1 ⟨N, rfl, _, _, hb⟩))
      go_ret2
      exact ⟨FIN.out _, hb⟩
    · skip
      have AT := Lib.hid (Tryz.strconv_Atoi_range s (by omega) ha _ w hR (.inr ⟨t2, p2, rfl⟩))
      clear ha hT hS hR
      go_enter Tryz.func144, Tryz.ntmps144
      go_wp2_with (go_at_call 191; ((with_reducible refine (AT.out).mono ?_); rintro e w1 ⟨N, rfl, _, _, hb⟩))
      go_ret2
      exact ⟨FIN.out _, hb⟩
end Go.Proofs.YtdidnlkilleljaaGreatDoor.Lg
/- LgAll, what a claim needs of it (prune.py). -/
namespace Go.Proofs.YtdidnlkilleljaaGreatDoor.Lg
open Go.RowKit
set_option linter.unusedVariables false
set_option maxRecDepth 100000
def allP (l : List ByteArray) : Bool := l.all fun p => pathOk (tl p)
theorem pathE_ne (s : List UInt8) : (pathE s != 0) = !pathOk s := by
  rw [pathE]; cases pathOk s <;> rfl
theorem allP_bad {l : List ByteArray} {k : Nat} (hk : k < l.length) (h : pathOk (tl (l[k]'hk)) = false) : allP l = false := by
  cases e : allP l with
  | false => rfl
  | true =>
    have := List.all_eq_true.1 e _ (List.getElem_mem hk)
    rw [h] at this; cases this
theorem allP_ok {l : List ByteArray} (h : ∀ j (hj : j < l.length), j < l.length → pathOk (tl (l[j]'hj)) = true) : allP l = true := by
  refine List.all_eq_true.2 fun x hx => ?_
  obtain ⟨j, hj, rfl⟩ := List.mem_iff_getElem.1 hx
  exact h j hj hj
theorem allf_any (p : ByteArray) (w : World) (hs : p.size ≤ 1000000000) (hE : Env w) :
    Calls Tryz.prog 190 #[.string p] w fun e w' => e = .returned (.bool (!pathOk (tl p))) ∧ Below w.heap.size w w' := by
  obtain ⟨⟨m, hm⟩, _⟩ := hE
  have PP := Lib.hid (ppath_any p m w hs hm)
  have NE := Lib.hid (pathE_ne (tl p))
  clear hm
  go_enter Tryz.func190, Tryz.ntmps190
  go_wp2_with (go_at_call 47; ((with_reducible refine (PP.out).mono ?_); rintro e w1 ⟨rfl, hb⟩))
  go_ret
  exact ⟨ret_bool NE.out.symm, hb⟩
theorem indexf_any (A : Option Addr) (l : List ByteArray) (c : Nat) (w : World) (hE : Env w) (hr : Strs w A l) (hl : l.length ≤ 1000000000) (hs : ∀ p ∈ l, p.size ≤ 1000000000) :
    Calls Tryz.prog 133 #[.slice A l.length c, .func (.func 190) #[] #[]] w fun e w' => (∃ r : Int, e = .returned (.int .i64 r) ∧ decide (0 ≤ r) = !allP l) ∧ Below w.heap.size w w' := by
  have EV : Hid (∀ W, Below w.heap.size w W → Env W) := Lib.hid fun W hW => hE.below hW
  have RD : Hid (∀ W, Below w.heap.size w W → Strs W A l) := Lib.hid fun W hW => hr.below hW
  have SZ := Lib.hid hs
  clear hE hr hs
  go_enter Tryz.func133, Tryz.ntmps133
  go_wp2_with (fail)
  go_loopw [8] (fun i W => ∃ k : Nat, i = .int .i64 k ∧ k ≤ l.length ∧ (∀ j (hj : j < l.length), j < k → pathOk (tl l[j]) = true) ∧ Below w.heap.size w W) (fun i _ => l.length - (intOf i).toNat)
  case atStart => exact ⟨0, rfl, by omega, fun j _ h => by omega, Below.refl _ _⟩
  case round =>
    obtain ⟨k, rfl, hk, ha, hb⟩ := hrel
    have HA := Lib.hid ha
    clear ha
    by_cases hlt : k < l.length
    · have hkI : (k : Int) < (l.length : Int) := by omega
      obtain ⟨ad, rfl, _, hc⟩ := (RD.out _ hb).at_ hlt
      have AF := Lib.hid (allf_any l[k] wr (SZ.out _ (List.getElem_mem hlt)) (EV.out _ hb))
      have NXT := Lib.hid (upto_next (p := fun p => pathOk (tl p)) hlt HA.out)
      have BAD := Lib.hid (allP_bad (l := l) hlt)
      generalize l[k] = p at *
      cases hp : pathOk (tl p)
      · rw [hp] at AF
        have F := Lib.hid (BAD.out hp)
        clear hp BAD
        go_wp2_with (go_at_call 190; ((with_reducible refine (AF.out).mono ?_); rintro e w1 ⟨rfl, hb1⟩))
        go_ret
        exact ⟨⟨k, rfl, by rw [F.out]; simp⟩, hb.trans (hb1.mono hb.size)⟩
      · rw [hp] at AF
        have F := Lib.hid (NXT.out hp)
        clear hp BAD
        go_wp2_with (go_at_call 190; ((with_reducible refine (AF.out).mono ?_); rintro e w1 ⟨rfl, hb1⟩))
        go_roundw
        case rel => exact ⟨k + 1, by go_num, by omega, F.out, hb.trans (hb1.mono hb.size)⟩
        case measure => simp [intOf]; omega
    · obtain rfl : k = l.length := by omega
      have F := Lib.hid (allP_ok (l := l) (fun j hj h => HA.out j hj h))
      go_wp2_with (fail)
      go_ret
      exact ⟨⟨-1, rfl, by rw [F.out]; rfl⟩, hb⟩
theorem containsf_any (A : Option Addr) (l : List ByteArray) (c : Nat) (w : World) (hE : Env w) (hr : Strs w A l) (hl : l.length ≤ 1000000000) (hs : ∀ p ∈ l, p.size ≤ 1000000000) :
    Calls Tryz.prog 75 #[.slice A l.length c, .func (.func 190) #[] #[]] w fun e w' => e = .returned (.bool (!allP l)) ∧ Below w.heap.size w w' := by
  have IX := Lib.hid (indexf_any A l c w hE hr hl hs)
  clear hE hr hs
  go_enter Tryz.func75, Tryz.ntmps75
  go_wp2_with (go_at_call 133; ((with_reducible refine (IX.out).mono ?_); rintro e w1 ⟨⟨r, rfl, hd⟩, hb⟩; have HD := Lib.hid hd; clear hd))
  go_ret
  exact ⟨ret_bool HD.out.symm, hb⟩
theorem lall_any (A : Option Addr) (l : List ByteArray) (c a b : Nat) (w : World) (hE : Env w) (hr : Strs w A l) (hl : l.length ≤ 1000000000) (hs : ∀ p ∈ l, p.size ≤ 1000000000) (ha : a ≤ 100) (hb : b ≤ 100) :
    Calls Tryz.prog 142 #[.slice A l.length c, .int .i64 a, .int .i64 b] w fun e w' => e = .returned (.bool (decide (a ≤ l.length) && decide (l.length ≤ b) && allP l)) ∧ Below w.heap.size w w' := by
  have CT := Lib.hid (containsf_any A l c w hE hr hl hs)
  clear hE hr hs
  by_cases h1 : a ≤ l.length
  · have e1 : (a : Int) ≤ (l.length : Int) := by omega
    by_cases h2 : l.length ≤ b
    · have e2 : (l.length : Int) ≤ (b : Int) := by omega
      have F : Hid ((decide (a ≤ l.length) && decide (l.length ≤ b) && allP l) = allP l) := Lib.hid (by rw [decide_eq_true h1, decide_eq_true h2]; rfl)
      generalize allP l = q at *
      clear h1 h2
      go_enter Tryz.func142, Tryz.ntmps142
      go_wp2_with (go_at_call 75; ((with_reducible refine (CT.out).mono ?_); rintro e w1 ⟨rfl, hb1⟩))
      go_ret
      exact ⟨ret_bool (by rw [F.out]; try (cases q <;> rfl)), hb1⟩
    · have e2 : ¬ (l.length : Int) ≤ (b : Int) := by omega
      have F : Hid ((decide (a ≤ l.length) && decide (l.length ≤ b) && allP l) = false) := Lib.hid (by rw [decide_eq_false h2]; simp)
      clear h1 h2
      go_enter Tryz.func142, Tryz.ntmps142
      go_wp2_with (fail)
      go_ret
      exact ⟨ret_bool F.out, Below.refl _ _⟩
  · have e1 : ¬ (a : Int) ≤ (l.length : Int) := by omega
    have F : Hid ((decide (a ≤ l.length) && decide (l.length ≤ b) && allP l) = false) := Lib.hid (by rw [decide_eq_false h1]; rfl)
    clear h1
    go_enter Tryz.func142, Tryz.ntmps142
    go_wp2_with (fail)
    go_ret
    exact ⟨ret_bool F.out, Below.refl _ _⟩
end Go.Proofs.YtdidnlkilleljaaGreatDoor.Lg
/- LgEq, what a claim needs of it (prune.py). -/
namespace Go.Proofs.YtdidnlkilleljaaGreatDoor.Lg
set_option linter.unusedVariables false
def sameL : List Stp → List Stp → Bool
  | [], [] => true
  | ⟨o, a, n, b⟩ :: r, ⟨o', a', n', b'⟩ :: r' => decide (o = o') && decide (n = n') && decide (a = a') && sameL b b' && sameL r r'
  | [], _ :: _ => false
  | _ :: _, [] => false
theorem sameL_refl : ∀ l, sameL l l = true
  | [] => by rw [sameL]
  | ⟨o, a, n, b⟩ :: r => by rw [sameL, sameL_refl b, sameL_refl r]; simp
theorem sameL_eq : ∀ {l m}, sameL l m = true → l = m
  | [], [], _ => rfl
  | [], _ :: _, h => by rw [sameL] at h; cases h
  | _ :: _, [], h => by rw [sameL] at h; cases h
  | ⟨o, a, n, b⟩ :: r, ⟨o', a', n', b'⟩ :: r', h => by
    rw [sameL] at h
    simp only [Bool.and_eq_true, decide_eq_true_eq] at h
    obtain ⟨⟨⟨⟨rfl, rfl⟩, rfl⟩, h1⟩, h2⟩ := h
    rw [sameL_eq h1, sameL_eq h2]
theorem sameL_len : ∀ {l m}, l.length ≠ m.length → sameL l m = false := by
  intro l m h
  cases e : sameL l m with
  | false => rfl
  | true => exact absurd (by rw [sameL_eq e]) h
def weight : List Stp → Nat
  | [] => 0
  | ⟨_, _, _, b⟩ :: r => 1 + weight b + weight r
def wide : List Stp → Nat
  | [] => 0
  | ⟨_, a, _, b⟩ :: r => a.length + wide b + wide r
theorem len_weight : ∀ l : List Stp, l.length ≤ weight l
  | [] => by simp
  | ⟨_, a, _, b⟩ :: r => by
    have := len_weight r
    simp only [List.length_cons, weight]; omega
theorem wide_at : ∀ {l : List Stp} {k : Nat} (hk : k < l.length), wide (l[k]).block + (l[k]).args.length ≤ wide l
  | ⟨_, a, _, b⟩ :: r, 0, hk => by simp only [wide, List.getElem_cons_zero, Stp.block, Stp.args]; omega
  | ⟨_, a, _, b⟩ :: r, k + 1, hk => by
    have := wide_at (l := r) (k := k) (by simpa using hk)
    simp only [List.getElem_cons_succ, wide]
    omega
theorem join_len (c : UInt8) : ∀ (x : B) (l : List B), l.length ≤ (joinB c (x :: l)).length
  | x, [] => by simp
  | x, y :: r => by
    have := join_len c y r
    rw [joinB]
    simp only [List.length_cons, List.length_append]
    omega
theorem flat_len : ∀ l : List B, (l.flatMap fun s => s ++ [10]).length = (l.map List.length).sum + l.length
  | [] => rfl
  | x :: r => by
    rw [List.flatMap_cons, List.length_append, flat_len r]
    simp; omega
theorem head_len (op : Int) (args : List B) (n : Int) : args.length ≤ (headW op args n).length := by
  have := join_len 32 (wordOf op) args
  rw [headW, List.length_append]
  omega
def plainL : List Stp → Prop
  | [] => True
  | ⟨o, _, _, b⟩ :: r => ((o = 9 ∨ o = 10) ∨ b = []) ∧ plainL b ∧ plainL r
theorem print_len : ∀ {l : List Stp}, plainL l → weight l + wide l ≤ ((linesOf l).map List.length).sum + (linesOf l).length
  | [], _ => by simp [weight, wide]
  | ⟨o, a, n, b⟩ :: r, h => by
    rw [plainL] at h
    have h1 := print_len h.2.1
    have h2 := print_len h.2.2
    have h3 := head_len o a n
    rw [linesOf, weight, wide]
    by_cases ho : o = 9 ∨ o = 10
    · rw [if_pos ho]
      simp only [List.cons_append, List.map_cons, List.sum_cons, List.length_cons, List.map_append, List.sum_append, List.length_append, List.map_nil, List.sum_nil, List.length_nil, Nat.add_zero]
      omega
    · rw [if_neg ho]
      have hb : b = [] := h.1.resolve_left ho
      subst hb
      simp only [weight, wide, List.cons_append, List.nil_append, List.map_cons, List.sum_cons, List.length_cons]
      omega
theorem plain_app : ∀ {a b : List Stp}, plainL a → plainL b → plainL (a ++ b)
  | [], b, _, h => h
  | ⟨o, x, n, k⟩ :: r, b, h, h2 => by
    rw [plainL] at h
    rw [List.cons_append, plainL]
    exact ⟨h.1, h.2.1, plain_app h.2.2 h2⟩
theorem bk_plain : ∀ (k deep : Nat) (out o : List Stp) (lines r : List B), lines.length ≤ k → plainL out → bk deep out lines = .ok o r → plainL o
  | k, deep, out, o, [], r, hk, hp, h => by
    rw [bk_nil] at h
    split at h
    · cases h
    · cases h; exact hp
  | 0, deep, out, o, line :: rest, r, hk, hp, h => absurd hk (by simp)
  | k + 1, deep, out, o, line :: rest, r, hk, hp, h => by
    simp only [List.length_cons] at hk
    rw [bk_cons] at h
    split at h
    · split at h
      · cases h; exact hp
      · cases h
    · split at h
      · cases h
      · next op args n e =>
        split at h
        · next hb =>
          split at h
          · cases h
          · split at h
            · cases h
            · next inn rest' e2 =>
              have hle := bk_le e2
              have h1 := bk_plain k (deep + 1) [] _ rest _ (by omega) (by simp [plainL]) e2
              exact bk_plain k deep _ _ rest' _ (by omega) (plain_app hp (by simp only [plainL]; exact ⟨.inl hb, h1, trivial⟩)) h
        · exact bk_plain k deep _ _ rest _ (by omega) (plain_app hp (by simp only [plainL]; exact ⟨.inr trivial, trivial, trivial⟩)) h
theorem parse_size {cmd : B} {m : List Stp} {e : Nat} (h : parse cmd = (m, e)) : weight m + wide m ≤ cmd.length := by
  by_cases he : e = 0
  · subst he
    have hp : plainL m := by
      rcases parse_ok h with ⟨_, rfl⟩ | ⟨_, _, _, r, hb⟩
      · simp [plainL]
      · exact bk_plain _ _ _ _ _ _ (Nat.le_refl _) (by simp [plainL]) hb
    have h1 := print_len hp
    have h2 := parse_print h
    rw [← flat_len] at h1
    rw [print] at h2
    rw [h2] at h1
    exact h1
  · have := parse_no (cmd := cmd) (by rw [h]; exact he)
    rw [h] at this
    simp only at this
    subst this
    simp [weight, wide]
def sameS (x y : Stp) : Bool := decide (x.op = y.op) && decide (x.n = y.n) && decide (x.args = y.args) && sameL x.block y.block
theorem weight_at : ∀ {l : List Stp} {k : Nat} (hk : k < l.length), weight (l[k]).block < weight l
  | ⟨_, _, _, b⟩ :: r, 0, hk => by simp only [weight, List.getElem_cons_zero, Stp.block]; omega
  | ⟨_, _, _, b⟩ :: r, k + 1, hk => by
    have := weight_at (l := r) (k := k) (by simpa using hk)
    simp only [List.getElem_cons_succ, weight]
    omega
theorem same_iff : ∀ {l m : List Stp}, l.length = m.length → (sameL l m = true ↔ ∀ k (h1 : k < l.length) (h2 : k < m.length), sameS l[k] m[k] = true)
  | [], [], _ => by simp [sameL]
  | [], _ :: _, h => by simp at h
  | _ :: _, [], h => by simp at h
  | ⟨o, a, n, b⟩ :: r, ⟨o', a', n', b'⟩ :: r', h => by
    rw [sameL]
    have ih := same_iff (l := r) (m := r') (by simpa using h)
    constructor
    · intro h1 k h2 h3
      rw [Bool.and_eq_true] at h1
      cases k with
      | zero => exact h1.1
      | succ k => exact ih.1 h1.2 k (by simpa using h2) (by simpa using h3)
    · intro h1
      rw [Bool.and_eq_true]
      exact ⟨h1 0 (by simp) (by simp), ih.2 fun k h2 h3 => h1 (k + 1) (by simp; omega) (by simp; omega)⟩
theorem same_all {l m : List Stp} (hl : l.length = m.length) (h : ∀ k (h1 : k < l.length) (h2 : k < m.length), k < l.length → sameS l[k] m[k] = true) : sameL l m = true :=
  (same_iff hl).2 fun k h1 h2 => h k h1 h2 h1
theorem same_bad {l m : List Stp} {k : Nat} (h1 : k < l.length) (h2 : k < m.length) (h : sameS l[k] m[k] = false) : sameL l m = false := by
  cases e : sameL l m with
  | false => rfl
  | true =>
    have hl : l.length = m.length := by rw [sameL_eq e]
    have := (same_iff hl).1 e k h1 h2
    rw [h] at this; cases this
end Go.Proofs.YtdidnlkilleljaaGreatDoor.Lg
/- LgStepW, what a claim needs of it (prune.py). -/
namespace Go.Proofs.YtdidnlkilleljaaGreatDoor.Lg
set_option linter.unusedVariables false
theorem stepW_cons (x : B) (a : List B) : stepW (x :: a) =
    if x = [112, 117, 116] then (if a.length = 2 ∧ (a.take 1).all pathOk = true ∧ (a.drop 1).all textOk = true then some ((1 : Int), a, (0 : Int)) else none) else
    if x = [99, 111, 112, 121] then (if a.length = 2 ∧ a.all pathOk = true then some ((2 : Int), a, (0 : Int)) else none) else
    if x = [99, 97, 116] then (if 2 ≤ a.length ∧ a.length ≤ 8 ∧ a.all pathOk = true then some ((3 : Int), a, (0 : Int)) else none) else
    if x = [117, 112, 112, 101, 114] then (if a.length = 1 ∧ a.all pathOk = true then some ((4 : Int), a, (0 : Int)) else none) else
    if x = [115, 111, 114, 116] then (if a.length = 1 ∧ a.all pathOk = true then some ((5 : Int), a, (0 : Int)) else none) else
    if x = [100, 114, 111, 112] then (if a.length = 1 ∧ a.all pathOk = true then some ((6 : Int), a, (0 : Int)) else none) else
    if x = [110, 101, 101, 100] then (if a.length = 1 ∧ a.all nameOk = true then some ((7 : Int), a, (0 : Int)) else none) else
    if x = [102, 97, 105, 108] then (if a.length = 1 ∧ a.all textOk = true then some ((8 : Int), a, (0 : Int)) else none) else
    if x = [108, 111, 111, 112] then (match a with | [x] => (match number x with | some k => some ((9 : Int), [], (k : Int)) | none => none) | _ => none) else
    if x = [105, 102] then (if a.length = 1 ∧ a.all pathOk = true then some ((10 : Int), a, (0 : Int)) else none) else
    none := by
  rcases a with _ | ⟨y, _ | ⟨z, t⟩⟩
  · rfl
  · unfold stepW; cases number y <;> rfl
  · rfl
theorem stepW_put (a : List B) : stepW ([112, 117, 116] :: a) = (if a.length = 2 ∧ (a.take 1).all pathOk = true ∧ (a.drop 1).all textOk = true then some ((1 : Int), a, (0 : Int)) else none) := by
  rw [stepW_cons]
  rw [if_pos rfl]
theorem stepW_copy (a : List B) : stepW ([99, 111, 112, 121] :: a) = (if a.length = 2 ∧ a.all pathOk = true then some ((2 : Int), a, (0 : Int)) else none) := by
  rw [stepW_cons]
  rw [if_neg (by decide), if_pos rfl]
theorem stepW_cat (a : List B) : stepW ([99, 97, 116] :: a) = (if 2 ≤ a.length ∧ a.length ≤ 8 ∧ a.all pathOk = true then some ((3 : Int), a, (0 : Int)) else none) := by
  rw [stepW_cons]
  rw [if_neg (by decide), if_neg (by decide), if_pos rfl]
theorem stepW_upper (a : List B) : stepW ([117, 112, 112, 101, 114] :: a) = (if a.length = 1 ∧ a.all pathOk = true then some ((4 : Int), a, (0 : Int)) else none) := by
  rw [stepW_cons]
  rw [if_neg (by decide), if_neg (by decide), if_neg (by decide), if_pos rfl]
theorem stepW_sort (a : List B) : stepW ([115, 111, 114, 116] :: a) = (if a.length = 1 ∧ a.all pathOk = true then some ((5 : Int), a, (0 : Int)) else none) := by
  rw [stepW_cons]
  rw [if_neg (by decide), if_neg (by decide), if_neg (by decide), if_neg (by decide), if_pos rfl]
theorem stepW_drop (a : List B) : stepW ([100, 114, 111, 112] :: a) = (if a.length = 1 ∧ a.all pathOk = true then some ((6 : Int), a, (0 : Int)) else none) := by
  rw [stepW_cons]
  rw [if_neg (by decide), if_neg (by decide), if_neg (by decide), if_neg (by decide), if_neg (by decide), if_pos rfl]
theorem stepW_need (a : List B) : stepW ([110, 101, 101, 100] :: a) = (if a.length = 1 ∧ a.all nameOk = true then some ((7 : Int), a, (0 : Int)) else none) := by
  rw [stepW_cons]
  rw [if_neg (by decide), if_neg (by decide), if_neg (by decide), if_neg (by decide), if_neg (by decide), if_neg (by decide), if_pos rfl]
theorem stepW_fail (a : List B) : stepW ([102, 97, 105, 108] :: a) = (if a.length = 1 ∧ a.all textOk = true then some ((8 : Int), a, (0 : Int)) else none) := by
  rw [stepW_cons]
  rw [if_neg (by decide), if_neg (by decide), if_neg (by decide), if_neg (by decide), if_neg (by decide), if_neg (by decide), if_neg (by decide), if_pos rfl]
theorem stepW_loop (a : List B) : stepW ([108, 111, 111, 112] :: a) = (match a with | [x] => (match number x with | some k => some ((9 : Int), [], (k : Int)) | none => none) | _ => none) := by
  rw [stepW_cons]
  rw [if_neg (by decide), if_neg (by decide), if_neg (by decide), if_neg (by decide), if_neg (by decide), if_neg (by decide), if_neg (by decide), if_neg (by decide), if_pos rfl]
theorem stepW_if (a : List B) : stepW ([105, 102] :: a) = (if a.length = 1 ∧ a.all pathOk = true then some ((10 : Int), a, (0 : Int)) else none) := by
  rw [stepW_cons]
  rw [if_neg (by decide), if_neg (by decide), if_neg (by decide), if_neg (by decide), if_neg (by decide), if_neg (by decide), if_neg (by decide), if_neg (by decide), if_neg (by decide), if_pos rfl]
theorem stepW_no {x : B} (a : List B) (h1 : x ≠ [112, 117, 116]) (h2 : x ≠ [99, 111, 112, 121]) (h3 : x ≠ [99, 97, 116]) (h4 : x ≠ [117, 112, 112, 101, 114]) (h5 : x ≠ [115, 111, 114, 116]) (h6 : x ≠ [100, 114, 111, 112]) (h7 : x ≠ [110, 101, 101, 100]) (h8 : x ≠ [102, 97, 105, 108]) (h9 : x ≠ [108, 111, 111, 112]) (h10 : x ≠ [105, 102]) : stepW (x :: a) = none := by
  rw [stepW_cons]
  rw [if_neg h1, if_neg h2, if_neg h3, if_neg h4, if_neg h5, if_neg h6, if_neg h7, if_neg h8, if_neg h9, if_neg h10]
end Go.Proofs.YtdidnlkilleljaaGreatDoor.Lg
/- LgStepB, what a claim needs of it (prune.py). -/
namespace Go.Proofs.YtdidnlkilleljaaGreatDoor.Lg
open Go.RowKit
set_option linter.unusedVariables false
def StepSays (w' : World) (ok : Nat → Prop) (ws : List B) (e : Ending) : Prop :=
  ∃ (op : Int) (A : Option Addr) (k c : Nat) (n : Int) (g : Bool), e = .returned (.tuple #[.agg #[.int .i64 op, .slice A k c, .int .i64 n, .slice none 0 0], .bool g]) ∧ k ≤ c ∧
    match stepW ws with
    | none => g = false
    | some (o, xs, m) => g = true ∧ op = o ∧ n = m ∧ k = xs.length ∧ Lies w' ok 1 A k (strV xs)
theorem StepSays.bad {w' : World} {ok : Nat → Prop} {ws : List B} (h : stepW ws = none) {op n : Int} {A : Option Addr} {k c : Nat} (hk : k ≤ c) :
    StepSays w' ok ws (.returned (.tuple #[.agg #[.int .i64 op, .slice A k c, .int .i64 n, .slice none 0 0], .bool false])) :=
  ⟨op, A, k, c, n, false, rfl, hk, by rw [h]⟩
theorem StepSays.good {w' : World} {ok : Nat → Prop} {ws : List B} {op n : Int} {xs : List B} (h : stepW ws = some (op, xs, n)) {A : Option Addr} {k c : Nat} (hk : k ≤ c) (hx : k = xs.length) (hl : Lies w' ok 1 A k (strV xs)) :
    StepSays w' ok ws (.returned (.tuple #[.agg #[.int .i64 op, .slice A k c, .int .i64 n, .slice none 0 0], .bool true])) :=
  ⟨op, A, k, c, n, true, rfl, hk, by rw [h]; exact ⟨rfl, rfl, rfl, hx, hl⟩⟩
theorem StepSays.paths {w' : World} {ok : Nat → Prop} {ws : List B} {op : Int} {xs : List B} {lo hi N : Nat} {p : Bool} (h : stepW ws = if lo ≤ N ∧ N ≤ hi ∧ p = true then some (op, xs, 0) else none) {A : Option Addr} (hx : N = xs.length) (hl : Lies w' ok 1 A N (strV xs)) :
    StepSays w' ok ws (.returned (.tuple #[.agg #[.int .i64 op, .slice A N N, .int .i64 0, .slice none 0 0], .bool (decide (lo ≤ N) && decide (N ≤ hi) && p)])) := by
  by_cases hc : lo ≤ N ∧ N ≤ hi ∧ p = true
  · rw [if_pos hc] at h
    rw [decide_eq_true hc.1, decide_eq_true hc.2.1, hc.2.2]
    exact .good h (Nat.le_refl _) hx hl
  · rw [if_neg hc] at h
    have e : (decide (lo ≤ N) && decide (N ≤ hi) && p) = false := by
      by_cases h1 : lo ≤ N
      · by_cases h2 : N ≤ hi
        · cases p with
          | false => simp
          | true => exact absurd ⟨h1, h2, rfl⟩ hc
        · simp [h2]
      · simp [h1]
    rw [e]
    exact .bad h (Nat.le_refl _)
theorem if_one {N K : Nat} {p : Bool} {α : Type} {x y : α} : (if N = K ∧ p = true then x else y) = if K ≤ N ∧ N ≤ K ∧ p = true then x else y := by
  by_cases h : N = K
  · subst h; simp
  · rw [if_neg (fun e => h e.1), if_neg (fun e => h (by omega))]
theorem allP_map (l : List ByteArray) : (l.map tl).all pathOk = allP l := by rw [List.all_map]; rfl
theorem len_map (l : List ByteArray) : (l.map tl).length = l.length := List.length_map ..
theorem strV_tl (l : List ByteArray) : strV (l.map tl) = l.map Value.string := by simp [strV, bs_tl, Function.comp_def]
theorem Strs.tail {w : World} {ad : Addr} {x y : ByteArray} {l : List ByteArray} (h : Strs w (some ad) (x :: y :: l)) : Strs w (some ⟨ad.block, ad.off + 1, none⟩) (y :: l) := by
  have h2 := Reads.cut (k := 1) (cap := (x :: y :: l).length) h (by simp) (Nat.le_refl _)
  rw [if_neg (by simp)] at h2
  exact h2
theorem Strs.head {w : World} {A : Option Addr} {x : ByteArray} {l : List ByteArray} (h : Strs w A (x :: l)) : Strs w A [x] := by
  refine ⟨by simp, fun _ => ?_⟩
  obtain ⟨ad, e, hb, hc⟩ := h.2 (by simp)
  refine ⟨ad, e, hb, fun j u hj => hc j u ?_⟩
  cases j with
  | zero => simpa using hj
  | succ j => simp at hj
theorem Strs.lies {w w' : World} {ad : Addr} {l : List ByteArray} (h : Strs w (some ad) l) (hb : Below w.heap.size w w') : Lies w' (fun b => b = ad.block) 1 (some ad) l.length (strV (l.map tl)) := by
  rw [strV_tl]
  have h2 : Lies w (fun b => b = ad.block) 1 (some ad) l.length (l.map Value.string) := by
    refine ⟨h.1, fun hn => ?_⟩
    obtain ⟨ad', e, _, hc⟩ := h.2 hn
    injection e with e
    subst e
    exact ⟨ad, rfl, rfl, hc⟩
  exact h2.mono (by omega) fun b ho hs => ⟨ho, hb.block b hs⟩
end Go.Proofs.YtdidnlkilleljaaGreatDoor.Lg
/- LgRsplit, what a claim needs of it (prune.py). -/
namespace Go.Proofs.YtdidnlkilleljaaGreatDoor.Lg
open Go.RowKit
set_option linter.unusedVariables false
set_option maxRecDepth 100000
def SInv (s : ByteArray) (c : UInt8) (done : List ByteArray) (a k : Nat) : Prop :=
  a ≤ k ∧ k ≤ s.size ∧ done.length ≤ a ∧ splitB c (tl s) = done.map tl ++ splitB c ((tl s).drop a) ∧ c ∉ ((tl s).drop a).take (k - a)
theorem SInv.zero (s : ByteArray) (c : UInt8) : SInv s c [] 0 0 := ⟨by omega, by omega, by simp, by simp, by simp⟩
theorem SInv.plain {s : ByteArray} {c : UInt8} {done : List ByteArray} {a k : Nat} (h : SInv s c done a k) (hk : k < s.size) (hc : s[k]'hk ≠ c) : SInv s c done a (k + 1) := by
  obtain ⟨h1, h2, h3, h4, h5⟩ := h
  refine ⟨by omega, by omega, h3, h4, fun hm => ?_⟩
  have e : k + 1 - a = (k - a) + 1 := by omega
  have hl : ((tl s).drop a)[k - a]? = some (s[k]'hk) := by
    rw [List.getElem?_drop, show a + (k - a) = k by omega]; exact tl_get hk
  rw [e, List.take_add_one, hl] at hm
  rcases List.mem_append.1 hm with hm | hm
  · exact h5 hm
  · have hm : c = s[k]'hk := by simpa using hm
    exact hc hm.symm
theorem SInv.cut {s : ByteArray} {c : UInt8} {done : List ByteArray} {a k : Nat} (h : SInv s c done a k) (hk : k < s.size) (hc : s[k]'hk = c) : SInv s c (done ++ [s.extract a k]) (k + 1) (k + 1) := by
  obtain ⟨h1, h2, h3, h4, h5⟩ := h
  refine ⟨by omega, by omega, by simp; omega, ?_, by simp⟩
  have e := drop_at h1 hk
  rw [hc] at e
  rw [h4]
  conv => lhs; rw [e, split_app h5]
  rw [List.map_append, List.map_cons, List.map_nil, extract_tl, List.append_assoc]
  rfl
theorem SInv.last {s : ByteArray} {c : UInt8} {done : List ByteArray} {a : Nat} (h : SInv s c done a s.size) : pieces c s = done ++ [s.extract a s.size] := by
  obtain ⟨h1, h2, h3, h4, h5⟩ := h
  have e : ((tl s).drop a).take (s.size - a) = (tl s).drop a := List.take_of_length_le (by rw [List.length_drop, tl_len]; exact Nat.le_refl _)
  rw [e] at h5
  rw [pieces, h4, split_free h5, List.map_append, map_bs_tl, List.map_cons, List.map_nil]
  congr 2
  rw [← bs_tl (s.extract a s.size), extract_tl, e]
end Go.Proofs.YtdidnlkilleljaaGreatDoor.Lg
