/- Joined by mkmerged.py: LgNum, LgAll, LgLaw, LgMach, LgRow. -/
import Derived.Test.YtcpkhaebcmgehaaGreatDoorMa03
import Derived.Lib.AtoiTie
import Derived.Lib.AtoiAllCases
import Derived.Lib.AppendIntMem
import Derived.Test.YtcpkhaebcmgehaaGreatDoorMa02
/- The words of the variables that the library wants; the contracts of lang.times and of the reference's number. -/
namespace Go.Proofs.YtcpkhaebcmgehaaGreatDoor.Lg
open Go.RowKit
set_option linter.unusedVariables false
set_option maxRecDepth 100000
/-- what the library's variables hold -/
def Env (w : World) : Prop :=
  (∃ m, w.cell? ⟨0, 0, none⟩ = some (.int .i64 m)) ∧ Lib.TabIs Tryz.prog w "internal/strconv.uint64pow10" .u64 Lib.pow10Tab ∧ Lib.TabIs Tryz.prog w "strings.asciiSpace" .u8 Lib.asciiSpaceTab ∧
  (∃ t p, w.cell? ⟨4, 0, none⟩ = some (.iface t p)) ∧ (∃ t p, w.cell? ⟨5, 0, none⟩ = some (.iface t p))
theorem cell_lt {w : World} {a : Addr} {v : Value} (h : w.cell? a = some v) : a.block < w.heap.size := by
  unfold World.cell? at h
  rcases Nat.lt_or_ge a.block w.heap.size with h1 | h1
  · exact h1
  · rw [Array.getElem?_eq_none h1] at h; cases h
theorem Env.below {w w' : World} (h : Env w) (hb : Below w.heap.size w w') : Env w' := by
  obtain ⟨⟨m, h1⟩, h2, h3, ⟨t, p, h4⟩, ⟨t', p', h5⟩⟩ := h
  exact ⟨⟨m, (hb.cell (cell_lt h1)).trans h1⟩, Lib.tabBelow_of_tabIs h2 w' hb, Lib.tabBelow_of_tabIs h3 w' hb, ⟨t, p, (hb.cell (cell_lt h4)).trans h4⟩, ⟨t', p', (hb.cell (cell_lt h5)).trans h5⟩⟩
theorem atoi_two {s : List UInt8} {n : Nat} (h : number s = some n) : Lib.atoiAll s = .ok (n : Int) := by
  have hd := number_some h
  match s, h with
  | [c], h =>
    simp only [number] at h
    split at h
    · next hc =>
      injection h with h
      subst h
      rw [Lib.atoiAll_short _ (by simp)]
      have n1 : (c == 45) = false := by simp; intro e; subst e; simp at hc
      have n2 : (c == 43) = false := by simp; intro e; subst e; simp at hc
      simp only [Lib.atoi, n1, n2, Lib.decNat, Lib.decFrom, Lib.digitVal, hc]
      simp [Lib.NumEnd.ofOption]
    · cases h
  | [c, d], h =>
    simp only [number] at h
    split at h
    · next hc =>
      injection h with h
      subst h
      rw [Lib.atoiAll_short _ (by simp)]
      have n1 : (c == 45) = false := by simp; intro e; subst e; simp at hc
      have n2 : (c == 43) = false := by simp; intro e; subst e; simp at hc
      have hc1 : 48 ≤ c.toNat ∧ c.toNat ≤ 57 := by omega
      simp only [Lib.atoi, n1, n2, Lib.decNat, Lib.decFrom, Lib.digitVal, hc.2.2, hc1]
      simp [Lib.NumEnd.ofOption]
      omega
    · cases h
theorem number_len {s : List UInt8} {n : Nat} (h : number s = some n) : s.length ≤ 2 := by
  match s, h with
  | [c], h => simp
  | [c, d], h => simp
/-- what lang.times answers: a number, and whether it is one; where it is one, it is that -/
def TimesSays (s : List UInt8) (e : Ending) : Prop := ∃ n : Int, e = .returned (.tuple #[.int .i64 n, .bool (number s).isSome]) ∧ ∀ k, number s = some k → n = k
set_option maxHeartbeats 1000000 in
theorem times_any (s : ByteArray) (hs : s.size ≤ 1000000000) (w : World) (hE : Env w) :
    Calls Tryz.prog 248 #[.string s] w fun e w' => TimesSays (tl s) e ∧ Below w.heap.size w w' := by
  cases hn : number (tl s) with
  | some n =>
    obtain ⟨h1, h2⟩ := number_some hn
    have AT := Lib.hid (Tryz.strconv_Atoi_ok s (by omega) n (atoi_two hn) w)
    have IT : Hid (∀ W, Calls Tryz.prog 74 #[.int .i64 n] W fun e w' => e = .returned (.string s) ∧ W = w') := Lib.hid (fun W => (Tryz.strconv_Itoa_small n h1 W).mono (fun e w' ⟨h3, h4⟩ => ⟨by rw [h3, h2], h4.symm⟩))
    have FIN : Hid (TimesSays (tl s) (.returned (.tuple #[.int .i64 n, .bool true]))) := Lib.hid ⟨n, by rw [hn]; rfl, fun k hk => by rw [hn] at hk; injection hk with hk; rw [hk]⟩
    have e1 : (0 : Int) ≤ (n : Int) := by omega
    have e2 : (n : Int) ≤ 99 := by omega
    have e3 : (s.toList == s.toList) = true := by simp
    clear hn h2
    go_enter Tryz.func248, Tryz.ntmps248
    go_wp2_with (go_at_call 195; ((with_reducible refine (AT.out).mono ?_); rintro e w1 ⟨rfl, hw1⟩))
    have B1 : Hid (Below w.heap.size w w1) := Lib.hid (by
      rcases hw1 with rfl | ⟨t, rfl⟩
      · exact Below.refl _ _
      · exact Lib.bytesWorld_below _ _ _)
    clear hw1
    go_wp2_with (go_at_call 74; ((with_reducible refine (IT.out _).mono ?_); rintro e w2 ⟨rfl, rfl⟩))
    go_ret2
    exact ⟨FIN.out, B1.out⟩
  | none =>
    have FIN : Hid (∀ n : Int, TimesSays (tl s) (.returned (.tuple #[.int .i64 n, .bool false]))) := Lib.hid fun n => ⟨n, by rw [hn]; rfl, fun k hk => by rw [hn] at hk; cases hk⟩
    have NO : Hid (∀ v : Int, 0 ≤ v → v ≤ 99 → (⟨(Lib.itoa v).toArray⟩ : ByteArray) ≠ s) := Lib.hid fun v h0 h1 e => by
      obtain ⟨n, rfl⟩ : ∃ n : Nat, v = n := ⟨v.toNat, by omega⟩
      rw [itoa_nat'] at e
      have h2 := number_dec (n := n) (by omega)
      rw [← e] at hn
      have h3 : tl (⟨(Lib.decDigits n).toArray⟩ : ByteArray) = Lib.decDigits n := rfl
      rw [h3, h2] at hn
      cases hn
    clear hn
    obtain ⟨_, hT, _, ⟨t1, p1, hS⟩, ⟨t2, p2, hR⟩⟩ := hE
    rcases ha : Lib.atoiAll (tl s) with v | _ | _
    · skip
      have hb := Lib.atoiAll_bounds ha
      have AT := Lib.hid (Tryz.strconv_Atoi_ok s (by omega) v ha w)
      have IT : Hid (∀ W, Below w.heap.size w W → Calls Tryz.prog 74 #[.int .i64 v] W fun e w' => e = .returned (.string ⟨(Lib.itoa v).toArray⟩) ∧ Below W.heap.size W w') := Lib.hid (fun W hW => (Tryz.strconv_Itoa v hb.1 hb.2 W (Lib.tabBelow_of_tabIs hT W hW)).mono (fun e w' ⟨h3, k, os, h4⟩ => ⟨h3, by rw [h4]; exact Lib.below_grow _ _ (Nat.le_refl _) _ _⟩))
      clear ha hT hS hR hb
      go_enter Tryz.func248, Tryz.ntmps248
      go_wp2_with (go_at_call 195; ((with_reducible refine (AT.out).mono ?_); rintro e w1 ⟨rfl, hw1⟩))
      have B1 : Hid (Below w.heap.size w w1) := Lib.hid (by
        rcases hw1 with rfl | ⟨t, rfl⟩
        · exact Below.refl _ _
        · exact Lib.bytesWorld_below _ _ _)
      clear hw1
      have I1 := Lib.hid (IT.out w1 B1.out)
      by_cases h0 : 0 ≤ v
      · by_cases h9 : v ≤ 99
        · have e1 := s_ne (NO.out v h0 h9)
          generalize (⟨(Lib.itoa v).toArray⟩ : ByteArray) = sv at *
          go_wp2_with (go_at_call 74; ((with_reducible refine (I1.out).mono ?_); rintro e w2 ⟨rfl, hw2⟩))
          go_ret2
          exact ⟨FIN.out _, B1.out.trans (hw2.mono B1.out.size)⟩
        · by_cases he : (⟨(Lib.itoa v).toArray⟩ : ByteArray) = s
          · have e3 : (s.toList == s.toList) = true := by simp
            rw [he] at I1
            clear he
            go_wp2_with (go_at_call 74; ((with_reducible refine (I1.out).mono ?_); rintro e w2 ⟨rfl, hw2⟩))
            go_ret2
            refine ⟨?_, B1.out.trans (hw2.mono B1.out.size)⟩
            show TimesSays (tl s) (.returned (.tuple #[.int .i64 v, .bool (decide (v ≤ 99))]))
            rw [decide_eq_false (by omega : ¬ v ≤ 99)]
            exact FIN.out _
          · have e1 := s_ne he
            clear he
            generalize (⟨(Lib.itoa v).toArray⟩ : ByteArray) = sv at *
            go_wp2_with (go_at_call 74; ((with_reducible refine (I1.out).mono ?_); rintro e w2 ⟨rfl, hw2⟩))
            go_ret2
            exact ⟨FIN.out _, B1.out.trans (hw2.mono B1.out.size)⟩
      · by_cases he : (⟨(Lib.itoa v).toArray⟩ : ByteArray) = s
        · have e3 : (s.toList == s.toList) = true := by simp
          rw [he] at I1
          clear he
          go_wp2_with (go_at_call 74; ((with_reducible refine (I1.out).mono ?_); rintro e w2 ⟨rfl, hw2⟩))
          go_ret2
          exact ⟨FIN.out _, B1.out.trans (hw2.mono B1.out.size)⟩
        · have e1 := s_ne he
          clear he
          generalize (⟨(Lib.itoa v).toArray⟩ : ByteArray) = sv at *
          go_wp2_with (go_at_call 74; ((with_reducible refine (I1.out).mono ?_); rintro e w2 ⟨rfl, hw2⟩))
          go_ret2
          exact ⟨FIN.out _, B1.out.trans (hw2.mono B1.out.size)⟩
    · skip
      have AT := Lib.hid (Tryz.strconv_Atoi_syntax s (by omega) ha _ w hS (.inr ⟨t1, p1, rfl⟩))
      clear ha hT hS hR
      go_enter Tryz.func248, Tryz.ntmps248
      go_wp2_with (go_at_call 195; ((with_reducible refine (AT.out).mono ?_); rintro e w1 ⟨N, rfl, _, _, hb⟩))
      go_ret2
      exact ⟨FIN.out _, hb⟩
    · skip
      have AT := Lib.hid (Tryz.strconv_Atoi_range s (by omega) ha _ w hR (.inr ⟨t2, p2, rfl⟩))
      clear ha hT hS hR
      go_enter Tryz.func248, Tryz.ntmps248
      go_wp2_with (go_at_call 195; ((with_reducible refine (AT.out).mono ?_); rintro e w1 ⟨N, rfl, _, _, hb⟩))
      go_ret2
      exact ⟨FIN.out _, hb⟩

def pnum (l : List UInt8) : Option Nat := l.foldl (fun a c => a.bind fun n => if 48 ≤ c.toNat ∧ c.toNat ≤ 57 then some (10 * n + (c.toNat - 48)) else none) (some 0)
theorem pnum_next {s : ByteArray} {k : Nat} (hk : k < s.size) : pnum ((tl s).take (k + 1)) = (pnum ((tl s).take k)).bind fun n => if 48 ≤ (s[k]'hk).toNat ∧ (s[k]'hk).toNat ≤ 57 then some (10 * n + ((s[k]'hk).toNat - 48)) else none := by
  rw [take_next hk, pnum, List.foldl_append]; rfl
def numV (s : List UInt8) : Value := match number s with | some n => .tuple #[.int .i64 n, .bool true] | none => .tuple #[.int .i64 0, .bool false]
theorem pnum_none : ∀ (l : List UInt8), l.foldl (fun (a : Option Nat) c => a.bind fun n => if 48 ≤ c.toNat ∧ c.toNat ≤ 57 then some (10 * n + (c.toNat - 48)) else none) none = none
  | [] => rfl
  | c :: l => by rw [List.foldl_cons]; exact pnum_none l
theorem pnum_stop {s : ByteArray} {k : Nat} (hk : k < s.size) (h : pnum ((tl s).take (k + 1)) = none) : pnum (tl s) = none := by
  have e : tl s = (tl s).take (k + 1) ++ (tl s).drop (k + 1) := (List.take_append_drop _ _).symm
  rw [pnum] at h
  conv => lhs; rw [e, pnum, List.foldl_append, h]
  exact pnum_none _
theorem number_pnum : ∀ {l : List UInt8}, 1 ≤ l.length → l.length ≤ 2 → (l.length = 2 → l.getD 0 0 ≠ 48) → number l = pnum l
  | [c], _, _, _ => by simp [number, pnum]
  | [c, d], _, _, h => by
    have h : c ≠ 48 := h rfl
    have h2 : c.toNat ≠ 48 := fun e => h (UInt8.toNat_inj.1 e)
    simp only [number, pnum, List.foldl_cons, List.foldl_nil, Option.bind_some, Nat.mul_zero, Nat.zero_add]
    by_cases h3 : 48 ≤ c.toNat ∧ c.toNat ≤ 57
    · rw [if_pos h3, Option.bind_some]
      by_cases h4 : 48 ≤ d.toNat ∧ d.toNat ≤ 57
      · rw [if_pos h4, if_pos (by omega)]
      · rw [if_neg h4, if_neg (by omega)]
    · rw [if_neg h3, if_neg (by omega)]; rfl
theorem number_no {l : List UInt8} (h : l.length < 1 ∨ 2 < l.length) : number l = none := by
  match l, h with
  | [], _ => rfl
  | [_], h => simp at h
  | [_, _], h => simp at h
  | _ :: _ :: _ :: _, _ => rfl
theorem number_lead {d : UInt8} : number [48, d] = none := by
  have : (48 : UInt8).toNat = 48 := rfl
  simp only [number]
  rw [if_neg]
  omega
theorem numV_none {s : List UInt8} (h : number s = none) : numV s = .tuple #[.int .i64 0, .bool false] := by rw [numV, h]
theorem numV_some {s : List UInt8} {n : Nat} (h : number s = some n) : numV s = .tuple #[.int .i64 n, .bool true] := by rw [numV, h]
theorem dg_cases (c : UInt8) : ((48 ≤ c.toNat ∧ c.toNat ≤ 57) ∧ ¬ (c.toNat : Int) < 48 ∧ ¬ (57 : Int) < c.toNat) ∨ (¬ (48 ≤ c.toNat ∧ c.toNat ≤ 57) ∧ ((c.toNat : Int) < 48 ∨ (¬ (c.toNat : Int) < 48 ∧ (57 : Int) < c.toNat))) := by omega
set_option maxHeartbeats 1000000 in
theorem rnumber_any (s : ByteArray) (hs : s.size ≤ 1000000000) (w : World) :
    Calls Tryz.prog 204 #[.string s] w fun e w' => e = .returned (numV (tl s)) ∧ w = w' := by
  by_cases h0 : (s.size : Int) < 1
  · have HN := Lib.hid (numV_none (number_no (l := tl s) (.inl (by rw [tl_len]; omega))))
    go_enter Tryz.func204, Tryz.ntmps204
    go_wp2_with (fail)
    go_ret2
    exact ⟨ret_val HN.out, rfl⟩
  · by_cases h2 : (2 : Int) < (s.size : Int)
    · have HN := Lib.hid (numV_none (number_no (l := tl s) (.inr (by rw [tl_len]; omega))))
      go_enter Tryz.func204, Tryz.ntmps204
      go_wp2_with (fail)
      go_ret2
      exact ⟨ret_val HN.out, rfl⟩
    · have hp : 0 < s.size := by omega
      have main : ((s.size : Int) == 2) = false ∨ (((s.size : Int) == 2) = true ∧ ((s[0].toNat : Int) == 48) = false) → Calls Tryz.prog 204 #[.string s] w fun e w' => e = .returned (numV (tl s)) ∧ w = w' := by
        intro hc
        have NP := Lib.hid (number_pnum (l := tl s) (by rw [tl_len]; omega) (by rw [tl_len]; omega) (fun h e => by
          rw [tl_len] at h
          rcases hc with hc | ⟨_, hc⟩
          · simp [h] at hc
          · have : (tl s).getD 0 0 = s[0] := by rw [List.getD_eq_getElem?_getD, tl_get hp]; rfl
            rw [← this, e] at hc
            exact absurd hc (by decide)))
        have NX : Hid (∀ k (hk : k < s.size), pnum ((tl s).take (k + 1)) = (pnum ((tl s).take k)).bind fun n => if 48 ≤ (s[k]'hk).toNat ∧ (s[k]'hk).toNat ≤ 57 then some (10 * n + ((s[k]'hk).toNat - 48)) else none) := Lib.hid (fun k hk => pnum_next hk)
        have ST : Hid (∀ k (hk : k < s.size), pnum ((tl s).take (k + 1)) = none → pnum (tl s) = none) := Lib.hid (fun k hk h => pnum_stop hk h)
        rcases hc with hc | ⟨hc, hc2⟩
        all_goals
          go_enter Tryz.func204, Tryz.ntmps204
          go_wp2_with (fail)
          go_loop [4, 5] (fun v i => ∃ n k : Nat, v = .int .i64 n ∧ i = .int .i64 k ∧ k ≤ s.size ∧ n < 10 ^ k ∧ pnum ((tl s).take k) = some n) (fun _ i => s.size - (intOf i).toNat)
          case atStart => exact ⟨0, 0, rfl, rfl, by omega, by decide, rfl⟩
          case round =>
            obtain ⟨n, k, rfl, rfl, hk, hn, hp2⟩ := hrel
            have HP := Lib.hid hp2
            clear hp2
            by_cases hlt : k < s.size
            · have hkI : (k : Int) < (s.size : Int) := by omega
              have N1 := Lib.hid (NX.out k hlt)
              have hn2 : n ≤ 40 := by
                have : k = 0 ∨ k = 1 := by omega
                rcases this with rfl | rfl <;> omega
              rcases dg_cases (s[k]'hlt) with ⟨hb, g1, g2⟩ | ⟨hb, g⟩
              · have HB := Lib.hid hb
                have hn3 : 10 * n + ((s[k]'hlt).toNat - 48) < 10 ^ (k + 1) := by rw [Nat.pow_succ]; omega
                have HN3 := Lib.hid hn3
                clear hb hn hn3
                go_wp2_with (fail)
                go_round
                case rel => exact ⟨10 * n + ((s[k]'hlt).toNat - 48), k + 1, by have := HB.out.1; congr 1; omega, by go_num, by omega, HN3.out, by rw [N1.out, HP.out, Option.bind_some, if_pos HB.out]⟩
                case measure => simp [intOf]; omega
              · have F := Lib.hid (numV_none (by rw [NP.out]; exact ST.out k hlt (by rw [N1.out, HP.out, Option.bind_some, if_neg hb])))
                clear hb
                rcases g with g1 | ⟨g1, g2⟩
                all_goals
                  go_wp2_with (fail)
                  go_ret2
                  exact ⟨ret_val F.out, rfl⟩
            · obtain rfl : k = s.size := by omega
              have F := Lib.hid (numV_some (by rw [NP.out, ← HP.out, take_all]))
              go_wp2_with (fail)
              go_ret2
              exact ⟨ret_val F.out, rfl⟩
      by_cases e2 : s.size = 2
      · have c2 : ((s.size : Int) == 2) = true := by simp [e2]
        by_cases e3 : s[0] = 48
        · have HN : Hid (numV (tl s) = .tuple #[.int .i64 0, .bool false]) := Lib.hid (numV_none (by
            have hl : (tl s).length = 2 := by rw [tl_len]; exact e2
            have h0 := tl_get hp
            rw [e3] at h0
            match hh : tl s with
            | [x, d] =>
              rw [hh] at h0
              have : x = 48 := by simpa using h0
              rw [this]; exact number_lead
            | [] => rw [hh] at hl; cases hl
            | [_] => rw [hh] at hl; cases hl
            | _ :: _ :: _ :: _ => rw [hh] at hl; simp at hl))
          have c3 : ((s[0].toNat : Int) == 48) = true := by rw [e3]; rfl
          clear e3 main
          go_enter Tryz.func204, Tryz.ntmps204
          go_wp2_with (fail)
          go_ret2
          exact ⟨ret_val HN.out, rfl⟩
        · exact main (.inr ⟨c2, by
            rw [beq_eq_false_iff_ne]
            intro h
            exact e3 (UInt8.toNat_inj.1 (by have : (48 : UInt8).toNat = 48 := rfl; omega))⟩)
      · exact main (.inl (by rw [beq_eq_false_iff_ne]; omega))
end Go.Proofs.YtcpkhaebcmgehaaGreatDoor.Lg
/- The contracts of lang.all (are the words paths, so many) and of the reference's paths. -/
namespace Go.Proofs.YtcpkhaebcmgehaaGreatDoor.Lg
open Go.RowKit
set_option linter.unusedVariables false
set_option maxRecDepth 100000
def allP (l : List ByteArray) : Bool := l.all fun p => pathOk (tl p)
theorem pathE_ne (s : List UInt8) : (pathE s != 0) = !pathOk s := by
  rw [pathE]; cases pathOk s <;> rfl
theorem allP_bad {l : List ByteArray} {k : Nat} (hk : k < l.length) (h : pathOk (tl (l[k]'hk)) = false) : allP l = false := by
  cases e : allP l with
  | false => rfl
  | true =>
    have := List.all_eq_true.1 e _ (List.getElem_mem hk)
    rw [h] at this; cases this
theorem allP_ok {l : List ByteArray} (h : ∀ j (hj : j < l.length), j < l.length → pathOk (tl (l[j]'hj)) = true) : allP l = true := by
  refine List.all_eq_true.2 fun x hx => ?_
  obtain ⟨j, hj, rfl⟩ := List.mem_iff_getElem.1 hx
  exact h j hj hj
theorem allf_any (p : ByteArray) (w : World) (hs : p.size ≤ 1000000000) (hE : Env w) :
    Calls Tryz.prog 256 #[.string p] w fun e w' => e = .returned (.bool (!pathOk (tl p))) ∧ Below w.heap.size w w' := by
  obtain ⟨⟨m, hm⟩, _⟩ := hE
  have PP := Lib.hid (ppath_any p m w hs hm)
  have NE := Lib.hid (pathE_ne (tl p))
  clear hm
  go_enter Tryz.func256, Tryz.ntmps256
  go_wp2_with (go_at_call 111; ((with_reducible refine (PP.out).mono ?_); rintro e w1 ⟨rfl, hb⟩))
  go_ret
  exact ⟨ret_bool NE.out.symm, hb⟩
theorem indexf_any (A : Option Addr) (l : List ByteArray) (c : Nat) (w : World) (hE : Env w) (hr : Strs w A l) (hl : l.length ≤ 1000000000) (hs : ∀ p ∈ l, p.size ≤ 1000000000) :
    Calls Tryz.prog 229 #[.slice A l.length c, .func (.func 256) #[] #[]] w fun e w' => (∃ r : Int, e = .returned (.int .i64 r) ∧ decide (0 ≤ r) = !allP l) ∧ Below w.heap.size w w' := by
  have EV : Hid (∀ W, Below w.heap.size w W → Env W) := Lib.hid fun W hW => hE.below hW
  have RD : Hid (∀ W, Below w.heap.size w W → Strs W A l) := Lib.hid fun W hW => hr.below hW
  have SZ := Lib.hid hs
  clear hE hr hs
  go_enter Tryz.func229, Tryz.ntmps229
  go_wp2_with (fail)
  go_loopw [8] (fun i W => ∃ k : Nat, i = .int .i64 k ∧ k ≤ l.length ∧ (∀ j (hj : j < l.length), j < k → pathOk (tl l[j]) = true) ∧ Below w.heap.size w W) (fun i _ => l.length - (intOf i).toNat)
  case atStart => exact ⟨0, rfl, by omega, fun j _ h => by omega, Below.refl _ _⟩
  case round =>
    obtain ⟨k, rfl, hk, ha, hb⟩ := hrel
    have HA := Lib.hid ha
    clear ha
    by_cases hlt : k < l.length
    · have hkI : (k : Int) < (l.length : Int) := by omega
      obtain ⟨ad, rfl, _, hc⟩ := (RD.out _ hb).at_ hlt
      have AF := Lib.hid (allf_any l[k] wr (SZ.out _ (List.getElem_mem hlt)) (EV.out _ hb))
      have NXT := Lib.hid (upto_next (p := fun p => pathOk (tl p)) hlt HA.out)
      have BAD := Lib.hid (allP_bad (l := l) hlt)
      generalize l[k] = p at *
      cases hp : pathOk (tl p)
      · rw [hp] at AF
        have F := Lib.hid (BAD.out hp)
        clear hp BAD
        go_wp2_with (go_at_call 256; ((with_reducible refine (AF.out).mono ?_); rintro e w1 ⟨rfl, hb1⟩))
        go_ret
        exact ⟨⟨k, rfl, by rw [F.out]; simp⟩, hb.trans (hb1.mono hb.size)⟩
      · rw [hp] at AF
        have F := Lib.hid (NXT.out hp)
        clear hp BAD
        go_wp2_with (go_at_call 256; ((with_reducible refine (AF.out).mono ?_); rintro e w1 ⟨rfl, hb1⟩))
        go_roundw
        case rel => exact ⟨k + 1, by go_num, by omega, F.out, hb.trans (hb1.mono hb.size)⟩
        case measure => simp [intOf]; omega
    · obtain rfl : k = l.length := by omega
      have F := Lib.hid (allP_ok (l := l) (fun j hj h => HA.out j hj h))
      go_wp2_with (fail)
      go_ret
      exact ⟨⟨-1, rfl, by rw [F.out]; rfl⟩, hb⟩
theorem containsf_any (A : Option Addr) (l : List ByteArray) (c : Nat) (w : World) (hE : Env w) (hr : Strs w A l) (hl : l.length ≤ 1000000000) (hs : ∀ p ∈ l, p.size ≤ 1000000000) :
    Calls Tryz.prog 198 #[.slice A l.length c, .func (.func 256) #[] #[]] w fun e w' => e = .returned (.bool (!allP l)) ∧ Below w.heap.size w w' := by
  have IX := Lib.hid (indexf_any A l c w hE hr hl hs)
  clear hE hr hs
  go_enter Tryz.func198, Tryz.ntmps198
  go_wp2_with (go_at_call 229; ((with_reducible refine (IX.out).mono ?_); rintro e w1 ⟨⟨r, rfl, hd⟩, hb⟩; have HD := Lib.hid hd; clear hd))
  go_ret
  exact ⟨ret_bool HD.out.symm, hb⟩
theorem lall_any (A : Option Addr) (l : List ByteArray) (c a b : Nat) (w : World) (hE : Env w) (hr : Strs w A l) (hl : l.length ≤ 1000000000) (hs : ∀ p ∈ l, p.size ≤ 1000000000) (ha : a ≤ 100) (hb : b ≤ 100) :
    Calls Tryz.prog 246 #[.slice A l.length c, .int .i64 a, .int .i64 b] w fun e w' => e = .returned (.bool (decide (a ≤ l.length) && decide (l.length ≤ b) && allP l)) ∧ Below w.heap.size w w' := by
  have CT := Lib.hid (containsf_any A l c w hE hr hl hs)
  clear hE hr hs
  by_cases h1 : a ≤ l.length
  · have e1 : (a : Int) ≤ (l.length : Int) := by omega
    by_cases h2 : l.length ≤ b
    · have e2 : (l.length : Int) ≤ (b : Int) := by omega
      have F : Hid ((decide (a ≤ l.length) && decide (l.length ≤ b) && allP l) = allP l) := Lib.hid (by rw [decide_eq_true h1, decide_eq_true h2]; rfl)
      generalize allP l = q at *
      clear h1 h2
      go_enter Tryz.func246, Tryz.ntmps246
      go_wp2_with (go_at_call 198; ((with_reducible refine (CT.out).mono ?_); rintro e w1 ⟨rfl, hb1⟩))
      go_ret
      exact ⟨ret_bool (by rw [F.out]; try (cases q <;> rfl)), hb1⟩
    · have e2 : ¬ (l.length : Int) ≤ (b : Int) := by omega
      have F : Hid ((decide (a ≤ l.length) && decide (l.length ≤ b) && allP l) = false) := Lib.hid (by rw [decide_eq_false h2]; simp)
      clear h1 h2
      go_enter Tryz.func246, Tryz.ntmps246
      go_wp2_with (fail)
      go_ret
      exact ⟨ret_bool F.out, Below.refl _ _⟩
  · have e1 : ¬ (a : Int) ≤ (l.length : Int) := by omega
    have F : Hid ((decide (a ≤ l.length) && decide (l.length ≤ b) && allP l) = false) := Lib.hid (by rw [decide_eq_false h1]; rfl)
    clear h1
    go_enter Tryz.func246, Tryz.ntmps246
    go_wp2_with (fail)
    go_ret
    exact ⟨ret_bool F.out, Below.refl _ _⟩
theorem rpaths_any (A : Option Addr) (l : List ByteArray) (c : Nat) (w : World) (hr : Strs w A l) (hl : l.length ≤ 1000000000) (hs : ∀ p ∈ l, p.size ≤ 1000000000) :
    Calls Tryz.prog 202 #[.slice A l.length c] w fun e w' => e = .returned (.bool (allP l)) ∧ w = w' := by
  have SZ := Lib.hid hs
  clear hs
  go_enter Tryz.func202, Tryz.ntmps202
  go_wp2_with (fail)
  go_loop [3] (fun i => ∃ k : Nat, i = .int .i64 k ∧ k ≤ l.length ∧ ∀ j (hj : j < l.length), j < k → pathOk (tl l[j]) = true) (fun i => l.length - (intOf i).toNat)
  case atStart => exact ⟨0, rfl, by omega, fun j _ h => by omega⟩
  case round =>
    obtain ⟨k, rfl, hk, ha⟩ := hrel
    have HA := Lib.hid ha
    clear ha
    by_cases hlt : k < l.length
    · have hkI : (k : Int) < (l.length : Int) := by omega
      obtain ⟨ad, rfl, _, hc⟩ := hr.at_ hlt
      have PP := Lib.hid (rpath_any l[k] (SZ.out _ (List.getElem_mem hlt)) w)
      have NXT := Lib.hid (upto_next (p := fun p => pathOk (tl p)) hlt HA.out)
      have BAD := Lib.hid (allP_bad (l := l) hlt)
      clear hr
      generalize l[k] = p at *
      have NE := pathE_ne (tl p)
      cases hp : pathOk (tl p)
      · have F := Lib.hid (BAD.out hp)
        rw [hp] at NE
        have NE : (pathE (tl p) != 0) = true := NE
        generalize pathE (tl p) = z at *
        clear hp BAD
        go_wp2_with (go_at_call 117; ((with_reducible refine (PP.out).mono ?_); rintro e w1 ⟨rfl, rfl⟩))
        go_ret
        exact ⟨ret_bool F.out, rfl⟩
      · have F := Lib.hid (NXT.out hp)
        rw [hp] at NE
        have NE : (pathE (tl p) != 0) = false := NE
        generalize pathE (tl p) = z at *
        clear hp BAD
        go_wp2_with (go_at_call 117; ((with_reducible refine (PP.out).mono ?_); rintro e w1 ⟨rfl, rfl⟩))
        go_round
        case rel => exact ⟨k + 1, by go_num, by omega, F.out⟩
        case measure => simp [intOf]; omega
    · obtain rfl : k = l.length := by omega
      have F := Lib.hid (allP_ok (l := l) (fun j hj h => HA.out j hj h))
      go_wp2_with (fail)
      go_ret
      exact ⟨ret_bool F.out, rfl⟩
end Go.Proofs.YtcpkhaebcmgehaaGreatDoor.Lg
/- Plain laws of commands: what a parse's steps are printed as; two commands, one behind the other. No program in sight. -/
namespace Go.Proofs.YtcpkhaebcmgehaaGreatDoor.Lg
set_option linter.unusedVariables false
theorem lines_app : ∀ a b, linesOf (a ++ b) = linesOf a ++ linesOf b
  | [], b => by simp [linesOf]
  | ⟨op, args, n, bl⟩ :: r, b => by
    rw [List.cons_append, linesOf, linesOf, lines_app r b]
    simp
/-- what a block's lines are -/
theorem bk_lines : ∀ (k deep : Nat) (out o : List Stp) (lines r : List B), lines.length ≤ k → bk deep out lines = .ok o r →
    ∃ l, o = out ++ l ∧ lines = linesOf l ++ (if 0 < deep then endW :: r else []) ∧ (deep = 0 → r = [])
  | k, deep, out, o, [], r, hk, h => by
    rw [bk_nil] at h
    split at h
    · cases h
    · next hd =>
      cases h
      exact ⟨[], by simp, by simp [linesOf, hd], fun _ => rfl⟩
  | 0, deep, out, o, line :: rest, r, hk, h => absurd hk (by simp)
  | k + 1, deep, out, o, line :: rest, r, hk, h => by
    simp only [List.length_cons] at hk
    rw [bk_cons] at h
    split at h
    · next e =>
      split at h
      · next hd =>
        cases h
        exact ⟨[], by simp, by simp [linesOf, hd, e], fun h0 => by omega⟩
      · cases h
    · split at h
      · cases h
      · next op args n e =>
        obtain ⟨_, _, _, _, hl⟩ := stepOf_says e
        split at h
        · next hb =>
          split at h
          · cases h
          · split at h
            · cases h
            · next inn rest' e2 =>
              have hle := bk_le e2
              obtain ⟨l1, h1, h2, _⟩ := bk_lines k (deep + 1) [] _ rest _ (by omega) e2
              obtain ⟨l2, h3, h4, h5⟩ := bk_lines k deep _ _ rest' _ (by omega) h
              have h1 : inn = l1 := by simpa using h1
              subst h1
              refine ⟨⟨op, args, n, inn⟩ :: l2, by simp [h3], ?_, h5⟩
              rw [if_pos (by omega)] at h2
              rw [linesOf, if_pos hb, ← hl, h2, h4]
              simp
        · next hb =>
          obtain ⟨l2, h3, h4, h5⟩ := bk_lines k deep _ _ rest _ (by omega) h
          refine ⟨⟨op, args, n, []⟩ :: l2, by simp [h3], ?_, h5⟩
          rw [linesOf, if_neg hb, ← hl, h4]
          simp
theorem bk_app : ∀ (k deep : Nat) (out o : List Stp) (a r b : List B), a.length ≤ k → bk deep out a = .ok o r → bk deep out (a ++ b) = if 0 < deep then .ok o (r ++ b) else bk deep o b
  | k, deep, out, o, [], r, b, hk, h => by
    rw [bk_nil] at h
    split at h
    · cases h
    · next hd => cases h; rw [if_neg hd]; rfl
  | 0, deep, out, o, line :: rest, r, b, hk, h => absurd hk (by simp)
  | k + 1, deep, out, o, line :: rest, r, b, hk, h => by
    simp only [List.length_cons] at hk
    rw [bk_cons] at h
    rw [List.cons_append, bk_cons]
    split at h
    · next e =>
      split at h
      · next hd => cases h; rw [if_pos e, if_pos hd, if_pos hd]
      · cases h
    · next e0 =>
      rw [if_neg e0]
      split at h
      · cases h
      · next op args n e =>
        split at h
        · next hb =>
          split at h
          · cases h
          · next hd =>
            split at h
            · cases h
            · next inn rest' e2 =>
              have hle := bk_le e2
              have h1 := bk_app k (deep + 1) [] _ rest _ b (by omega) e2
              rw [if_pos (by omega)] at h1
              rw [if_pos hb, if_neg hd, h1]
              exact bk_app k deep _ _ rest' _ b (by omega) h
        · next hb =>
          rw [if_neg hb]
          exact bk_app k deep _ _ rest _ b (by omega) h
theorem bk_err : ∀ (k deep : Nat) (out : List Stp) (lines : List B) (e : Nat), lines.length ≤ k → bk deep out lines = .err e → e ≠ 0
  | k, deep, out, [], e, hk, h => by
    rw [bk_nil] at h
    split at h <;> cases h
    omega
  | 0, deep, out, line :: rest, e, hk, h => absurd hk (by simp)
  | k + 1, deep, out, line :: rest, e, hk, h => by
    simp only [List.length_cons] at hk
    rw [bk_cons] at h
    split at h
    · split at h <;> cases h
      omega
    · split at h
      · cases h; omega
      · split at h
        · split at h
          · cases h; omega
          · split at h
            · next e2 => cases h; exact bk_err k _ _ rest _ (by omega) e2
            · next e2 =>
              have hle := bk_le e2
              exact bk_err k _ _ _ _ (by omega) h
        · exact bk_err k _ _ rest _ (by omega) h
theorem flat_join : ∀ {l : List B}, l ≠ [] → l.flatMap (fun s => s ++ [10]) = joinB 10 l ++ [10]
  | [], h => absurd rfl h
  | [x], _ => by simp [joinB]
  | x :: y :: r, _ => by
    rw [List.flatMap_cons, flat_join (by simp), joinB]
    simp
theorem last_nl {c : B} (h0 : c ≠ []) (h : ¬ c.getLast? ≠ some 10) : c = c.dropLast ++ [10] := by
  have h1 : c.getLast? = some 10 := Classical.byContradiction h
  rw [List.getLast?_eq_some_getLast h0] at h1
  injection h1 with h1
  rw [← h1, List.dropLast_concat_getLast]
/-- what was parsed is printed as it was -/
theorem parse_print {cmd : B} {m : List Stp} (h : parse cmd = (m, 0)) : print m = cmd := by
  unfold parse at h
  rcases ite_or h with ⟨_, h⟩ | ⟨_, h⟩
  · cases h
  rcases ite_or h with ⟨rfl, h⟩ | ⟨h0, h⟩
  · cases h; simp [print, linesOf]
  rcases ite_or h with ⟨_, h⟩ | ⟨hl, h⟩
  · cases h
  rcases ite_or h with ⟨_, h⟩ | ⟨_, h⟩
  · cases h
  cases e : bk 0 [] (splitB 10 cmd.dropLast) with
  | err k => 
    simp only [e, Prod.mk.injEq] at h
    obtain ⟨rfl, rfl⟩ := h
    exact absurd rfl (bk_err _ _ _ _ _ (Nat.le_refl _) e)
  | ok o r =>
    simp only [e, Prod.mk.injEq, and_true] at h
    subst h
    obtain ⟨l, h1, h2, _⟩ := bk_lines _ _ _ _ _ _ (Nat.le_refl _) e
    have h1 : o = l := by simpa using h1
    subst h1
    simp only [Nat.lt_irrefl, if_false, List.append_nil] at h2
    rw [print, ← h2, flat_join (splitB_ne _ _), join_split, ← last_nl h0 hl]
/-- parse, in the words of a right command: empty, or lines that are a block -/
theorem parse_ok {cmd : B} {m : List Stp} (h : parse cmd = (m, 0)) : (cmd = [] ∧ m = []) ∨ (cmd ≠ [] ∧ cmd.length ≤ 8192 ∧ cmd = cmd.dropLast ++ [10] ∧ ∃ r, bk 0 [] (splitB 10 cmd.dropLast) = .ok m r) := by
  unfold parse at h
  rcases ite_or h with ⟨_, h⟩ | ⟨hb, h⟩
  · cases h
  rcases ite_or h with ⟨rfl, h⟩ | ⟨h0, h⟩
  · cases h; exact .inl ⟨rfl, rfl⟩
  rcases ite_or h with ⟨_, h⟩ | ⟨hl, h⟩
  · cases h
  rcases ite_or h with ⟨_, h⟩ | ⟨_, h⟩
  · cases h
  cases e : bk 0 [] (splitB 10 cmd.dropLast) with
  | err k =>
    simp only [e, Prod.mk.injEq] at h
    obtain ⟨rfl, rfl⟩ := h
    exact absurd rfl (bk_err _ _ _ _ _ (Nat.le_refl _) e)
  | ok o r =>
    simp only [e, Prod.mk.injEq, and_true] at h
    subst h
    exact .inr ⟨h0, by omega, last_nl h0 hl, r, rfl⟩
/-- an error has no steps -/
theorem parse_no {cmd : B} (h : (parse cmd).2 ≠ 0) : (parse cmd).1 = [] := by
  rcases hp : parse cmd with ⟨m, e⟩
  rw [hp] at h
  unfold parse at hp
  rcases ite_or hp with ⟨_, hp⟩ | ⟨_, hp⟩
  · cases hp; rfl
  rcases ite_or hp with ⟨_, hp⟩ | ⟨_, hp⟩
  · cases hp; rfl
  rcases ite_or hp with ⟨_, hp⟩ | ⟨_, hp⟩
  · cases hp; rfl
  rcases ite_or hp with ⟨_, hp⟩ | ⟨_, hp⟩
  · cases hp; rfl
  cases e2 : bk 0 [] (splitB 10 cmd.dropLast) with
  | err k => simp only [e2, Prod.mk.injEq] at hp; exact hp.1.symm
  | ok o r => simp only [e2, Prod.mk.injEq] at hp; exact absurd hp.2.symm h
def Res.pre (out : List Stp) : Res → Res
  | .ok o r => .ok (out ++ o) r
  | .err e => .err e
theorem bk_pre : ∀ (k deep : Nat) (out p : List Stp) (lines : List B), lines.length ≤ k → bk deep (out ++ p) lines = (bk deep p lines).pre out
  | k, deep, out, p, [], hk => by
    rw [bk_nil, bk_nil]
    split <;> rfl
  | 0, deep, out, p, line :: rest, hk => absurd hk (by simp)
  | k + 1, deep, out, p, line :: rest, hk => by
    simp only [List.length_cons] at hk
    rw [bk_cons, bk_cons]
    split
    · split <;> rfl
    · split
      · rfl
      · split
        · split
          · rfl
          · split
            · rfl
            · next e2 =>
              have hle := bk_le e2
              rw [List.append_assoc]
              exact bk_pre k deep out _ _ (by omega)
        · rw [List.append_assoc]
          exact bk_pre k deep out _ rest (by omega)
/-- two commands, one behind the other -/
theorem parse_two {a b : B} {x y : List Stp} (ha : parse a = (x, 0)) (hb : parse b = (y, 0)) : parse (a ++ b) = (x ++ y, 0) ∨ parse (a ++ b) = ([], 15) := by
  rcases parse_ok ha with ⟨rfl, rfl⟩ | ⟨a0, al, ad, ra, ae⟩
  · exact .inl hb
  rcases parse_ok hb with ⟨rfl, rfl⟩ | ⟨b0, bl, bd, rb, be⟩
  · rw [List.append_nil, List.append_nil]; exact .inl ha
  have hdrop : (a ++ b).dropLast = a.dropLast ++ 10 :: b.dropLast := by
    rw [List.dropLast_append_of_ne_nil b0]
    conv => lhs; rw [ad]
    simp
  have hlast : (a ++ b).getLast? = some 10 := by
    rw [bd, ← List.append_assoc]; simp
  unfold parse
  split
  · exact .inr rfl
  rw [if_neg (by simp [a0]), if_neg (by simp [hlast])]
  split
  · exact .inr rfl
  left
  rw [hdrop, split_two, bk_app _ 0 [] x _ _ _ (Nat.le_refl _) ae, if_neg (Nat.lt_irrefl _)]
  have := bk_pre _ 0 x [] (splitB 10 b.dropLast) (Nat.le_refl _)
  rw [List.append_nil, be] at this
  rw [this]
  rfl
end Go.Proofs.YtcpkhaebcmgehaaGreatDoor.Lg
/- Plain law of the stack machine of a parse: with the blocks' heads on a stack it answers what the recursion does. No program in sight. -/
namespace Go.Proofs.YtcpkhaebcmgehaaGreatDoor.Lg
set_option linter.unusedVariables false
structure Frame where
  op : Int
  args : List B
  n : Int
  out : List Stp
/-- the machine: frames (the innermost first), the steps of the block that is open, the lines left -/
def mach : List Frame → List Stp → List B → Res
  | fs, cur, [] => (match fs with
    | [] => .ok cur []
    | _ :: _ => .err 21)
  | fs, cur, line :: rest =>
    if line = endW then (match fs with
      | [] => .err 21
      | f :: fs => mach fs (f.out ++ [⟨f.op, f.args, f.n, cur⟩]) rest) else
    match stepOf line with
    | none => .err 20
    | some (op, args, n) =>
      if op = 9 ∨ op = 10 then
        if 4 ≤ fs.length then .err 22 else mach (⟨op, args, n, cur⟩ :: fs) [] rest
      else mach fs (cur ++ [⟨op, args, n, []⟩]) rest
def fin : List Frame → Res → Res
  | [], r => r
  | _ :: _, .err e => .err e
  | f :: fs, .ok inn rest => mach fs (f.out ++ [⟨f.op, f.args, f.n, inn⟩]) rest
theorem fin_err (fs : List Frame) (e : Nat) : fin fs (.err e) = .err e := by cases fs <;> rfl
theorem mach_nil (fs : List Frame) (cur : List Stp) : mach fs cur [] = (match fs with
    | [] => .ok cur []
    | _ :: _ => .err 21) := by rw [mach.eq_def]
theorem mach_cons (fs : List Frame) (cur : List Stp) (line : B) (rest : List B) : mach fs cur (line :: rest) =
    if line = endW then (match fs with
      | [] => .err 21
      | f :: fs => mach fs (f.out ++ [⟨f.op, f.args, f.n, cur⟩]) rest) else
    match stepOf line with
    | none => .err 20
    | some (op, args, n) =>
      if op = 9 ∨ op = 10 then
        if 4 ≤ fs.length then .err 22 else mach (⟨op, args, n, cur⟩ :: fs) [] rest
      else mach fs (cur ++ [⟨op, args, n, []⟩]) rest := by rw [mach.eq_def]
theorem mach_fin : ∀ (k : Nat) (fs : List Frame) (cur : List Stp) (lines : List B), lines.length ≤ k → mach fs cur lines = fin fs (bk fs.length cur lines)
  | k, [], cur, [], _ => by rw [bk_nil, mach_nil]; rfl
  | k, f :: fs, cur, [], _ => by rw [bk_nil, mach_nil, if_pos (by simp)]; rfl
  | 0, fs, cur, line :: rest, h => absurd h (by simp)
  | k + 1, fs, cur, line :: rest, h => by
    simp only [List.length_cons] at h
    rw [bk_cons, mach_cons]
    by_cases he : line = endW
    · rw [if_pos he, if_pos he]
      cases fs with
      | nil => simp [fin]
      | cons f fs => simp [fin]
    · rw [if_neg he, if_neg he]
      cases e : stepOf line with
      | none => simp only [fin_err]
      | some x =>
        obtain ⟨op, args, n⟩ := x
        simp only
        by_cases hb : op = 9 ∨ op = 10
        · rw [if_pos hb, if_pos hb]
          by_cases hd : 4 ≤ fs.length
          · rw [if_pos hd, if_pos hd, fin_err]
          · rw [if_neg hd, if_neg hd, mach_fin k _ _ rest (by omega), List.length_cons]
            cases e2 : bk (fs.length + 1) [] rest with
            | err e => rw [fin_err]; simp only [fin_err]
            | ok inn rest' =>
              have hle := bk_le e2
              rw [fin, mach_fin k fs _ rest' (by omega)]
        · rw [if_neg hb, if_neg hb]
          exact mach_fin k fs _ rest (by omega)
theorem mach_bk (lines : List B) : mach [] [] lines = bk 0 [] lines := mach_fin lines.length [] [] lines (Nat.le_refl _)
end Go.Proofs.YtcpkhaebcmgehaaGreatDoor.Lg
/- How steps lie in memory: rows of four cells a step, with rows of texts and of steps below them, in blocks that are allowed. -/
namespace Go.Proofs.YtcpkhaebcmgehaaGreatDoor.Lg
open Go.RowKit
set_option linter.unusedVariables false
/-- below block number B, but for block x, the world is as it was -/
structure BelowX (B x : Nat) (w w' : World) : Prop where
  os : w'.os = w.os
  tape : w'.tape = w.tape
  output : w'.output = w.output
  size : w.heap.size ≤ w'.heap.size
  block : ∀ k, k < B → k ≠ x → w'.heap[k]? = w.heap[k]?
theorem BelowX.of {B x : Nat} {w w' : World} (h : Below B w w') : BelowX B x w w' := ⟨h.os, h.tape, h.output, h.size, fun k hk _ => h.block k hk⟩
theorem BelowX.refl (B x : Nat) (w : World) : BelowX B x w w := .of (Below.refl B w)
theorem BelowX.trans {B x : Nat} {a b c : World} (h : BelowX B x a b) (k : BelowX B x b c) : BelowX B x a c :=
  ⟨k.os.trans h.os, k.tape.trans h.tape, k.output.trans h.output, Nat.le_trans h.size k.size, fun i hi hx => (k.block i hi hx).trans (h.block i hi hx)⟩
theorem BelowX.mono {B B' x : Nat} {w w' : World} (h : BelowX B x w w') (hB : B' ≤ B) : BelowX B' x w w' := ⟨h.os, h.tape, h.output, h.size, fun k hk hx => h.block k (by omega) hx⟩
theorem BelowX.below {B B' x : Nat} {w w' : World} (h : BelowX B x w w') (hB : B' ≤ B) (hx : B' ≤ x) : Below B' w w' := ⟨h.os, h.tape, h.output, h.size, fun k hk => h.block k (by omega) (by omega)⟩
theorem BelowX.drew {B x : Nat} {a w : World} (h : BelowX B x a w) : BelowX B x a w.drew := ⟨h.os, h.tape, h.output, h.size, h.block⟩
theorem BelowX.drewN {B x : Nat} {a w : World} (h : BelowX B x a w) (n : Nat) : BelowX B x a (w.drewN n) := ⟨h.os, h.tape, h.output, h.size, h.block⟩
theorem BelowX.alloc {B x : Nat} {a w : World} (h : BelowX B x a w) (hB : B ≤ w.heap.size) (o : Obj) : BelowX B x a (w.alloc o) := h.trans (.of ((Below.refl _ _).alloc hB o))
theorem BelowX.setCell {B x : Nat} {a w : World} (h : BelowX B x a w) {p : Addr} (hp : B ≤ p.block) (u : Value) : BelowX B x a (w.setCell p u) := h.trans (.of ((Below.refl _ _).setCell hp u))
theorem BelowX.setX {B x : Nat} {a w : World} (h : BelowX B x a w) {p : Addr} (hp : p.block = x) (u : Value) : BelowX B x a (w.setCell p u) :=
  h.trans ⟨rfl, rfl, rfl, by simp [World.setCell], fun k hk hx => Below.heap_setCell _ _ _ _ (by omega)⟩
theorem BelowX.grown {B x : Nat} {a w w' : World} {row : Option Nat} (h : BelowX B x a w) (hg : w.grownBy w' row) (hB : B ≤ w.heap.size) (hr : ∀ k, row = some k → B ≤ k ∨ k = x) : BelowX B x a w' :=
  h.trans ⟨hg.os, hg.tape, hg.output, hg.size, fun k hk hx => hg.block k (by omega) (fun e => by rcases hr k e.symm with h | h <;> omega)⟩
theorem BelowX.cell {B x : Nat} {w w' : World} (h : BelowX B x w w') {p : Addr} (hp : p.block < B) (hx : p.block ≠ x) : w'.cell? p = w.cell? p := World.cell?_of_block (w := w) (h.block p.block hp hx)
/-- n things of 'size' cells at A, in an allowed block -/
def Lies (w : World) (ok : Nat → Prop) (size : Nat) (A : Option Addr) (n : Nat) (xs : List Value) : Prop :=
  xs.length = n * size ∧ (0 < n → ∃ ad, A = some ad ∧ ok ad.block ∧ ∀ j u, xs[j]? = some u → w.cell? (ad.add j) = some u)
theorem Lies.none_ {w : World} {ok : Nat → Prop} {size : Nat} {A : Option Addr} : Lies w ok size A 0 [] := ⟨by simp, fun h => absurd h (by omega)⟩
theorem Lies.mono {w w' : World} {ok ok' : Nat → Prop} {size n : Nat} {A : Option Addr} {xs : List Value} (h : Lies w ok size A n xs) (hs : 0 < size)
    (hk : ∀ b, ok b → b < w.heap.size → ok' b ∧ w'.heap[b]? = w.heap[b]?) : Lies w' ok' size A n xs := by
  refine ⟨h.1, fun hn => ?_⟩
  obtain ⟨ad, rfl, ho, hc⟩ := h.2 hn
  have hl : 0 < xs.length := by rw [h.1]; exact Nat.mul_pos hn hs
  have hb : ad.block < w.heap.size := by
    have := hc 0 _ (List.getElem?_eq_getElem hl)
    have h2 : (ad.add 0).block < w.heap.size := by
      unfold World.cell? at this
      rcases Nat.lt_or_ge (ad.add 0).block w.heap.size with h1 | h1
      · exact h1
      · rw [Array.getElem?_eq_none h1] at this; cases this
    rwa [block_of_add] at h2
  obtain ⟨h1, h2⟩ := hk _ ho hb
  refine ⟨ad, rfl, h1, fun j u hu => ?_⟩
  rw [World.cell?_of_block (w := w) (by rw [block_of_add]; exact h2)]
  exact hc j u hu
theorem Lies.reads {w : World} {ok : Nat → Prop} {size n : Nat} {A : Option Addr} {xs : List Value} (h : Lies w ok size A n xs) (hs : 0 < size) : Reads w w.heap.size size A n xs := by
  have h2 := Lies.mono (w' := w) (ok' := fun b => b < w.heap.size) h hs (fun b _ hb => ⟨hb, rfl⟩)
  exact h2
theorem Lies.of_reads {w : World} {B size n : Nat} {A : Option Addr} {xs : List Value} (h : Reads w B size A n xs) : Lies w (fun b => b < B) size A n xs := h
/-- the texts of a list as values -/
abbrev strV (l : List B) : List Value := l.map fun s => .string (bs s)
theorem strV_map (l : List B) : strV l = (l.map bs).map Value.string := by simp [strV]
inductive RowAt (w : World) (ok : Nat → Prop) : List Value → List Stp → Prop
  | nil : RowAt w ok [] []
  | cons {op n : Int} {args : List B} {block rest : List Stp} {A B : Option Addr} {k c kb cb : Nat} {bcells cells : List Value} :
      k = args.length → k ≤ c → Lies w ok 1 A k (strV args) → kb = block.length → kb ≤ cb → Lies w ok 4 B kb bcells → RowAt w ok bcells block → RowAt w ok cells rest →
      RowAt w ok (.int .i64 op :: .slice A k c :: .int .i64 n :: .slice B kb cb :: cells) (⟨op, args, n, block⟩ :: rest)
theorem RowAt.mono {w w' : World} {ok ok' : Nat → Prop} {cells : List Value} {l : List Stp} (h : RowAt w ok cells l) (hk : ∀ b, ok b → b < w.heap.size → ok' b ∧ w'.heap[b]? = w.heap[b]?) : RowAt w' ok' cells l := by
  induction h with
  | nil => exact .nil
  | cons h1 h2 h3 h4 h5 h6 _ _ ih1 ih2 => exact .cons h1 h2 (h3.mono (by omega) hk) h4 h5 (h6.mono (by omega) hk) ih1 ih2
theorem RowAt.append {w : World} {ok : Nat → Prop} {c1 c2 : List Value} {l1 l2 : List Stp} (h1 : RowAt w ok c1 l1) (h2 : RowAt w ok c2 l2) : RowAt w ok (c1 ++ c2) (l1 ++ l2) := by
  induction h1 with
  | nil => exact h2
  | cons a1 a2 a3 a4 a5 a6 a7 _ _ ih => exact .cons a1 a2 a3 a4 a5 a6 a7 ih
theorem RowAt.len {w : World} {ok : Nat → Prop} {c : List Value} {l : List Stp} (h : RowAt w ok c l) : c.length = l.length * 4 := by
  induction h with
  | nil => rfl
  | cons a1 a2 a3 a4 a5 a6 a7 _ _ ih => simp only [List.length_cons, ih]; omega
theorem RowAt.one {w : World} {ok : Nat → Prop} {c : List Value} {l : List Stp} (h : RowAt w ok c l) : ∀ u ∈ c, u.oneCell' = true := by
  induction h with
  | nil => simp
  | cons a1 a2 a3 a4 a5 a6 a7 _ _ ih =>
    intro u hu
    simp only [List.mem_cons] at hu
    rcases hu with rfl | rfl | rfl | rfl | hu
    · rfl
    · rfl
    · rfl
    · rfl
    · exact ih u hu
/-- the k-th step of a row -/
theorem RowAt.at_ {w : World} {ok : Nat → Prop} {cells : List Value} {l : List Stp} (h : RowAt w ok cells l) : ∀ {k : Nat} (hk : k < l.length),
    ∃ A ka ca B kb cb bcells, cells[k * 4]? = some (.int .i64 l[k].op) ∧ cells[k * 4 + 1]? = some (.slice A ka ca) ∧ cells[k * 4 + 2]? = some (.int .i64 l[k].n) ∧ cells[k * 4 + 3]? = some (.slice B kb cb) ∧
      ka = l[k].args.length ∧ ka ≤ ca ∧ Lies w ok 1 A ka (strV l[k].args) ∧ kb = l[k].block.length ∧ kb ≤ cb ∧ Lies w ok 4 B kb bcells ∧ RowAt w ok bcells l[k].block := by
  induction h with
  | nil => intro k hk; simp at hk
  | @cons op n args block rest A B k0 c kb cb bcells cells a1 a2 a3 a4 a5 a6 a7 a8 ih1 ih2 =>
    intro k hk
    cases k with
    | zero => exact ⟨A, k0, c, B, kb, cb, bcells, rfl, rfl, rfl, rfl, a1, a2, a3, a4, a5, a6, a7⟩
    | succ k =>
      obtain ⟨A', ka, ca, B', kb', cb', bc, h1, h2, h3, h4, h5⟩ := ih2 (k := k) (by simpa using hk)
      refine ⟨A', ka, ca, B', kb', cb', bc, ?_, ?_, ?_, ?_, h5⟩
      · rw [show (k + 1) * 4 = k * 4 + 4 by omega]; exact h1
      · rw [show (k + 1) * 4 + 1 = k * 4 + 1 + 4 by omega]; exact h2
      · rw [show (k + 1) * 4 + 2 = k * 4 + 2 + 4 by omega]; exact h3
      · rw [show (k + 1) * 4 + 3 = k * 4 + 3 + 4 by omega]; exact h4
/-- a slice of steps -/
def StepsAt (w : World) (ok : Nat → Prop) (A : Option Addr) (k : Nat) (l : List Stp) : Prop := k = l.length ∧ ∃ cells, Lies w ok 4 A k cells ∧ RowAt w ok cells l
theorem StepsAt.mono {w w' : World} {ok ok' : Nat → Prop} {A : Option Addr} {k : Nat} {l : List Stp} (h : StepsAt w ok A k l) (hk : ∀ b, ok b → b < w.heap.size → ok' b ∧ w'.heap[b]? = w.heap[b]?) : StepsAt w' ok' A k l := by
  obtain ⟨h1, cells, h2, h3⟩ := h
  exact ⟨h1, cells, h2.mono (by omega) hk, h3.mono hk⟩
theorem StepsAt.below {w w' : World} {ok : Nat → Prop} {A : Option Addr} {k : Nat} {l : List Stp} (h : StepsAt w ok A k l) (hb : Below w.heap.size w w') : StepsAt w' ok A k l :=
  h.mono fun b hk hs => ⟨hk, hb.block b hs⟩
/-- a step's cells in a slice of steps -/
theorem StepsAt.at_ {w : World} {ok : Nat → Prop} {A : Option Addr} {l : List Stp} {n : Nat} (h : StepsAt w ok A n l) {k : Nat} (hk : k < l.length) :
    ∃ ad A' ka ca B' kb cb, A = some ad ∧ w.cell? (ad.add (k * 4)) = some (.int .i64 l[k].op) ∧ w.cell? (ad.add (k * 4 + 1)) = some (.slice A' ka ca) ∧ w.cell? (ad.add (k * 4 + 2)) = some (.int .i64 l[k].n) ∧ w.cell? (ad.add (k * 4 + 3)) = some (.slice B' kb cb) ∧
      ka = l[k].args.length ∧ ka ≤ ca ∧ Lies w ok 1 A' ka (strV l[k].args) ∧ kb ≤ cb ∧ StepsAt w ok B' kb l[k].block := by
  obtain ⟨h1, cells, h2, h3⟩ := h
  obtain ⟨ad, rfl, ho, hc⟩ := h2.2 (by omega)
  obtain ⟨A', ka, ca, B', kb, cb, bc, g1, g2, g3, g4, g5, g6, g7, g8, g9, g10, g11⟩ := h3.at_ hk
  exact ⟨ad, A', ka, ca, B', kb, cb, rfl, hc _ _ g1, hc _ _ g2, hc _ _ g3, hc _ _ g4, g5, g6, g7, g9, g8, bc, g10, g11⟩
end Go.Proofs.YtcpkhaebcmgehaaGreatDoor.Lg
