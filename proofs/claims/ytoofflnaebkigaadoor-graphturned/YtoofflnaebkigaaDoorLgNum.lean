/- The words of the variables that the library wants; the contracts of lang.times and of the reference's number. -/
import Derived.Test.YtoofflnaebkigaaDoorLgSplit
import Derived.Test.YtoofflnaebkigaaDoorLgName
import Derived.Lib.AtoiTie
import Derived.Lib.AtoiAllCases
import Derived.Lib.AppendIntMem
namespace Go.Proofs.YtoofflnaebkigaaDoor.Lg
open Go.RowKit
set_option linter.unusedVariables false
set_option maxRecDepth 100000
/-- what the library's variables hold -/
def Env (w : World) : Prop :=
  (∃ m, w.cell? ⟨2, 0, none⟩ = some (.int .i64 m)) ∧ Lib.TabIs Tryd.prog w "internal/strconv.uint64pow10" .u64 Lib.pow10Tab ∧ Lib.TabIs Tryd.prog w "strings.asciiSpace" .u8 Lib.asciiSpaceTab ∧
  (∃ t p, w.cell? ⟨5, 0, none⟩ = some (.iface t p)) ∧ (∃ t p, w.cell? ⟨6, 0, none⟩ = some (.iface t p))
theorem cell_lt {w : World} {a : Addr} {v : Value} (h : w.cell? a = some v) : a.block < w.heap.size := by
  unfold World.cell? at h
  rcases Nat.lt_or_ge a.block w.heap.size with h1 | h1
  · exact h1
  · rw [Array.getElem?_eq_none h1] at h; cases h
theorem Env.below {w w' : World} (h : Env w) (hb : Below w.heap.size w w') : Env w' := by
  obtain ⟨⟨m, h1⟩, h2, h3, ⟨t, p, h4⟩, ⟨t', p', h5⟩⟩ := h
  exact ⟨⟨m, (hb.cell (cell_lt h1)).trans h1⟩, Lib.tabBelow_of_tabIs h2 w' hb, Lib.tabBelow_of_tabIs h3 w' hb, ⟨t, p, (hb.cell (cell_lt h4)).trans h4⟩, ⟨t', p', (hb.cell (cell_lt h5)).trans h5⟩⟩
theorem atoi_two {s : List UInt8} {n : Nat} (h : number s = some n) : Lib.atoiAll s = .ok (n : Int) := by
  have hd := number_some h
  match s, h with
  | [c], h =>
    simp only [number] at h
    split at h
    · next hc =>
      injection h with h
      subst h
      rw [Lib.atoiAll_short _ (by simp)]
      have n1 : (c == 45) = false := by simp; intro e; subst e; simp at hc
      have n2 : (c == 43) = false := by simp; intro e; subst e; simp at hc
      simp only [Lib.atoi, n1, n2, Lib.decNat, Lib.decFrom, Lib.digitVal, hc]
      simp [Lib.NumEnd.ofOption]
    · cases h
  | [c, d], h =>
    simp only [number] at h
    split at h
    · next hc =>
      injection h with h
      subst h
      rw [Lib.atoiAll_short _ (by simp)]
      have n1 : (c == 45) = false := by simp; intro e; subst e; simp at hc
      have n2 : (c == 43) = false := by simp; intro e; subst e; simp at hc
      have hc1 : 48 ≤ c.toNat ∧ c.toNat ≤ 57 := by omega
      simp only [Lib.atoi, n1, n2, Lib.decNat, Lib.decFrom, Lib.digitVal, hc.2.2, hc1]
      simp [Lib.NumEnd.ofOption]
      omega
    · cases h
theorem number_len {s : List UInt8} {n : Nat} (h : number s = some n) : s.length ≤ 2 := by
  match s, h with
  | [c], h => simp
  | [c, d], h => simp
/-- what lang.times answers: a number, and whether it is one; where it is one, it is that -/
def TimesSays (s : List UInt8) (e : Ending) : Prop := ∃ n : Int, e = .returned (.tuple #[.int .i64 n, .bool (number s).isSome]) ∧ ∀ k, number s = some k → n = k
set_option maxHeartbeats 1000000 in
theorem times_any (s : ByteArray) (hs : s.size ≤ 1000000000) (w : World) (hE : Env w) :
    Calls Tryd.prog 58 #[.string s] w fun e w' => TimesSays (tl s) e ∧ Below w.heap.size w w' := by
  cases hn : number (tl s) with
  | some n =>
    obtain ⟨h1, h2⟩ := number_some hn
    have AT := Lib.hid (Tryd.strconv_Atoi_ok s (by omega) n (atoi_two hn) w)
    have IT : Hid (∀ W, Calls Tryd.prog 67 #[.int .i64 n] W fun e w' => e = .returned (.string s) ∧ W = w') := Lib.hid (fun W => (Tryd.strconv_Itoa_small n h1 W).mono (fun e w' ⟨h3, h4⟩ => ⟨by rw [h3, h2], h4.symm⟩))
    have FIN : Hid (TimesSays (tl s) (.returned (.tuple #[.int .i64 n, .bool true]))) := Lib.hid ⟨n, by rw [hn]; rfl, fun k hk => by rw [hn] at hk; injection hk with hk; rw [hk]⟩
    have e1 : (0 : Int) ≤ (n : Int) := by omega
    have e2 : (n : Int) ≤ 99 := by omega
    have e3 : (s.toList == s.toList) = true := by simp
    clear hn h2
    go_enter Tryd.func58, Tryd.ntmps58
    go_wp2_with (go_at_call 66; ((with_reducible refine (AT.out).mono ?_); rintro e w1 ⟨rfl, hw1⟩))
    have B1 : Hid (Below w.heap.size w w1) := Lib.hid (by
      rcases hw1 with rfl | ⟨t, rfl⟩
      · exact Below.refl _ _
      · exact Lib.bytesWorld_below _ _ _)
    clear hw1
    go_wp2_with (go_at_call 67; ((with_reducible refine (IT.out _).mono ?_); rintro e w2 ⟨rfl, rfl⟩))
    go_ret2
    exact ⟨FIN.out, B1.out⟩
  | none =>
    have FIN : Hid (∀ n : Int, TimesSays (tl s) (.returned (.tuple #[.int .i64 n, .bool false]))) := Lib.hid fun n => ⟨n, by rw [hn]; rfl, fun k hk => by rw [hn] at hk; cases hk⟩
    have NO : Hid (∀ v : Int, 0 ≤ v → v ≤ 99 → (⟨(Lib.itoa v).toArray⟩ : ByteArray) ≠ s) := Lib.hid fun v h0 h1 e => by
      obtain ⟨n, rfl⟩ : ∃ n : Nat, v = n := ⟨v.toNat, by omega⟩
      rw [itoa_nat'] at e
      have h2 := number_dec (n := n) (by omega)
      rw [← e] at hn
      have h3 : tl (⟨(Lib.decDigits n).toArray⟩ : ByteArray) = Lib.decDigits n := rfl
      rw [h3, h2] at hn
      cases hn
    clear hn
    obtain ⟨_, hT, _, ⟨t1, p1, hS⟩, ⟨t2, p2, hR⟩⟩ := hE
    rcases ha : Lib.atoiAll (tl s) with v | _ | _
    · skip
      have hb := Lib.atoiAll_bounds ha
      have AT := Lib.hid (Tryd.strconv_Atoi_ok s (by omega) v ha w)
      have IT : Hid (∀ W, Below w.heap.size w W → Calls Tryd.prog 67 #[.int .i64 v] W fun e w' => e = .returned (.string ⟨(Lib.itoa v).toArray⟩) ∧ Below W.heap.size W w') := Lib.hid (fun W hW => (Tryd.strconv_Itoa v hb.1 hb.2 W (Lib.tabBelow_of_tabIs hT W hW)).mono (fun e w' ⟨h3, k, os, h4⟩ => ⟨h3, by rw [h4]; exact Lib.below_grow _ _ (Nat.le_refl _) _ _⟩))
      clear ha hT hS hR hb
      go_enter Tryd.func58, Tryd.ntmps58
      go_wp2_with (go_at_call 66; ((with_reducible refine (AT.out).mono ?_); rintro e w1 ⟨rfl, hw1⟩))
      have B1 : Hid (Below w.heap.size w w1) := Lib.hid (by
        rcases hw1 with rfl | ⟨t, rfl⟩
        · exact Below.refl _ _
        · exact Lib.bytesWorld_below _ _ _)
      clear hw1
      have I1 := Lib.hid (IT.out w1 B1.out)
      by_cases h0 : 0 ≤ v
      · by_cases h9 : v ≤ 99
        · have e1 := s_ne (NO.out v h0 h9)
          generalize (⟨(Lib.itoa v).toArray⟩ : ByteArray) = sv at *
          go_wp2_with (go_at_call 67; ((with_reducible refine (I1.out).mono ?_); rintro e w2 ⟨rfl, hw2⟩))
          go_ret2
          exact ⟨FIN.out _, B1.out.trans (hw2.mono B1.out.size)⟩
        · by_cases he : (⟨(Lib.itoa v).toArray⟩ : ByteArray) = s
          · have e3 : (s.toList == s.toList) = true := by simp
            rw [he] at I1
            clear he
            go_wp2_with (go_at_call 67; ((with_reducible refine (I1.out).mono ?_); rintro e w2 ⟨rfl, hw2⟩))
            go_ret2
            refine ⟨?_, B1.out.trans (hw2.mono B1.out.size)⟩
            show TimesSays (tl s) (.returned (.tuple #[.int .i64 v, .bool (decide (v ≤ 99))]))
            rw [decide_eq_false (by omega : ¬ v ≤ 99)]
            exact FIN.out _
          · have e1 := s_ne he
            clear he
            generalize (⟨(Lib.itoa v).toArray⟩ : ByteArray) = sv at *
            go_wp2_with (go_at_call 67; ((with_reducible refine (I1.out).mono ?_); rintro e w2 ⟨rfl, hw2⟩))
            go_ret2
            exact ⟨FIN.out _, B1.out.trans (hw2.mono B1.out.size)⟩
      · by_cases he : (⟨(Lib.itoa v).toArray⟩ : ByteArray) = s
        · have e3 : (s.toList == s.toList) = true := by simp
          rw [he] at I1
          clear he
          go_wp2_with (go_at_call 67; ((with_reducible refine (I1.out).mono ?_); rintro e w2 ⟨rfl, hw2⟩))
          go_ret2
          exact ⟨FIN.out _, B1.out.trans (hw2.mono B1.out.size)⟩
        · have e1 := s_ne he
          clear he
          generalize (⟨(Lib.itoa v).toArray⟩ : ByteArray) = sv at *
          go_wp2_with (go_at_call 67; ((with_reducible refine (I1.out).mono ?_); rintro e w2 ⟨rfl, hw2⟩))
          go_ret2
          exact ⟨FIN.out _, B1.out.trans (hw2.mono B1.out.size)⟩
    · skip
      have AT := Lib.hid (Tryd.strconv_Atoi_syntax s (by omega) ha _ w hS (.inr ⟨t1, p1, rfl⟩))
      clear ha hT hS hR
      go_enter Tryd.func58, Tryd.ntmps58
      go_wp2_with (go_at_call 66; ((with_reducible refine (AT.out).mono ?_); rintro e w1 ⟨N, rfl, _, _, hb⟩))
      go_ret2
      exact ⟨FIN.out _, hb⟩
    · skip
      have AT := Lib.hid (Tryd.strconv_Atoi_range s (by omega) ha _ w hR (.inr ⟨t2, p2, rfl⟩))
      clear ha hT hS hR
      go_enter Tryd.func58, Tryd.ntmps58
      go_wp2_with (go_at_call 66; ((with_reducible refine (AT.out).mono ?_); rintro e w1 ⟨N, rfl, _, _, hb⟩))
      go_ret2
      exact ⟨FIN.out _, hb⟩

def pnum (l : List UInt8) : Option Nat := l.foldl (fun a c => a.bind fun n => if 48 ≤ c.toNat ∧ c.toNat ≤ 57 then some (10 * n + (c.toNat - 48)) else none) (some 0)
theorem pnum_next {s : ByteArray} {k : Nat} (hk : k < s.size) : pnum ((tl s).take (k + 1)) = (pnum ((tl s).take k)).bind fun n => if 48 ≤ (s[k]'hk).toNat ∧ (s[k]'hk).toNat ≤ 57 then some (10 * n + ((s[k]'hk).toNat - 48)) else none := by
  rw [take_next hk, pnum, List.foldl_append]; rfl
def numV (s : List UInt8) : Value := match number s with | some n => .tuple #[.int .i64 n, .bool true] | none => .tuple #[.int .i64 0, .bool false]
theorem pnum_none : ∀ (l : List UInt8), l.foldl (fun (a : Option Nat) c => a.bind fun n => if 48 ≤ c.toNat ∧ c.toNat ≤ 57 then some (10 * n + (c.toNat - 48)) else none) none = none
  | [] => rfl
  | c :: l => by rw [List.foldl_cons]; exact pnum_none l
theorem pnum_stop {s : ByteArray} {k : Nat} (hk : k < s.size) (h : pnum ((tl s).take (k + 1)) = none) : pnum (tl s) = none := by
  have e : tl s = (tl s).take (k + 1) ++ (tl s).drop (k + 1) := (List.take_append_drop _ _).symm
  rw [pnum] at h
  conv => lhs; rw [e, pnum, List.foldl_append, h]
  exact pnum_none _
theorem number_pnum : ∀ {l : List UInt8}, 1 ≤ l.length → l.length ≤ 2 → (l.length = 2 → l.getD 0 0 ≠ 48) → number l = pnum l
  | [c], _, _, _ => by simp [number, pnum]
  | [c, d], _, _, h => by
    have h : c ≠ 48 := h rfl
    have h2 : c.toNat ≠ 48 := fun e => h (UInt8.toNat_inj.1 e)
    simp only [number, pnum, List.foldl_cons, List.foldl_nil, Option.bind_some, Nat.mul_zero, Nat.zero_add]
    by_cases h3 : 48 ≤ c.toNat ∧ c.toNat ≤ 57
    · rw [if_pos h3, Option.bind_some]
      by_cases h4 : 48 ≤ d.toNat ∧ d.toNat ≤ 57
      · rw [if_pos h4, if_pos (by omega)]
      · rw [if_neg h4, if_neg (by omega)]
    · rw [if_neg h3, if_neg (by omega)]; rfl
theorem number_no {l : List UInt8} (h : l.length < 1 ∨ 2 < l.length) : number l = none := by
  match l, h with
  | [], _ => rfl
  | [_], h => simp at h
  | [_, _], h => simp at h
  | _ :: _ :: _ :: _, _ => rfl
theorem number_lead {d : UInt8} : number [48, d] = none := by
  have : (48 : UInt8).toNat = 48 := rfl
  simp only [number]
  rw [if_neg]
  omega
theorem numV_none {s : List UInt8} (h : number s = none) : numV s = .tuple #[.int .i64 0, .bool false] := by rw [numV, h]
theorem numV_some {s : List UInt8} {n : Nat} (h : number s = some n) : numV s = .tuple #[.int .i64 n, .bool true] := by rw [numV, h]
theorem dg_cases (c : UInt8) : ((48 ≤ c.toNat ∧ c.toNat ≤ 57) ∧ ¬ (c.toNat : Int) < 48 ∧ ¬ (57 : Int) < c.toNat) ∨ (¬ (48 ≤ c.toNat ∧ c.toNat ≤ 57) ∧ ((c.toNat : Int) < 48 ∨ (¬ (c.toNat : Int) < 48 ∧ (57 : Int) < c.toNat))) := by omega
set_option maxHeartbeats 1000000 in
theorem rnumber_any (s : ByteArray) (hs : s.size ≤ 1000000000) (w : World) :
    Calls Tryd.prog 51 #[.string s] w fun e w' => e = .returned (numV (tl s)) ∧ w = w' := by
  by_cases h0 : (s.size : Int) < 1
  · have HN := Lib.hid (numV_none (number_no (l := tl s) (.inl (by rw [tl_len]; omega))))
    go_enter Tryd.func51, Tryd.ntmps51
    go_wp2_with (fail)
    go_ret2
    exact ⟨ret_val HN.out, rfl⟩
  · by_cases h2 : (2 : Int) < (s.size : Int)
    · have HN := Lib.hid (numV_none (number_no (l := tl s) (.inr (by rw [tl_len]; omega))))
      go_enter Tryd.func51, Tryd.ntmps51
      go_wp2_with (fail)
      go_ret2
      exact ⟨ret_val HN.out, rfl⟩
    · have hp : 0 < s.size := by omega
      have main : ((s.size : Int) == 2) = false ∨ (((s.size : Int) == 2) = true ∧ ((s[0].toNat : Int) == 48) = false) → Calls Tryd.prog 51 #[.string s] w fun e w' => e = .returned (numV (tl s)) ∧ w = w' := by
        intro hc
        have NP := Lib.hid (number_pnum (l := tl s) (by rw [tl_len]; omega) (by rw [tl_len]; omega) (fun h e => by
          rw [tl_len] at h
          rcases hc with hc | ⟨_, hc⟩
          · simp [h] at hc
          · have : (tl s).getD 0 0 = s[0] := by rw [List.getD_eq_getElem?_getD, tl_get hp]; rfl
            rw [← this, e] at hc
            exact absurd hc (by decide)))
        have NX : Hid (∀ k (hk : k < s.size), pnum ((tl s).take (k + 1)) = (pnum ((tl s).take k)).bind fun n => if 48 ≤ (s[k]'hk).toNat ∧ (s[k]'hk).toNat ≤ 57 then some (10 * n + ((s[k]'hk).toNat - 48)) else none) := Lib.hid (fun k hk => pnum_next hk)
        have ST : Hid (∀ k (hk : k < s.size), pnum ((tl s).take (k + 1)) = none → pnum (tl s) = none) := Lib.hid (fun k hk h => pnum_stop hk h)
        rcases hc with hc | ⟨hc, hc2⟩
        all_goals
          go_enter Tryd.func51, Tryd.ntmps51
          go_wp2_with (fail)
          go_loop [4, 5] (fun v i => ∃ n k : Nat, v = .int .i64 n ∧ i = .int .i64 k ∧ k ≤ s.size ∧ n < 10 ^ k ∧ pnum ((tl s).take k) = some n) (fun _ i => s.size - (intOf i).toNat)
          case atStart => exact ⟨0, 0, rfl, rfl, by omega, by decide, rfl⟩
          case round =>
            obtain ⟨n, k, rfl, rfl, hk, hn, hp2⟩ := hrel
            have HP := Lib.hid hp2
            clear hp2
            by_cases hlt : k < s.size
            · have hkI : (k : Int) < (s.size : Int) := by omega
              have N1 := Lib.hid (NX.out k hlt)
              have hn2 : n ≤ 40 := by
                have : k = 0 ∨ k = 1 := by omega
                rcases this with rfl | rfl <;> omega
              rcases dg_cases (s[k]'hlt) with ⟨hb, g1, g2⟩ | ⟨hb, g⟩
              · have HB := Lib.hid hb
                have hn3 : 10 * n + ((s[k]'hlt).toNat - 48) < 10 ^ (k + 1) := by rw [Nat.pow_succ]; omega
                have HN3 := Lib.hid hn3
                clear hb hn hn3
                go_wp2_with (fail)
                go_round
                case rel => exact ⟨10 * n + ((s[k]'hlt).toNat - 48), k + 1, by have := HB.out.1; congr 1; omega, by go_num, by omega, HN3.out, by rw [N1.out, HP.out, Option.bind_some, if_pos HB.out]⟩
                case measure => simp [intOf]; omega
              · have F := Lib.hid (numV_none (by rw [NP.out]; exact ST.out k hlt (by rw [N1.out, HP.out, Option.bind_some, if_neg hb])))
                clear hb
                rcases g with g1 | ⟨g1, g2⟩
                all_goals
                  go_wp2_with (fail)
                  go_ret2
                  exact ⟨ret_val F.out, rfl⟩
            · obtain rfl : k = s.size := by omega
              have F := Lib.hid (numV_some (by rw [NP.out, ← HP.out, take_all]))
              go_wp2_with (fail)
              go_ret2
              exact ⟨ret_val F.out, rfl⟩
      by_cases e2 : s.size = 2
      · have c2 : ((s.size : Int) == 2) = true := by simp [e2]
        by_cases e3 : s[0] = 48
        · have HN : Hid (numV (tl s) = .tuple #[.int .i64 0, .bool false]) := Lib.hid (numV_none (by
            have hl : (tl s).length = 2 := by rw [tl_len]; exact e2
            have h0 := tl_get hp
            rw [e3] at h0
            match hh : tl s with
            | [x, d] =>
              rw [hh] at h0
              have : x = 48 := by simpa using h0
              rw [this]; exact number_lead
            | [] => rw [hh] at hl; cases hl
            | [_] => rw [hh] at hl; cases hl
            | _ :: _ :: _ :: _ => rw [hh] at hl; simp at hl))
          have c3 : ((s[0].toNat : Int) == 48) = true := by rw [e3]; rfl
          clear e3 main
          go_enter Tryd.func51, Tryd.ntmps51
          go_wp2_with (fail)
          go_ret2
          exact ⟨ret_val HN.out, rfl⟩
        · exact main (.inr ⟨c2, by
            rw [beq_eq_false_iff_ne]
            intro h
            exact e3 (UInt8.toNat_inj.1 (by have : (48 : UInt8).toNat = 48 := rfl; omega))⟩)
      · exact main (.inl (by rw [beq_eq_false_iff_ne]; omega))
end Go.Proofs.YtoofflnaebkigaaDoor.Lg
