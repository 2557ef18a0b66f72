/- Joined by mkmerged.py: LgName, LgNum, LgAll. -/
import Derived.Test.YtdidnlkilleljaaGreatDoorMg05
import Derived.Test.YtdidnlkilleljaaGreatDoorMg04
import Derived.Lib.AtoiTie
import Derived.Lib.AtoiAllCases
import Derived.Lib.AppendIntMem
/- LgName, what a claim needs of it (prune.py). -/
namespace Go.Proofs.YtdidnlkilleljaaGreatDoor.Lg
open Go.RowKit
set_option linter.unusedVariables false
set_option maxRecDepth 100000
theorem nb_cases (c : UInt8) :
    (nameByte c = true ∧ ((((c.toNat : Int) != 45) = false) ∨ (((c.toNat : Int) != 45) = true ∧ ((c.toNat : Int) != 95) = false) ∨ (((c.toNat : Int) != 45) = true ∧ ((c.toNat : Int) != 95) = true ∧ ¬ (c.toNat : Int) < 48 ∧ ¬ (57 : Int) < c.toNat)
      ∨ (((c.toNat : Int) != 45) = true ∧ ((c.toNat : Int) != 95) = true ∧ ¬ (c.toNat : Int) < 48 ∧ (57 : Int) < c.toNat ∧ ¬ (c.toNat : Int) < 97 ∧ ¬ (122 : Int) < c.toNat))) ∨
    (nameByte c = false ∧ ((((c.toNat : Int) != 45) = true ∧ ((c.toNat : Int) != 95) = true ∧ (c.toNat : Int) < 48 ∧ (c.toNat : Int) < 97)
      ∨ (((c.toNat : Int) != 45) = true ∧ ((c.toNat : Int) != 95) = true ∧ ¬ (c.toNat : Int) < 48 ∧ (57 : Int) < c.toNat ∧ (c.toNat : Int) < 97)
      ∨ (((c.toNat : Int) != 45) = true ∧ ((c.toNat : Int) != 95) = true ∧ ¬ (c.toNat : Int) < 48 ∧ (57 : Int) < c.toNat ∧ ¬ (c.toNat : Int) < 97 ∧ (122 : Int) < c.toNat))) := by
  have h45 : (c == 45) = decide (c.toNat = 45) := by rw [Bool.eq_iff_iff]; simp [← UInt8.toNat_inj]
  have h95 : (c == 95) = decide (c.toNat = 95) := by rw [Bool.eq_iff_iff]; simp [← UInt8.toNat_inj]
  unfold nameByte
  rw [h45, h95]
  generalize c.toNat = n
  simp only [Bool.or_eq_true, Bool.and_eq_true, decide_eq_true_eq, Bool.or_eq_false_iff, Bool.and_eq_false_iff, decide_eq_false_iff_not, bne_iff_ne, bne_eq_false_iff_eq]
  omega
theorem nb_cases2 (c : UInt8) :
    (nameByte c = true ∧ (((97 : Int) ≤ c.toNat ∧ (c.toNat : Int) ≤ 122) ∨ (¬ (97 : Int) ≤ c.toNat ∧ (48 : Int) ≤ c.toNat ∧ (c.toNat : Int) ≤ 57) ∨ (¬ (97 : Int) ≤ c.toNat ∧ ¬ (48 : Int) ≤ c.toNat ∧ ((c.toNat : Int) == 45) = true)
      ∨ (¬ (97 : Int) ≤ c.toNat ∧ (48 : Int) ≤ c.toNat ∧ ¬ (c.toNat : Int) ≤ 57 ∧ ((c.toNat : Int) == 45) = false ∧ ((c.toNat : Int) == 95) = true))) ∨
    (nameByte c = false ∧ (((97 : Int) ≤ c.toNat ∧ ¬ (c.toNat : Int) ≤ 122 ∧ (48 : Int) ≤ c.toNat ∧ ¬ (c.toNat : Int) ≤ 57 ∧ ((c.toNat : Int) == 45) = false ∧ ((c.toNat : Int) == 95) = false)
      ∨ (¬ (97 : Int) ≤ c.toNat ∧ (48 : Int) ≤ c.toNat ∧ ¬ (c.toNat : Int) ≤ 57 ∧ ((c.toNat : Int) == 45) = false ∧ ((c.toNat : Int) == 95) = false)
      ∨ (¬ (97 : Int) ≤ c.toNat ∧ ¬ (48 : Int) ≤ c.toNat ∧ ((c.toNat : Int) == 45) = false ∧ ((c.toNat : Int) == 95) = false))) := by
  have h45 : (c == 45) = decide (c.toNat = 45) := by rw [Bool.eq_iff_iff]; simp [← UInt8.toNat_inj]
  have h95 : (c == 95) = decide (c.toNat = 95) := by rw [Bool.eq_iff_iff]; simp [← UInt8.toNat_inj]
  unfold nameByte
  rw [h45, h95]
  generalize c.toNat = n
  simp only [Bool.or_eq_true, Bool.and_eq_true, decide_eq_true_eq, Bool.or_eq_false_iff, Bool.and_eq_false_iff, decide_eq_false_iff_not, beq_iff_eq, beq_eq_false_iff_ne]
  omega
def nameE (s : List UInt8) : Int := if nameOk s = true then 0 else 14
theorem nameE_no {s : ByteArray} (h : s.size < 1 ∨ 16 < s.size) : nameE (tl s) = 14 := by
  have : nameOk (tl s) = false := by
    have e : (decide (1 ≤ s.size) && decide (s.size ≤ 16)) = false := by
      simp only [Bool.and_eq_false_iff, decide_eq_false_iff_not]; omega
    unfold nameOk
    rw [tl_len, e]; rfl
  rw [nameE, this]; rfl
theorem nameE_bad {s : ByteArray} {k : Nat} (hk : k < s.size) (h : nameByte (s[k]'hk) = false) : nameE (tl s) = 14 := by
  have : nameOk (tl s) = false := by
    cases e : nameOk (tl s) with
    | false => rfl
    | true =>
      simp only [nameOk, Bool.and_eq_true, List.all_eq_true] at e
      have := e.2 (s[k]'hk) (List.mem_of_getElem? (tl_get hk))
      rw [h] at this; cases this
  rw [nameE, this]; rfl
theorem nameE_ok {s : ByteArray} (h1 : 1 ≤ s.size) (h2 : s.size ≤ 16) (h : ((tl s).take s.size).all nameByte = true) : nameE (tl s) = 0 := by
  rw [take_all] at h
  have : nameOk (tl s) = true := by
    rw [nameOk, h, tl_len]; simp; omega
  rw [nameE, this]; rfl
theorem pname_any (s : ByteArray) (hs : s.size ≤ 1000000000) (w : World) :
    Calls Tryz.prog 37 #[.string s] w fun e w' => e = .returned (.int .i64 (nameE (tl s))) ∧ w = w' := by
  by_cases h0 : s.size = 0
  · have HN := Lib.hid (nameE_no (s := s) (.inl (by omega)))
    obtain rfl := empty_of h0
    go_enter Tryz.func37, Tryz.ntmps37
    go_wp2_with (fail)
    go_ret
    exact ⟨ret_int HN.out, rfl⟩
  · have hne := some_ne h0
    by_cases h16 : (16 : Int) < (s.size : Int)
    · have HN := Lib.hid (nameE_no (s := s) (.inr (by omega)))
      go_enter Tryz.func37, Tryz.ntmps37
      go_wp2_with (fail)
      go_ret
      exact ⟨ret_int HN.out, rfl⟩
    · have OK := Lib.hid (nameE_ok (s := s) (by omega) (by omega))
      have BAD : Hid (∀ k (hk : k < s.size), nameByte (s[k]'hk) = false → nameE (tl s) = 14) := Lib.hid (fun k hk h => nameE_bad hk h)
      have NX : Hid (∀ k (hk : k < s.size), ((tl s).take (k + 1)).all nameByte = (((tl s).take k).all nameByte && nameByte (s[k]'hk))) := Lib.hid (fun k hk => all_next hk)
      go_enter Tryz.func37, Tryz.ntmps37
      go_wp2_with (fail)
      go_loop [14] (fun i => ∃ k : Nat, i = .int .i64 k ∧ k ≤ s.size ∧ ((tl s).take k).all nameByte = true) (fun i => s.size - (intOf i).toNat)
      case atStart => exact ⟨0, rfl, by omega, by simp⟩
      case round =>
        obtain ⟨k, rfl, hk, ha⟩ := hrel
        have HA := Lib.hid ha
        clear ha
        by_cases hlt : k < s.size
        · have hkI : (k : Int) < (s.size : Int) := by omega
          have N1 := Lib.hid (NX.out k hlt)
          rcases nb_cases (s[k]'hlt) with ⟨hb, hc⟩ | ⟨hb, hc⟩
          · have HB := Lib.hid hb
            clear hb
            rcases hc with h1 | ⟨h1, h2⟩ | ⟨h1, h2, h3, h4⟩ | ⟨h1, h2, h3, h4, h5, h6⟩
            all_goals
              go_wp2_with (fail)
              go_round
              case rel => exact ⟨k + 1, by go_num, by omega, by rw [N1.out, HA.out, HB.out]; rfl⟩
              case measure => simp [intOf]; omega
          · have HB := Lib.hid (BAD.out k hlt hb)
            clear hb
            rcases hc with ⟨h1, h2, h3, h4⟩ | ⟨h1, h2, h3, h4, h5⟩ | ⟨h1, h2, h3, h4, h5, h6⟩
            all_goals
              go_wp2_with (fail)
              go_ret
              exact ⟨ret_int HB.out, rfl⟩
        · obtain rfl : k = s.size := by omega
          go_wp2_with (fail)
          go_ret
          exact ⟨ret_int (OK.out HA.out), rfl⟩
theorem rname_any (s : ByteArray) (hs : s.size ≤ 1000000000) (w : World) :
    Calls Tryz.prog 177 #[.string s] w fun e w' => e = .returned (.int .i64 (nameE (tl s))) ∧ w = w' := by
  by_cases h0 : (s.size : Int) < 1
  · have HN := Lib.hid (nameE_no (s := s) (.inl (by omega)))
    go_enter Tryz.func177, Tryz.ntmps177
    go_wp2_with (fail)
    go_ret
    exact ⟨ret_int HN.out, rfl⟩
  · by_cases h16 : (16 : Int) < (s.size : Int)
    · have HN := Lib.hid (nameE_no (s := s) (.inr (by omega)))
      go_enter Tryz.func177, Tryz.ntmps177
      go_wp2_with (fail)
      go_ret
      exact ⟨ret_int HN.out, rfl⟩
    · have OK := Lib.hid (nameE_ok (s := s) (by omega) (by omega))
      have BAD : Hid (∀ k (hk : k < s.size), nameByte (s[k]'hk) = false → nameE (tl s) = 14) := Lib.hid (fun k hk h => nameE_bad hk h)
      have NX : Hid (∀ k (hk : k < s.size), ((tl s).take (k + 1)).all nameByte = (((tl s).take k).all nameByte && nameByte (s[k]'hk))) := Lib.hid (fun k hk => all_next hk)
      go_enter Tryz.func177, Tryz.ntmps177
      go_wp2_with (fail)
      go_loop [3] (fun i => ∃ k : Nat, i = .int .i64 k ∧ k ≤ s.size ∧ ((tl s).take k).all nameByte = true) (fun i => s.size - (intOf i).toNat)
      case atStart => exact ⟨0, rfl, by omega, by simp⟩
      case round =>
        obtain ⟨k, rfl, hk, ha⟩ := hrel
        have HA := Lib.hid ha
        clear ha
        by_cases hlt : k < s.size
        · have hkI : (k : Int) < (s.size : Int) := by omega
          have N1 := Lib.hid (NX.out k hlt)
          rcases nb_cases2 (s[k]'hlt) with ⟨hb, hc⟩ | ⟨hb, hc⟩
          · have HB := Lib.hid hb
            clear hb
            rcases hc with ⟨h1, h2⟩ | ⟨h1, h2, h3⟩ | ⟨h1, h2, h3⟩ | ⟨h1, h2, h3, h4, h5⟩
            all_goals
              go_wp2_with (fail)
              go_round
              case rel => exact ⟨k + 1, by go_num, by omega, by rw [N1.out, HA.out, HB.out]; rfl⟩
              case measure => simp [intOf]; omega
          · have HB := Lib.hid (BAD.out k hlt hb)
            clear hb
            rcases hc with ⟨h1, h2, h3, h4, h5, h6⟩ | ⟨h1, h2, h3, h4, h5⟩ | ⟨h1, h2, h3, h4⟩
            all_goals
              go_wp2_with (fail)
              go_ret
              exact ⟨ret_int HB.out, rfl⟩
        · obtain rfl : k = s.size := by omega
          go_wp2_with (fail)
          go_ret
          exact ⟨ret_int (OK.out HA.out), rfl⟩
theorem textOk_no {s : ByteArray} (h : s.size < 1 ∨ 32 < s.size) : textOk (tl s) = false := by
  have e : (decide (1 ≤ s.size) && decide (s.size ≤ 32)) = false := by
    simp only [Bool.and_eq_false_iff, decide_eq_false_iff_not]; omega
  unfold textOk
  rw [tl_len, e]; rfl
theorem textOk_bad {s : ByteArray} {k : Nat} (hk : k < s.size) (h : printable (s[k]'hk) = false) : textOk (tl s) = false := by
  cases e : textOk (tl s) with
  | false => rfl
  | true =>
    simp only [textOk, Bool.and_eq_true, List.all_eq_true] at e
    have := e.2 (s[k]'hk) (List.mem_of_getElem? (tl_get hk))
    rw [h] at this; cases this
theorem textOk_ok {s : ByteArray} (h1 : 1 ≤ s.size) (h2 : s.size ≤ 32) (h : ((tl s).take s.size).all printable = true) : textOk (tl s) = true := by
  rw [take_all] at h
  rw [textOk, h, tl_len]; simp; omega
theorem rtext_any (s : ByteArray) (hs : s.size ≤ 1000000000) (w : World) :
    Calls Tryz.prog 176 #[.string s] w fun e w' => e = .returned (.bool (textOk (tl s))) ∧ w = w' := by
  by_cases h0 : (s.size : Int) < 1
  · have HN := Lib.hid (textOk_no (s := s) (.inl (by omega)))
    go_enter Tryz.func176, Tryz.ntmps176
    go_wp2_with (fail)
    go_ret
    exact ⟨ret_bool HN.out, rfl⟩
  · by_cases h16 : (32 : Int) < (s.size : Int)
    · have HN := Lib.hid (textOk_no (s := s) (.inr (by omega)))
      go_enter Tryz.func176, Tryz.ntmps176
      go_wp2_with (fail)
      go_ret
      exact ⟨ret_bool HN.out, rfl⟩
    · have OK := Lib.hid (textOk_ok (s := s) (by omega) (by omega))
      have BAD : Hid (∀ k (hk : k < s.size), printable (s[k]'hk) = false → textOk (tl s) = false) := Lib.hid (fun k hk h => textOk_bad hk h)
      have NX : Hid (∀ k (hk : k < s.size), ((tl s).take (k + 1)).all printable = (((tl s).take k).all printable && printable (s[k]'hk))) := Lib.hid (fun k hk => all_next hk)
      go_enter Tryz.func176, Tryz.ntmps176
      go_wp2_with (fail)
      go_loop [3] (fun i => ∃ k : Nat, i = .int .i64 k ∧ k ≤ s.size ∧ ((tl s).take k).all printable = true) (fun i => s.size - (intOf i).toNat)
      case atStart => exact ⟨0, rfl, by omega, by simp⟩
      case round =>
        obtain ⟨k, rfl, hk, ha⟩ := hrel
        have HA := Lib.hid ha
        clear ha
        by_cases hlt : k < s.size
        · have hkI : (k : Int) < (s.size : Int) := by omega
          have N1 := Lib.hid (NX.out k hlt)
          rcases pr_cases (s[k]'hlt) with ⟨hb, h1, h2⟩ | ⟨hb, hc⟩
          · have HB := Lib.hid hb
            clear hb
            go_wp2_with (fail)
            go_round
            case rel => exact ⟨k + 1, by go_num, by omega, by rw [N1.out, HA.out, HB.out]; rfl⟩
            case measure => simp [intOf]; omega
          · have HB := Lib.hid (BAD.out k hlt hb)
            clear hb
            rcases hc with h1 | ⟨h1, h2⟩
            all_goals
              go_wp2_with (fail)
              go_ret
              exact ⟨ret_bool HB.out, rfl⟩
        · obtain rfl : k = s.size := by omega
          go_wp2_with (fail)
          go_ret
          exact ⟨ret_bool (OK.out HA.out), rfl⟩
end Go.Proofs.YtdidnlkilleljaaGreatDoor.Lg
/- LgNum, what a claim needs of it (prune.py). -/
namespace Go.Proofs.YtdidnlkilleljaaGreatDoor.Lg
open Go.RowKit
set_option linter.unusedVariables false
set_option maxRecDepth 100000
def Env (w : World) : Prop :=
  (∃ m, w.cell? ⟨2, 0, none⟩ = some (.int .i64 m)) ∧ Lib.TabIs Tryz.prog w "internal/strconv.uint64pow10" .u64 Lib.pow10Tab ∧ Lib.TabIs Tryz.prog w "strings.asciiSpace" .u8 Lib.asciiSpaceTab ∧
  (∃ t p, w.cell? ⟨6, 0, none⟩ = some (.iface t p)) ∧ (∃ t p, w.cell? ⟨7, 0, none⟩ = some (.iface t p))
theorem cell_lt {w : World} {a : Addr} {v : Value} (h : w.cell? a = some v) : a.block < w.heap.size := by
  unfold World.cell? at h
  rcases Nat.lt_or_ge a.block w.heap.size with h1 | h1
  · exact h1
  · rw [Array.getElem?_eq_none h1] at h; cases h
theorem Env.below {w w' : World} (h : Env w) (hb : Below w.heap.size w w') : Env w' := by
  obtain ⟨⟨m, h1⟩, h2, h3, ⟨t, p, h4⟩, ⟨t', p', h5⟩⟩ := h
  exact ⟨⟨m, (hb.cell (cell_lt h1)).trans h1⟩, Lib.tabBelow_of_tabIs h2 w' hb, Lib.tabBelow_of_tabIs h3 w' hb, ⟨t, p, (hb.cell (cell_lt h4)).trans h4⟩, ⟨t', p', (hb.cell (cell_lt h5)).trans h5⟩⟩
theorem atoi_two {s : List UInt8} {n : Nat} (h : number s = some n) : Lib.atoiAll s = .ok (n : Int) := by
  have hd := number_some h
  match s, h with
  | [c], h =>
    simp only [number] at h
    split at h
    · next hc =>
      injection h with h
      subst h
      rw [Lib.atoiAll_short _ (by simp)]
      have n1 : (c == 45) = false := by simp; intro e; subst e; simp at hc
      have n2 : (c == 43) = false := by simp; intro e; subst e; simp at hc
      simp only [Lib.atoi, n1, n2, Lib.decNat, Lib.decFrom, Lib.digitVal, hc]
      simp [Lib.NumEnd.ofOption]
    · cases h
  | [c, d], h =>
    simp only [number] at h
    split at h
    · next hc =>
      injection h with h
      subst h
      rw [Lib.atoiAll_short _ (by simp)]
      have n1 : (c == 45) = false := by simp; intro e; subst e; simp at hc
      have n2 : (c == 43) = false := by simp; intro e; subst e; simp at hc
      have hc1 : 48 ≤ c.toNat ∧ c.toNat ≤ 57 := by omega
      simp only [Lib.atoi, n1, n2, Lib.decNat, Lib.decFrom, Lib.digitVal, hc.2.2, hc1]
      simp [Lib.NumEnd.ofOption]
      omega
    · cases h
def TimesSays (s : List UInt8) (e : Ending) : Prop := ∃ n : Int, e = .returned (.tuple #[.int .i64 n, .bool (number s).isSome]) ∧ ∀ k, number s = some k → n = k
set_option maxHeartbeats 1000000 in
theorem times_any (s : ByteArray) (hs : s.size ≤ 1000000000) (w : World) (hE : Env w) :
    Calls Tryz.prog 144 #[.string s] w fun e w' => TimesSays (tl s) e ∧ Below w.heap.size w w' := by
  cases hn : number (tl s) with
  | some n =>
    obtain ⟨h1, h2⟩ := number_some hn
    have AT := Lib.hid (Tryz.strconv_Atoi_ok s (by omega) n (atoi_two hn) w)
    have IT : Hid (∀ W, Calls Tryz.prog 110 #[.int .i64 n] W fun e w' => e = .returned (.string s) ∧ W = w') := Lib.hid (fun W => (Tryz.strconv_Itoa_small n h1 W).mono (fun e w' ⟨h3, h4⟩ => ⟨by rw [h3, h2], h4.symm⟩))
    have FIN : Hid (TimesSays (tl s) (.returned (.tuple #[.int .i64 n, .bool true]))) := Lib.hid ⟨n, by rw [hn]; rfl, fun k hk => by rw [hn] at hk; injection hk with hk; rw [hk]⟩
    have e1 : (0 : Int) ≤ (n : Int) := by omega
    have e2 : (n : Int) ≤ 99 := by omega
    have e3 : (s.toList == s.toList) = true := by simp
    clear hn h2
    go_enter Tryz.func144, Tryz.ntmps144
    go_wp2_with (go_at_call 191; ((with_reducible refine (AT.out).mono ?_); rintro e w1 ⟨rfl, hw1⟩))
    have B1 : Hid (Below w.heap.size w w1) := Lib.hid (by
      rcases hw1 with rfl | ⟨t, rfl⟩
      · exact Below.refl _ _
      · exact Lib.bytesWorld_below _ _ _)
    clear hw1
    go_wp2_with (go_at_call 110; ((with_reducible refine (IT.out _).mono ?_); rintro e w2 ⟨rfl, rfl⟩))
    go_ret2
    exact ⟨FIN.out, B1.out⟩
  | none =>
    have FIN : Hid (∀ n : Int, TimesSays (tl s) (.returned (.tuple #[.int .i64 n, .bool false]))) := Lib.hid fun n => ⟨n, by rw [hn]; rfl, fun k hk => by rw [hn] at hk; cases hk⟩
    have NO : Hid (∀ v : Int, 0 ≤ v → v ≤ 99 → (⟨(Lib.itoa v).toArray⟩ : ByteArray) ≠ s) := Lib.hid fun v h0 h1 e => by
      obtain ⟨n, rfl⟩ : ∃ n : Nat, v = n := ⟨v.toNat, by omega⟩
      rw [itoa_nat'] at e
      have h2 := number_dec (n := n) (by omega)
      rw [← e] at hn
      have h3 : tl (⟨(Lib.decDigits n).toArray⟩ : ByteArray) = Lib.decDigits n := rfl
      rw [h3, h2] at hn
      cases hn
    clear hn
    obtain ⟨_, hT, _, ⟨t1, p1, hS⟩, ⟨t2, p2, hR⟩⟩ := hE
    rcases ha : Lib.atoiAll (tl s) with v | _ | _
    · skip
      have hb := Lib.atoiAll_bounds ha
      have AT := Lib.hid (Tryz.strconv_Atoi_ok s (by omega) v ha w)
      have IT : Hid (∀ W, Below w.heap.size w W → Calls Tryz.prog 110 #[.int .i64 v] W fun e w' => e = .returned (.string ⟨(Lib.itoa v).toArray⟩) ∧ Below W.heap.size W w') := Lib.hid (fun W hW => (Tryz.strconv_Itoa v hb.1 hb.2 W (Lib.tabBelow_of_tabIs hT W hW)).mono (fun e w' ⟨h3, k, os, h4⟩ => ⟨h3, by rw [h4]; exact Lib.below_grow _ _ (Nat.le_refl _) _ _⟩))
      clear ha hT hS hR hb
      go_enter Tryz.func144, Tryz.ntmps144
      go_wp2_with (go_at_call 191; ((with_reducible refine (AT.out).mono ?_); rintro e w1 ⟨rfl, hw1⟩))
      have B1 : Hid (Below w.heap.size w w1) := Lib.hid (by
        rcases hw1 with rfl | ⟨t, rfl⟩
        · exact Below.refl _ _
        · exact Lib.bytesWorld_below _ _ _)
      clear hw1
      have I1 := Lib.hid (IT.out w1 B1.out)
      by_cases h0 : 0 ≤ v
      · by_cases h9 : v ≤ 99
        · have e1 := s_ne (NO.out v h0 h9)
          generalize (⟨(Lib.itoa v).toArray⟩ : ByteArray) = sv at *
          go_wp2_with (go_at_call 110; ((with_reducible refine (I1.out).mono ?_); rintro e w2 ⟨rfl, hw2⟩))
          go_ret2
          exact ⟨FIN.out _, B1.out.trans (hw2.mono B1.out.size)⟩
        · by_cases he : (⟨(Lib.itoa v).toArray⟩ : ByteArray) = s
          · have e3 : (s.toList == s.toList) = true := by simp
            rw [he] at I1
            clear he
            go_wp2_with (go_at_call 110; ((with_reducible refine (I1.out).mono ?_); rintro e w2 ⟨rfl, hw2⟩))
            go_ret2
            refine ⟨?_, B1.out.trans (hw2.mono B1.out.size)⟩
            show TimesSays (tl s) (.returned (.tuple #[.int .i64 v, .bool (decide (v ≤ 99))]))
            rw [decide_eq_false (by omega : ¬ v ≤ 99)]
            exact FIN.out _
          · have e1 := s_ne he
            clear he
            generalize (⟨(Lib.itoa v).toArray⟩ : ByteArray) = sv at *
            go_wp2_with (go_at_call 110; ((with_reducible refine (I1.out).mono ?_); rintro e w2 ⟨rfl, hw2⟩))
            go_ret2
            exact ⟨FIN.out _, B1.out.trans (hw2.mono B1.out.size)⟩
      · by_cases he : (⟨(Lib.itoa v).toArray⟩ : ByteArray) = s
        · have e3 : (s.toList == s.toList) = true := by simp
          rw [he] at I1
          clear he
          go_wp2_with (go_at_call 110; ((with_reducible refine (I1.out).mono ?_); rintro e w2 ⟨rfl, hw2⟩))
          go_ret2
          exact ⟨FIN.out _, B1.out.trans (hw2.mono B1.out.size)⟩
        · have e1 := s_ne he
          clear he
          generalize (⟨(Lib.itoa v).toArray⟩ : ByteArray) = sv at *
          go_wp2_with (go_at_call 110; ((with_reducible refine (I1.out).mono ?_); rintro e w2 ⟨rfl, hw2⟩))
          go_ret2
          exact ⟨FIN.out _, B1.out.trans (hw2.mono B1.out.size)⟩
    · skip
      have AT := Lib.hid (Tryz.strconv_Atoi_syntax s (by omega) ha _ w hS (.inr ⟨t1, p1, rfl⟩))
      clear ha hT hS hR
      go_enter Tryz.func144, Tryz.ntmps144
      go_wp2_with (go_at_call 191; ((with_reducible refine (AT.out).mono ?_); rintro e w1 ⟨N, rfl, _, _, hb⟩))
      go_ret2
      exact ⟨FIN.out _, hb⟩
    · skip
      have AT := Lib.hid (Tryz.strconv_Atoi_range s (by omega) ha _ w hR (.inr ⟨t2, p2, rfl⟩))
      clear ha hT hS hR
      go_enter Tryz.func144, Tryz.ntmps144
      go_wp2_with (go_at_call 191; ((with_reducible refine (AT.out).mono ?_); rintro e w1 ⟨N, rfl, _, _, hb⟩))
      go_ret2
      exact ⟨FIN.out _, hb⟩
def pnum (l : List UInt8) : Option Nat := l.foldl (fun a c => a.bind fun n => if 48 ≤ c.toNat ∧ c.toNat ≤ 57 then some (10 * n + (c.toNat - 48)) else none) (some 0)
theorem pnum_next {s : ByteArray} {k : Nat} (hk : k < s.size) : pnum ((tl s).take (k + 1)) = (pnum ((tl s).take k)).bind fun n => if 48 ≤ (s[k]'hk).toNat ∧ (s[k]'hk).toNat ≤ 57 then some (10 * n + ((s[k]'hk).toNat - 48)) else none := by
  rw [take_next hk, pnum, List.foldl_append]; rfl
def numV (s : List UInt8) : Value := match number s with | some n => .tuple #[.int .i64 n, .bool true] | none => .tuple #[.int .i64 0, .bool false]
theorem pnum_none : ∀ (l : List UInt8), l.foldl (fun (a : Option Nat) c => a.bind fun n => if 48 ≤ c.toNat ∧ c.toNat ≤ 57 then some (10 * n + (c.toNat - 48)) else none) none = none
  | [] => rfl
  | c :: l => by rw [List.foldl_cons]; exact pnum_none l
theorem pnum_stop {s : ByteArray} {k : Nat} (hk : k < s.size) (h : pnum ((tl s).take (k + 1)) = none) : pnum (tl s) = none := by
  have e : tl s = (tl s).take (k + 1) ++ (tl s).drop (k + 1) := (List.take_append_drop _ _).symm
  rw [pnum] at h
  conv => lhs; rw [e, pnum, List.foldl_append, h]
  exact pnum_none _
theorem number_pnum : ∀ {l : List UInt8}, 1 ≤ l.length → l.length ≤ 2 → (l.length = 2 → l.getD 0 0 ≠ 48) → number l = pnum l
  | [c], _, _, _ => by simp [number, pnum]
  | [c, d], _, _, h => by
    have h : c ≠ 48 := h rfl
    have h2 : c.toNat ≠ 48 := fun e => h (UInt8.toNat_inj.1 e)
    simp only [number, pnum, List.foldl_cons, List.foldl_nil, Option.bind_some, Nat.mul_zero, Nat.zero_add]
    by_cases h3 : 48 ≤ c.toNat ∧ c.toNat ≤ 57
    · rw [if_pos h3, Option.bind_some]
      by_cases h4 : 48 ≤ d.toNat ∧ d.toNat ≤ 57
      · rw [if_pos h4, if_pos (by omega)]
      · rw [if_neg h4, if_neg (by omega)]
    · rw [if_neg h3, if_neg (by omega)]; rfl
theorem number_no {l : List UInt8} (h : l.length < 1 ∨ 2 < l.length) : number l = none := by
  match l, h with
  | [], _ => rfl
  | [_], h => simp at h
  | [_, _], h => simp at h
  | _ :: _ :: _ :: _, _ => rfl
theorem number_lead {d : UInt8} : number [48, d] = none := by
  have : (48 : UInt8).toNat = 48 := rfl
  simp only [number]
  rw [if_neg]
  omega
theorem numV_none {s : List UInt8} (h : number s = none) : numV s = .tuple #[.int .i64 0, .bool false] := by rw [numV, h]
theorem numV_some {s : List UInt8} {n : Nat} (h : number s = some n) : numV s = .tuple #[.int .i64 n, .bool true] := by rw [numV, h]
theorem dg_cases (c : UInt8) : ((48 ≤ c.toNat ∧ c.toNat ≤ 57) ∧ ¬ (c.toNat : Int) < 48 ∧ ¬ (57 : Int) < c.toNat) ∨ (¬ (48 ≤ c.toNat ∧ c.toNat ≤ 57) ∧ ((c.toNat : Int) < 48 ∨ (¬ (c.toNat : Int) < 48 ∧ (57 : Int) < c.toNat))) := by omega
set_option maxHeartbeats 1000000 in
theorem rnumber_any (s : ByteArray) (hs : s.size ≤ 1000000000) (w : World) :
    Calls Tryz.prog 178 #[.string s] w fun e w' => e = .returned (numV (tl s)) ∧ w = w' := by
  by_cases h0 : (s.size : Int) < 1
  · have HN := Lib.hid (numV_none (number_no (l := tl s) (.inl (by rw [tl_len]; omega))))
    go_enter Tryz.func178, Tryz.ntmps178
    go_wp2_with (fail)
    go_ret2
    exact ⟨ret_val HN.out, rfl⟩
  · by_cases h2 : (2 : Int) < (s.size : Int)
    · have HN := Lib.hid (numV_none (number_no (l := tl s) (.inr (by rw [tl_len]; omega))))
      go_enter Tryz.func178, Tryz.ntmps178
      go_wp2_with (fail)
      go_ret2
      exact ⟨ret_val HN.out, rfl⟩
    · have hp : 0 < s.size := by omega
      have main : ((s.size : Int) == 2) = false ∨ (((s.size : Int) == 2) = true ∧ ((s[0].toNat : Int) == 48) = false) → Calls Tryz.prog 178 #[.string s] w fun e w' => e = .returned (numV (tl s)) ∧ w = w' := by
        intro hc
        have NP := Lib.hid (number_pnum (l := tl s) (by rw [tl_len]; omega) (by rw [tl_len]; omega) (fun h e => by
          rw [tl_len] at h
          rcases hc with hc | ⟨_, hc⟩
          · simp [h] at hc
          · have : (tl s).getD 0 0 = s[0] := by rw [List.getD_eq_getElem?_getD, tl_get hp]; rfl
            rw [← this, e] at hc
            exact absurd hc (by decide)))
        have NX : Hid (∀ k (hk : k < s.size), pnum ((tl s).take (k + 1)) = (pnum ((tl s).take k)).bind fun n => if 48 ≤ (s[k]'hk).toNat ∧ (s[k]'hk).toNat ≤ 57 then some (10 * n + ((s[k]'hk).toNat - 48)) else none) := Lib.hid (fun k hk => pnum_next hk)
        have ST : Hid (∀ k (hk : k < s.size), pnum ((tl s).take (k + 1)) = none → pnum (tl s) = none) := Lib.hid (fun k hk h => pnum_stop hk h)
        rcases hc with hc | ⟨hc, hc2⟩
        all_goals
          go_enter Tryz.func178, Tryz.ntmps178
          go_wp2_with (fail)
          go_loop [4, 5] (fun v i => ∃ n k : Nat, v = .int .i64 n ∧ i = .int .i64 k ∧ k ≤ s.size ∧ n < 10 ^ k ∧ pnum ((tl s).take k) = some n) (fun _ i => s.size - (intOf i).toNat)
          case atStart => exact ⟨0, 0, rfl, rfl, by omega, by decide, rfl⟩
          case round =>
            obtain ⟨n, k, rfl, rfl, hk, hn, hp2⟩ := hrel
            have HP := Lib.hid hp2
            clear hp2
            by_cases hlt : k < s.size
            · have hkI : (k : Int) < (s.size : Int) := by omega
              have N1 := Lib.hid (NX.out k hlt)
              have hn2 : n ≤ 40 := by
                have : k = 0 ∨ k = 1 := by omega
                rcases this with rfl | rfl <;> omega
              rcases dg_cases (s[k]'hlt) with ⟨hb, g1, g2⟩ | ⟨hb, g⟩
              · have HB := Lib.hid hb
                have hn3 : 10 * n + ((s[k]'hlt).toNat - 48) < 10 ^ (k + 1) := by rw [Nat.pow_succ]; omega
                have HN3 := Lib.hid hn3
                clear hb hn hn3
                go_wp2_with (fail)
                go_round
                case rel => exact ⟨10 * n + ((s[k]'hlt).toNat - 48), k + 1, by have := HB.out.1; congr 1; omega, by go_num, by omega, HN3.out, by rw [N1.out, HP.out, Option.bind_some, if_pos HB.out]⟩
                case measure => simp [intOf]; omega
              · have F := Lib.hid (numV_none (by rw [NP.out]; exact ST.out k hlt (by rw [N1.out, HP.out, Option.bind_some, if_neg hb])))
                clear hb
                rcases g with g1 | ⟨g1, g2⟩
                all_goals
                  go_wp2_with (fail)
                  go_ret2
                  exact ⟨ret_val F.out, rfl⟩
            · obtain rfl : k = s.size := by omega
              have F := Lib.hid (numV_some (by rw [NP.out, ← HP.out, take_all]))
              go_wp2_with (fail)
              go_ret2
              exact ⟨ret_val F.out, rfl⟩
      by_cases e2 : s.size = 2
      · have c2 : ((s.size : Int) == 2) = true := by simp [e2]
        by_cases e3 : s[0] = 48
        · have HN : Hid (numV (tl s) = .tuple #[.int .i64 0, .bool false]) := Lib.hid (numV_none (by
            have hl : (tl s).length = 2 := by rw [tl_len]; exact e2
            have h0 := tl_get hp
            rw [e3] at h0
            match hh : tl s with
            | [x, d] =>
              rw [hh] at h0
              have : x = 48 := by simpa using h0
              rw [this]; exact number_lead
            | [] => rw [hh] at hl; cases hl
            | [_] => rw [hh] at hl; cases hl
            | _ :: _ :: _ :: _ => rw [hh] at hl; simp at hl))
          have c3 : ((s[0].toNat : Int) == 48) = true := by rw [e3]; rfl
          clear e3 main
          go_enter Tryz.func178, Tryz.ntmps178
          go_wp2_with (fail)
          go_ret2
          exact ⟨ret_val HN.out, rfl⟩
        · exact main (.inr ⟨c2, by
            rw [beq_eq_false_iff_ne]
            intro h
            exact e3 (UInt8.toNat_inj.1 (by have : (48 : UInt8).toNat = 48 := rfl; omega))⟩)
      · exact main (.inl (by rw [beq_eq_false_iff_ne]; omega))
end Go.Proofs.YtdidnlkilleljaaGreatDoor.Lg
/- LgAll, what a claim needs of it (prune.py). -/
namespace Go.Proofs.YtdidnlkilleljaaGreatDoor.Lg
open Go.RowKit
set_option linter.unusedVariables false
set_option maxRecDepth 100000
def allP (l : List ByteArray) : Bool := l.all fun p => pathOk (tl p)
theorem pathE_ne (s : List UInt8) : (pathE s != 0) = !pathOk s := by
  rw [pathE]; cases pathOk s <;> rfl
theorem allP_bad {l : List ByteArray} {k : Nat} (hk : k < l.length) (h : pathOk (tl (l[k]'hk)) = false) : allP l = false := by
  cases e : allP l with
  | false => rfl
  | true =>
    have := List.all_eq_true.1 e _ (List.getElem_mem hk)
    rw [h] at this; cases this
theorem allP_ok {l : List ByteArray} (h : ∀ j (hj : j < l.length), j < l.length → pathOk (tl (l[j]'hj)) = true) : allP l = true := by
  refine List.all_eq_true.2 fun x hx => ?_
  obtain ⟨j, hj, rfl⟩ := List.mem_iff_getElem.1 hx
  exact h j hj hj
theorem allf_any (p : ByteArray) (w : World) (hs : p.size ≤ 1000000000) (hE : Env w) :
    Calls Tryz.prog 190 #[.string p] w fun e w' => e = .returned (.bool (!pathOk (tl p))) ∧ Below w.heap.size w w' := by
  obtain ⟨⟨m, hm⟩, _⟩ := hE
  have PP := Lib.hid (ppath_any p m w hs hm)
  have NE := Lib.hid (pathE_ne (tl p))
  clear hm
  go_enter Tryz.func190, Tryz.ntmps190
  go_wp2_with (go_at_call 47; ((with_reducible refine (PP.out).mono ?_); rintro e w1 ⟨rfl, hb⟩))
  go_ret
  exact ⟨ret_bool NE.out.symm, hb⟩
theorem indexf_any (A : Option Addr) (l : List ByteArray) (c : Nat) (w : World) (hE : Env w) (hr : Strs w A l) (hl : l.length ≤ 1000000000) (hs : ∀ p ∈ l, p.size ≤ 1000000000) :
    Calls Tryz.prog 133 #[.slice A l.length c, .func (.func 190) #[] #[]] w fun e w' => (∃ r : Int, e = .returned (.int .i64 r) ∧ decide (0 ≤ r) = !allP l) ∧ Below w.heap.size w w' := by
  have EV : Hid (∀ W, Below w.heap.size w W → Env W) := Lib.hid fun W hW => hE.below hW
  have RD : Hid (∀ W, Below w.heap.size w W → Strs W A l) := Lib.hid fun W hW => hr.below hW
  have SZ := Lib.hid hs
  clear hE hr hs
  go_enter Tryz.func133, Tryz.ntmps133
  go_wp2_with (fail)
  go_loopw [8] (fun i W => ∃ k : Nat, i = .int .i64 k ∧ k ≤ l.length ∧ (∀ j (hj : j < l.length), j < k → pathOk (tl l[j]) = true) ∧ Below w.heap.size w W) (fun i _ => l.length - (intOf i).toNat)
  case atStart => exact ⟨0, rfl, by omega, fun j _ h => by omega, Below.refl _ _⟩
  case round =>
    obtain ⟨k, rfl, hk, ha, hb⟩ := hrel
    have HA := Lib.hid ha
    clear ha
    by_cases hlt : k < l.length
    · have hkI : (k : Int) < (l.length : Int) := by omega
      obtain ⟨ad, rfl, _, hc⟩ := (RD.out _ hb).at_ hlt
      have AF := Lib.hid (allf_any l[k] wr (SZ.out _ (List.getElem_mem hlt)) (EV.out _ hb))
      have NXT := Lib.hid (upto_next (p := fun p => pathOk (tl p)) hlt HA.out)
      have BAD := Lib.hid (allP_bad (l := l) hlt)
      generalize l[k] = p at *
      cases hp : pathOk (tl p)
      · rw [hp] at AF
        have F := Lib.hid (BAD.out hp)
        clear hp BAD
        go_wp2_with (go_at_call 190; ((with_reducible refine (AF.out).mono ?_); rintro e w1 ⟨rfl, hb1⟩))
        go_ret
        exact ⟨⟨k, rfl, by rw [F.out]; simp⟩, hb.trans (hb1.mono hb.size)⟩
      · rw [hp] at AF
        have F := Lib.hid (NXT.out hp)
        clear hp BAD
        go_wp2_with (go_at_call 190; ((with_reducible refine (AF.out).mono ?_); rintro e w1 ⟨rfl, hb1⟩))
        go_roundw
        case rel => exact ⟨k + 1, by go_num, by omega, F.out, hb.trans (hb1.mono hb.size)⟩
        case measure => simp [intOf]; omega
    · obtain rfl : k = l.length := by omega
      have F := Lib.hid (allP_ok (l := l) (fun j hj h => HA.out j hj h))
      go_wp2_with (fail)
      go_ret
      exact ⟨⟨-1, rfl, by rw [F.out]; rfl⟩, hb⟩
theorem containsf_any (A : Option Addr) (l : List ByteArray) (c : Nat) (w : World) (hE : Env w) (hr : Strs w A l) (hl : l.length ≤ 1000000000) (hs : ∀ p ∈ l, p.size ≤ 1000000000) :
    Calls Tryz.prog 75 #[.slice A l.length c, .func (.func 190) #[] #[]] w fun e w' => e = .returned (.bool (!allP l)) ∧ Below w.heap.size w w' := by
  have IX := Lib.hid (indexf_any A l c w hE hr hl hs)
  clear hE hr hs
  go_enter Tryz.func75, Tryz.ntmps75
  go_wp2_with (go_at_call 133; ((with_reducible refine (IX.out).mono ?_); rintro e w1 ⟨⟨r, rfl, hd⟩, hb⟩; have HD := Lib.hid hd; clear hd))
  go_ret
  exact ⟨ret_bool HD.out.symm, hb⟩
theorem lall_any (A : Option Addr) (l : List ByteArray) (c a b : Nat) (w : World) (hE : Env w) (hr : Strs w A l) (hl : l.length ≤ 1000000000) (hs : ∀ p ∈ l, p.size ≤ 1000000000) (ha : a ≤ 100) (hb : b ≤ 100) :
    Calls Tryz.prog 142 #[.slice A l.length c, .int .i64 a, .int .i64 b] w fun e w' => e = .returned (.bool (decide (a ≤ l.length) && decide (l.length ≤ b) && allP l)) ∧ Below w.heap.size w w' := by
  have CT := Lib.hid (containsf_any A l c w hE hr hl hs)
  clear hE hr hs
  by_cases h1 : a ≤ l.length
  · have e1 : (a : Int) ≤ (l.length : Int) := by omega
    by_cases h2 : l.length ≤ b
    · have e2 : (l.length : Int) ≤ (b : Int) := by omega
      have F : Hid ((decide (a ≤ l.length) && decide (l.length ≤ b) && allP l) = allP l) := Lib.hid (by rw [decide_eq_true h1, decide_eq_true h2]; rfl)
      generalize allP l = q at *
      clear h1 h2
      go_enter Tryz.func142, Tryz.ntmps142
      go_wp2_with (go_at_call 75; ((with_reducible refine (CT.out).mono ?_); rintro e w1 ⟨rfl, hb1⟩))
      go_ret
      exact ⟨ret_bool (by rw [F.out]; try (cases q <;> rfl)), hb1⟩
    · have e2 : ¬ (l.length : Int) ≤ (b : Int) := by omega
      have F : Hid ((decide (a ≤ l.length) && decide (l.length ≤ b) && allP l) = false) := Lib.hid (by rw [decide_eq_false h2]; simp)
      clear h1 h2
      go_enter Tryz.func142, Tryz.ntmps142
      go_wp2_with (fail)
      go_ret
      exact ⟨ret_bool F.out, Below.refl _ _⟩
  · have e1 : ¬ (a : Int) ≤ (l.length : Int) := by omega
    have F : Hid ((decide (a ≤ l.length) && decide (l.length ≤ b) && allP l) = false) := Lib.hid (by rw [decide_eq_false h1]; rfl)
    clear h1
    go_enter Tryz.func142, Tryz.ntmps142
    go_wp2_with (fail)
    go_ret
    exact ⟨ret_bool F.out, Below.refl _ _⟩
theorem rpaths_any (A : Option Addr) (l : List ByteArray) (c : Nat) (w : World) (hr : Strs w A l) (hl : l.length ≤ 1000000000) (hs : ∀ p ∈ l, p.size ≤ 1000000000) :
    Calls Tryz.prog 175 #[.slice A l.length c] w fun e w' => e = .returned (.bool (allP l)) ∧ w = w' := by
  have SZ := Lib.hid hs
  clear hs
  go_enter Tryz.func175, Tryz.ntmps175
  go_wp2_with (fail)
  go_loop [3] (fun i => ∃ k : Nat, i = .int .i64 k ∧ k ≤ l.length ∧ ∀ j (hj : j < l.length), j < k → pathOk (tl l[j]) = true) (fun i => l.length - (intOf i).toNat)
  case atStart => exact ⟨0, rfl, by omega, fun j _ h => by omega⟩
  case round =>
    obtain ⟨k, rfl, hk, ha⟩ := hrel
    have HA := Lib.hid ha
    clear ha
    by_cases hlt : k < l.length
    · have hkI : (k : Int) < (l.length : Int) := by omega
      obtain ⟨ad, rfl, _, hc⟩ := hr.at_ hlt
      have PP := Lib.hid (rpath_any l[k] (SZ.out _ (List.getElem_mem hlt)) w)
      have NXT := Lib.hid (upto_next (p := fun p => pathOk (tl p)) hlt HA.out)
      have BAD := Lib.hid (allP_bad (l := l) hlt)
      clear hr
      generalize l[k] = p at *
      have NE := pathE_ne (tl p)
      cases hp : pathOk (tl p)
      · have F := Lib.hid (BAD.out hp)
        rw [hp] at NE
        have NE : (pathE (tl p) != 0) = true := NE
        generalize pathE (tl p) = z at *
        clear hp BAD
        go_wp2_with (go_at_call 71; ((with_reducible refine (PP.out).mono ?_); rintro e w1 ⟨rfl, rfl⟩))
        go_ret
        exact ⟨ret_bool F.out, rfl⟩
      · have F := Lib.hid (NXT.out hp)
        rw [hp] at NE
        have NE : (pathE (tl p) != 0) = false := NE
        generalize pathE (tl p) = z at *
        clear hp BAD
        go_wp2_with (go_at_call 71; ((with_reducible refine (PP.out).mono ?_); rintro e w1 ⟨rfl, rfl⟩))
        go_round
        case rel => exact ⟨k + 1, by go_num, by omega, F.out⟩
        case measure => simp [intOf]; omega
    · obtain rfl : k = l.length := by omega
      have F := Lib.hid (allP_ok (l := l) (fun j hj h => HA.out j hj h))
      go_wp2_with (fail)
      go_ret
      exact ⟨ret_bool F.out, rfl⟩
end Go.Proofs.YtdidnlkilleljaaGreatDoor.Lg
