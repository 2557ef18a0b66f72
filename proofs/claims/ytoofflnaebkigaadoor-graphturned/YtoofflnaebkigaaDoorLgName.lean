/- The contracts of the two 'Name', and of the reference's 'text'. -/
import Derived.Test.YtoofflnaebkigaaDoorLgText
namespace Go.Proofs.YtoofflnaebkigaaDoor.Lg
open Go.RowKit
set_option linter.unusedVariables false
set_option maxRecDepth 100000
theorem nb_cases (c : UInt8) :
    (nameByte c = true ∧ ((((c.toNat : Int) != 45) = false) ∨ (((c.toNat : Int) != 45) = true ∧ ((c.toNat : Int) != 95) = false) ∨ (((c.toNat : Int) != 45) = true ∧ ((c.toNat : Int) != 95) = true ∧ ¬ (c.toNat : Int) < 48 ∧ ¬ (57 : Int) < c.toNat)
      ∨ (((c.toNat : Int) != 45) = true ∧ ((c.toNat : Int) != 95) = true ∧ ¬ (c.toNat : Int) < 48 ∧ (57 : Int) < c.toNat ∧ ¬ (c.toNat : Int) < 97 ∧ ¬ (122 : Int) < c.toNat))) ∨
    (nameByte c = false ∧ ((((c.toNat : Int) != 45) = true ∧ ((c.toNat : Int) != 95) = true ∧ (c.toNat : Int) < 48 ∧ (c.toNat : Int) < 97)
      ∨ (((c.toNat : Int) != 45) = true ∧ ((c.toNat : Int) != 95) = true ∧ ¬ (c.toNat : Int) < 48 ∧ (57 : Int) < c.toNat ∧ (c.toNat : Int) < 97)
      ∨ (((c.toNat : Int) != 45) = true ∧ ((c.toNat : Int) != 95) = true ∧ ¬ (c.toNat : Int) < 48 ∧ (57 : Int) < c.toNat ∧ ¬ (c.toNat : Int) < 97 ∧ (122 : Int) < c.toNat))) := by
  have h45 : (c == 45) = decide (c.toNat = 45) := by rw [Bool.eq_iff_iff]; simp [← UInt8.toNat_inj]
  have h95 : (c == 95) = decide (c.toNat = 95) := by rw [Bool.eq_iff_iff]; simp [← UInt8.toNat_inj]
  unfold nameByte
  rw [h45, h95]
  generalize c.toNat = n
  simp only [Bool.or_eq_true, Bool.and_eq_true, decide_eq_true_eq, Bool.or_eq_false_iff, Bool.and_eq_false_iff, decide_eq_false_iff_not, bne_iff_ne, bne_eq_false_iff_eq]
  omega
theorem nb_cases2 (c : UInt8) :
    (nameByte c = true ∧ (((97 : Int) ≤ c.toNat ∧ (c.toNat : Int) ≤ 122) ∨ (¬ (97 : Int) ≤ c.toNat ∧ (48 : Int) ≤ c.toNat ∧ (c.toNat : Int) ≤ 57) ∨ (¬ (97 : Int) ≤ c.toNat ∧ ¬ (48 : Int) ≤ c.toNat ∧ ((c.toNat : Int) == 45) = true)
      ∨ (¬ (97 : Int) ≤ c.toNat ∧ (48 : Int) ≤ c.toNat ∧ ¬ (c.toNat : Int) ≤ 57 ∧ ((c.toNat : Int) == 45) = false ∧ ((c.toNat : Int) == 95) = true))) ∨
    (nameByte c = false ∧ (((97 : Int) ≤ c.toNat ∧ ¬ (c.toNat : Int) ≤ 122 ∧ (48 : Int) ≤ c.toNat ∧ ¬ (c.toNat : Int) ≤ 57 ∧ ((c.toNat : Int) == 45) = false ∧ ((c.toNat : Int) == 95) = false)
      ∨ (¬ (97 : Int) ≤ c.toNat ∧ (48 : Int) ≤ c.toNat ∧ ¬ (c.toNat : Int) ≤ 57 ∧ ((c.toNat : Int) == 45) = false ∧ ((c.toNat : Int) == 95) = false)
      ∨ (¬ (97 : Int) ≤ c.toNat ∧ ¬ (48 : Int) ≤ c.toNat ∧ ((c.toNat : Int) == 45) = false ∧ ((c.toNat : Int) == 95) = false))) := by
  have h45 : (c == 45) = decide (c.toNat = 45) := by rw [Bool.eq_iff_iff]; simp [← UInt8.toNat_inj]
  have h95 : (c == 95) = decide (c.toNat = 95) := by rw [Bool.eq_iff_iff]; simp [← UInt8.toNat_inj]
  unfold nameByte
  rw [h45, h95]
  generalize c.toNat = n
  simp only [Bool.or_eq_true, Bool.and_eq_true, decide_eq_true_eq, Bool.or_eq_false_iff, Bool.and_eq_false_iff, decide_eq_false_iff_not, beq_iff_eq, beq_eq_false_iff_ne]
  omega
/-- the error's number of a name -/
def nameE (s : List UInt8) : Int := if nameOk s = true then 0 else 14
theorem nameE_no {s : ByteArray} (h : s.size < 1 ∨ 16 < s.size) : nameE (tl s) = 14 := by
  have : nameOk (tl s) = false := by
    have e : (decide (1 ≤ s.size) && decide (s.size ≤ 16)) = false := by
      simp only [Bool.and_eq_false_iff, decide_eq_false_iff_not]; omega
    unfold nameOk
    rw [tl_len, e]; rfl
  rw [nameE, this]; rfl
theorem nameE_bad {s : ByteArray} {k : Nat} (hk : k < s.size) (h : nameByte (s[k]'hk) = false) : nameE (tl s) = 14 := by
  have : nameOk (tl s) = false := by
    cases e : nameOk (tl s) with
    | false => rfl
    | true =>
      simp only [nameOk, Bool.and_eq_true, List.all_eq_true] at e
      have := e.2 (s[k]'hk) (List.mem_of_getElem? (tl_get hk))
      rw [h] at this; cases this
  rw [nameE, this]; rfl
theorem nameE_ok {s : ByteArray} (h1 : 1 ≤ s.size) (h2 : s.size ≤ 16) (h : ((tl s).take s.size).all nameByte = true) : nameE (tl s) = 0 := by
  rw [take_all] at h
  have : nameOk (tl s) = true := by
    rw [nameOk, h, tl_len]; simp; omega
  rw [nameE, this]; rfl
theorem pname_any (s : ByteArray) (hs : s.size ≤ 1000000000) (w : World) :
    Calls Tryd.prog 21 #[.string s] w fun e w' => e = .returned (.int .i64 (nameE (tl s))) ∧ w = w' := by
  by_cases h0 : s.size = 0
  · have HN := Lib.hid (nameE_no (s := s) (.inl (by omega)))
    obtain rfl := empty_of h0
    go_enter Tryd.func21, Tryd.ntmps21
    go_wp2_with (fail)
    go_ret
    exact ⟨ret_int HN.out, rfl⟩
  · have hne := some_ne h0
    by_cases h16 : (16 : Int) < (s.size : Int)
    · have HN := Lib.hid (nameE_no (s := s) (.inr (by omega)))
      go_enter Tryd.func21, Tryd.ntmps21
      go_wp2_with (fail)
      go_ret
      exact ⟨ret_int HN.out, rfl⟩
    · have OK := Lib.hid (nameE_ok (s := s) (by omega) (by omega))
      have BAD : Hid (∀ k (hk : k < s.size), nameByte (s[k]'hk) = false → nameE (tl s) = 14) := Lib.hid (fun k hk h => nameE_bad hk h)
      have NX : Hid (∀ k (hk : k < s.size), ((tl s).take (k + 1)).all nameByte = (((tl s).take k).all nameByte && nameByte (s[k]'hk))) := Lib.hid (fun k hk => all_next hk)
      go_enter Tryd.func21, Tryd.ntmps21
      go_wp2_with (fail)
      go_loop [14] (fun i => ∃ k : Nat, i = .int .i64 k ∧ k ≤ s.size ∧ ((tl s).take k).all nameByte = true) (fun i => s.size - (intOf i).toNat)
      case atStart => exact ⟨0, rfl, by omega, by simp⟩
      case round =>
        obtain ⟨k, rfl, hk, ha⟩ := hrel
        have HA := Lib.hid ha
        clear ha
        by_cases hlt : k < s.size
        · have hkI : (k : Int) < (s.size : Int) := by omega
          have N1 := Lib.hid (NX.out k hlt)
          rcases nb_cases (s[k]'hlt) with ⟨hb, hc⟩ | ⟨hb, hc⟩
          · have HB := Lib.hid hb
            clear hb
            rcases hc with h1 | ⟨h1, h2⟩ | ⟨h1, h2, h3, h4⟩ | ⟨h1, h2, h3, h4, h5, h6⟩
            all_goals
              go_wp2_with (fail)
              go_round
              case rel => exact ⟨k + 1, by go_num, by omega, by rw [N1.out, HA.out, HB.out]; rfl⟩
              case measure => simp [intOf]; omega
          · have HB := Lib.hid (BAD.out k hlt hb)
            clear hb
            rcases hc with ⟨h1, h2, h3, h4⟩ | ⟨h1, h2, h3, h4, h5⟩ | ⟨h1, h2, h3, h4, h5, h6⟩
            all_goals
              go_wp2_with (fail)
              go_ret
              exact ⟨ret_int HB.out, rfl⟩
        · obtain rfl : k = s.size := by omega
          go_wp2_with (fail)
          go_ret
          exact ⟨ret_int (OK.out HA.out), rfl⟩
theorem rname_any (s : ByteArray) (hs : s.size ≤ 1000000000) (w : World) :
    Calls Tryd.prog 24 #[.string s] w fun e w' => e = .returned (.int .i64 (nameE (tl s))) ∧ w = w' := by
  by_cases h0 : (s.size : Int) < 1
  · have HN := Lib.hid (nameE_no (s := s) (.inl (by omega)))
    go_enter Tryd.func24, Tryd.ntmps24
    go_wp2_with (fail)
    go_ret
    exact ⟨ret_int HN.out, rfl⟩
  · by_cases h16 : (16 : Int) < (s.size : Int)
    · have HN := Lib.hid (nameE_no (s := s) (.inr (by omega)))
      go_enter Tryd.func24, Tryd.ntmps24
      go_wp2_with (fail)
      go_ret
      exact ⟨ret_int HN.out, rfl⟩
    · have OK := Lib.hid (nameE_ok (s := s) (by omega) (by omega))
      have BAD : Hid (∀ k (hk : k < s.size), nameByte (s[k]'hk) = false → nameE (tl s) = 14) := Lib.hid (fun k hk h => nameE_bad hk h)
      have NX : Hid (∀ k (hk : k < s.size), ((tl s).take (k + 1)).all nameByte = (((tl s).take k).all nameByte && nameByte (s[k]'hk))) := Lib.hid (fun k hk => all_next hk)
      go_enter Tryd.func24, Tryd.ntmps24
      go_wp2_with (fail)
      go_loop [3] (fun i => ∃ k : Nat, i = .int .i64 k ∧ k ≤ s.size ∧ ((tl s).take k).all nameByte = true) (fun i => s.size - (intOf i).toNat)
      case atStart => exact ⟨0, rfl, by omega, by simp⟩
      case round =>
        obtain ⟨k, rfl, hk, ha⟩ := hrel
        have HA := Lib.hid ha
        clear ha
        by_cases hlt : k < s.size
        · have hkI : (k : Int) < (s.size : Int) := by omega
          have N1 := Lib.hid (NX.out k hlt)
          rcases nb_cases2 (s[k]'hlt) with ⟨hb, hc⟩ | ⟨hb, hc⟩
          · have HB := Lib.hid hb
            clear hb
            rcases hc with ⟨h1, h2⟩ | ⟨h1, h2, h3⟩ | ⟨h1, h2, h3⟩ | ⟨h1, h2, h3, h4, h5⟩
            all_goals
              go_wp2_with (fail)
              go_round
              case rel => exact ⟨k + 1, by go_num, by omega, by rw [N1.out, HA.out, HB.out]; rfl⟩
              case measure => simp [intOf]; omega
          · have HB := Lib.hid (BAD.out k hlt hb)
            clear hb
            rcases hc with ⟨h1, h2, h3, h4, h5, h6⟩ | ⟨h1, h2, h3, h4, h5⟩ | ⟨h1, h2, h3, h4⟩
            all_goals
              go_wp2_with (fail)
              go_ret
              exact ⟨ret_int HB.out, rfl⟩
        · obtain rfl : k = s.size := by omega
          go_wp2_with (fail)
          go_ret
          exact ⟨ret_int (OK.out HA.out), rfl⟩
theorem textOk_no {s : ByteArray} (h : s.size < 1 ∨ 32 < s.size) : textOk (tl s) = false := by
  have e : (decide (1 ≤ s.size) && decide (s.size ≤ 32)) = false := by
    simp only [Bool.and_eq_false_iff, decide_eq_false_iff_not]; omega
  unfold textOk
  rw [tl_len, e]; rfl
theorem textOk_bad {s : ByteArray} {k : Nat} (hk : k < s.size) (h : printable (s[k]'hk) = false) : textOk (tl s) = false := by
  cases e : textOk (tl s) with
  | false => rfl
  | true =>
    simp only [textOk, Bool.and_eq_true, List.all_eq_true] at e
    have := e.2 (s[k]'hk) (List.mem_of_getElem? (tl_get hk))
    rw [h] at this; cases this
theorem textOk_ok {s : ByteArray} (h1 : 1 ≤ s.size) (h2 : s.size ≤ 32) (h : ((tl s).take s.size).all printable = true) : textOk (tl s) = true := by
  rw [take_all] at h
  rw [textOk, h, tl_len]; simp; omega
theorem pr_cases (c : UInt8) : (printable c = true ∧ ¬ (c.toNat : Int) < 33 ∧ ¬ (126 : Int) < c.toNat) ∨ (printable c = false ∧ ((c.toNat : Int) < 33 ∨ (¬ (c.toNat : Int) < 33 ∧ (126 : Int) < c.toNat))) := by
  unfold printable
  generalize c.toNat = n
  simp only [Bool.and_eq_true, decide_eq_true_eq, Bool.and_eq_false_iff, decide_eq_false_iff_not]
  omega
theorem rtext_any (s : ByteArray) (hs : s.size ≤ 1000000000) (w : World) :
    Calls Tryd.prog 50 #[.string s] w fun e w' => e = .returned (.bool (textOk (tl s))) ∧ w = w' := by
  by_cases h0 : (s.size : Int) < 1
  · have HN := Lib.hid (textOk_no (s := s) (.inl (by omega)))
    go_enter Tryd.func50, Tryd.ntmps50
    go_wp2_with (fail)
    go_ret
    exact ⟨ret_bool HN.out, rfl⟩
  · by_cases h16 : (32 : Int) < (s.size : Int)
    · have HN := Lib.hid (textOk_no (s := s) (.inr (by omega)))
      go_enter Tryd.func50, Tryd.ntmps50
      go_wp2_with (fail)
      go_ret
      exact ⟨ret_bool HN.out, rfl⟩
    · have OK := Lib.hid (textOk_ok (s := s) (by omega) (by omega))
      have BAD : Hid (∀ k (hk : k < s.size), printable (s[k]'hk) = false → textOk (tl s) = false) := Lib.hid (fun k hk h => textOk_bad hk h)
      have NX : Hid (∀ k (hk : k < s.size), ((tl s).take (k + 1)).all printable = (((tl s).take k).all printable && printable (s[k]'hk))) := Lib.hid (fun k hk => all_next hk)
      go_enter Tryd.func50, Tryd.ntmps50
      go_wp2_with (fail)
      go_loop [3] (fun i => ∃ k : Nat, i = .int .i64 k ∧ k ≤ s.size ∧ ((tl s).take k).all printable = true) (fun i => s.size - (intOf i).toNat)
      case atStart => exact ⟨0, rfl, by omega, by simp⟩
      case round =>
        obtain ⟨k, rfl, hk, ha⟩ := hrel
        have HA := Lib.hid ha
        clear ha
        by_cases hlt : k < s.size
        · have hkI : (k : Int) < (s.size : Int) := by omega
          have N1 := Lib.hid (NX.out k hlt)
          rcases pr_cases (s[k]'hlt) with ⟨hb, h1, h2⟩ | ⟨hb, hc⟩
          · have HB := Lib.hid hb
            clear hb
            go_wp2_with (fail)
            go_round
            case rel => exact ⟨k + 1, by go_num, by omega, by rw [N1.out, HA.out, HB.out]; rfl⟩
            case measure => simp [intOf]; omega
          · have HB := Lib.hid (BAD.out k hlt hb)
            clear hb
            rcases hc with h1 | ⟨h1, h2⟩
            all_goals
              go_wp2_with (fail)
              go_ret
              exact ⟨ret_bool HB.out, rfl⟩
        · obtain rfl : k = s.size := by omega
          go_wp2_with (fail)
          go_ret
          exact ⟨ret_bool (OK.out HA.out), rfl⟩
end Go.Proofs.YtoofflnaebkigaaDoor.Lg
