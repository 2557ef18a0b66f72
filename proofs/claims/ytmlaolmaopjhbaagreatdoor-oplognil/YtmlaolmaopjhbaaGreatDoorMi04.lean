/- Joined by mkmerged.py: LgText, LgName, LgNum, LgMix, LgLaw, LgMach. -/
import Derived.Test.YtmlaolmaopjhbaaGreatDoorMi01
import Derived.Test.YtmlaolmaopjhbaaGreatDoorMi03
import Derived.Lib.AtoiTie
import Derived.Lib.AtoiAllCases
import Derived.Lib.AppendIntMem
import Derived.Test.YtmlaolmaopjhbaaGreatDoorMiKm
/- LgText, what a claim needs of it (prune.py). -/
namespace Go.Proofs.YtmlaolmaopjhbaaGreatDoor.Lg
open Go.RowKit
set_option linter.unusedVariables false
set_option maxRecDepth 100000
def okTo (s : ByteArray) (k : Nat) : Bool := decide (1 ≤ s.size) && decide (s.size ≤ 32) && ((tl s).take k).all printable
theorem okTo_zero (s : ByteArray) : okTo s 0 = (decide (1 ≤ s.size) && decide (s.size ≤ 32)) := by simp [okTo]
theorem okTo_next {s : ByteArray} {k : Nat} (hk : k < s.size) : okTo s (k + 1) = (okTo s k && printable (s[k]'hk)) := by simp [okTo, all_next hk, Bool.and_assoc]
theorem okTo_end (s : ByteArray) : okTo s s.size = textOk (tl s) := by simp only [okTo, textOk, take_all, tl_len]
set_option maxHeartbeats 1000000 in
theorem text_any (s : ByteArray) (hs : s.size ≤ 1000000000) (w : World) :
    Calls Tryz.prog 304 #[.string s] w fun e w' => e = .returned (.bool (textOk (tl s))) ∧ w = w' := by
  have FIN := Lib.hid (okTo_end s)
  have NX : Hid (∀ k (hk : k < s.size), okTo s (k + 1) = (okTo s k && printable (s[k]'hk))) := Lib.hid (fun k hk => okTo_next hk)
  by_cases h0 : s.size = 0
  · obtain rfl := empty_of h0
    have : textOk (tl ⟨#[]⟩) = false := rfl
    go_enter Tryz.func304, Tryz.ntmps304
    go_wp2_with (fail)
    go_loop [3, 14] (fun v i => v = .bool false ∧ i = .int .i64 0) (fun _ i => 0)
    case atStart => exact ⟨rfl, rfl⟩
    case round =>
      obtain ⟨rfl, rfl⟩ := hrel
      go_wp2_with (fail)
      go_ret
      exact ⟨ret_bool this, rfl⟩
  · have hne := some_ne h0
    have h1 : 0 < s.size := by omega
    have HZ := Lib.hid (okTo_zero s)
    by_cases h32 : s.size ≤ 32
    · have hle : (s.size : Int) ≤ 32 := by omega
      have Z1 : Hid (okTo s 0 = true) := Lib.hid (by rw [HZ.out]; simp; omega)
      clear h32
      go_enter Tryz.func304, Tryz.ntmps304
      go_wp2_with (fail)
      go_loop [3, 14] (fun v i => ∃ k : Nat, v = .bool (okTo s k) ∧ i = .int .i64 k ∧ k ≤ s.size) (fun _ i => s.size - (intOf i).toNat)
      case atStart => exact ⟨0, by rw [Z1.out], rfl, by omega⟩
      case round =>
        obtain ⟨k, rfl, rfl, hk⟩ := hrel
        by_cases hlt : k < s.size
        · have hkI : (k : Int) < (s.size : Int) := by omega
          have N1 := Lib.hid (NX.out k hlt)
          cases e : okTo s k
          · go_wp2_with (fail)
            go_round
            case rel => exact ⟨k + 1, by rw [N1.out, e]; rfl, by go_num, by omega⟩
            case measure => simp [intOf]; omega
          · by_cases c1 : 33 ≤ (s[k]'hlt).toNat
            · have c2 : (32 : Int) < ((s[k]'hlt).toNat : Int) := by omega
              by_cases c3 : (s[k]'hlt).toNat ≤ 126
              · have c4 : ((s[k]'hlt).toNat : Int) ≤ 126 := by omega
                go_wp2_with (fail)
                go_round
                case rel => exact ⟨k + 1, by rw [N1.out, e]; simp [printable, c1, c3], by go_num, by omega⟩
                case measure => simp [intOf]; omega
              · have c4 : ¬ ((s[k]'hlt).toNat : Int) ≤ 126 := by omega
                go_wp2_with (fail)
                go_round
                case rel => exact ⟨k + 1, by rw [N1.out, e]; simp [printable, c3], by go_num, by omega⟩
                case measure => simp [intOf]; omega
            · have c2 : ¬ (32 : Int) < ((s[k]'hlt).toNat : Int) := by omega
              go_wp2_with (fail)
              go_round
              case rel => exact ⟨k + 1, by rw [N1.out, e]; simp [printable, c1], by go_num, by omega⟩
              case measure => simp [intOf]; omega
        · obtain rfl : k = s.size := by omega
          go_wp2_with (fail)
          go_ret
          exact ⟨ret_bool FIN.out.symm, rfl⟩
    · have hle : ¬ (s.size : Int) ≤ 32 := by omega
      have Z1 : Hid (∀ k, okTo s k = false) := Lib.hid (fun k => by simp [okTo, h32])
      clear h32
      go_enter Tryz.func304, Tryz.ntmps304
      go_wp2_with (fail)
      go_loop [3, 14] (fun v i => ∃ k : Nat, v = .bool false ∧ i = .int .i64 k ∧ k ≤ s.size) (fun _ i => s.size - (intOf i).toNat)
      case atStart => exact ⟨0, rfl, rfl, by omega⟩
      case round =>
        obtain ⟨k, rfl, rfl, hk⟩ := hrel
        by_cases hlt : k < s.size
        · have hkI : (k : Int) < (s.size : Int) := by omega
          go_wp2_with (fail)
          go_round
          case rel => exact ⟨k + 1, rfl, by go_num, by omega⟩
          case measure => simp [intOf]; omega
        · obtain rfl : k = s.size := by omega
          go_wp2_with (fail)
          go_ret
          exact ⟨ret_bool (by rw [← FIN.out, Z1.out]), rfl⟩
end Go.Proofs.YtmlaolmaopjhbaaGreatDoor.Lg
/- LgName, what a claim needs of it (prune.py). -/
namespace Go.Proofs.YtmlaolmaopjhbaaGreatDoor.Lg
open Go.RowKit
set_option linter.unusedVariables false
set_option maxRecDepth 100000
theorem nb_cases (c : UInt8) :
    (nameByte c = true ∧ ((((c.toNat : Int) != 45) = false) ∨ (((c.toNat : Int) != 45) = true ∧ ((c.toNat : Int) != 95) = false) ∨ (((c.toNat : Int) != 45) = true ∧ ((c.toNat : Int) != 95) = true ∧ ¬ (c.toNat : Int) < 48 ∧ ¬ (57 : Int) < c.toNat)
      ∨ (((c.toNat : Int) != 45) = true ∧ ((c.toNat : Int) != 95) = true ∧ ¬ (c.toNat : Int) < 48 ∧ (57 : Int) < c.toNat ∧ ¬ (c.toNat : Int) < 97 ∧ ¬ (122 : Int) < c.toNat))) ∨
    (nameByte c = false ∧ ((((c.toNat : Int) != 45) = true ∧ ((c.toNat : Int) != 95) = true ∧ (c.toNat : Int) < 48 ∧ (c.toNat : Int) < 97)
      ∨ (((c.toNat : Int) != 45) = true ∧ ((c.toNat : Int) != 95) = true ∧ ¬ (c.toNat : Int) < 48 ∧ (57 : Int) < c.toNat ∧ (c.toNat : Int) < 97)
      ∨ (((c.toNat : Int) != 45) = true ∧ ((c.toNat : Int) != 95) = true ∧ ¬ (c.toNat : Int) < 48 ∧ (57 : Int) < c.toNat ∧ ¬ (c.toNat : Int) < 97 ∧ (122 : Int) < c.toNat))) := by
  have h45 : (c == 45) = decide (c.toNat = 45) := by rw [Bool.eq_iff_iff]; simp [← UInt8.toNat_inj]
  have h95 : (c == 95) = decide (c.toNat = 95) := by rw [Bool.eq_iff_iff]; simp [← UInt8.toNat_inj]
  unfold nameByte
  rw [h45, h95]
  generalize c.toNat = n
  simp only [Bool.or_eq_true, Bool.and_eq_true, decide_eq_true_eq, Bool.or_eq_false_iff, Bool.and_eq_false_iff, decide_eq_false_iff_not, bne_iff_ne, bne_eq_false_iff_eq]
  omega
def nameE (s : List UInt8) : Int := if nameOk s = true then 0 else 14
theorem nameE_no {s : ByteArray} (h : s.size < 1 ∨ 16 < s.size) : nameE (tl s) = 14 := by
  have : nameOk (tl s) = false := by
    have e : (decide (1 ≤ s.size) && decide (s.size ≤ 16)) = false := by
      simp only [Bool.and_eq_false_iff, decide_eq_false_iff_not]; omega
    unfold nameOk
    rw [tl_len, e]; rfl
  rw [nameE, this]; rfl
theorem nameE_bad {s : ByteArray} {k : Nat} (hk : k < s.size) (h : nameByte (s[k]'hk) = false) : nameE (tl s) = 14 := by
  have : nameOk (tl s) = false := by
    cases e : nameOk (tl s) with
    | false => rfl
    | true =>
      simp only [nameOk, Bool.and_eq_true, List.all_eq_true] at e
      have := e.2 (s[k]'hk) (List.mem_of_getElem? (tl_get hk))
      rw [h] at this; cases this
  rw [nameE, this]; rfl
theorem nameE_ok {s : ByteArray} (h1 : 1 ≤ s.size) (h2 : s.size ≤ 16) (h : ((tl s).take s.size).all nameByte = true) : nameE (tl s) = 0 := by
  rw [take_all] at h
  have : nameOk (tl s) = true := by
    rw [nameOk, h, tl_len]; simp; omega
  rw [nameE, this]; rfl
theorem pname_any (s : ByteArray) (hs : s.size ≤ 1000000000) (w : World) :
    Calls Tryz.prog 187 #[.string s] w fun e w' => e = .returned (.int .i64 (nameE (tl s))) ∧ w = w' := by
  by_cases h0 : s.size = 0
  · have HN := Lib.hid (nameE_no (s := s) (.inl (by omega)))
    obtain rfl := empty_of h0
    go_enter Tryz.func187, Tryz.ntmps187
    go_wp2_with (fail)
    go_ret
    exact ⟨ret_int HN.out, rfl⟩
  · have hne := some_ne h0
    by_cases h16 : (16 : Int) < (s.size : Int)
    · have HN := Lib.hid (nameE_no (s := s) (.inr (by omega)))
      go_enter Tryz.func187, Tryz.ntmps187
      go_wp2_with (fail)
      go_ret
      exact ⟨ret_int HN.out, rfl⟩
    · have OK := Lib.hid (nameE_ok (s := s) (by omega) (by omega))
      have BAD : Hid (∀ k (hk : k < s.size), nameByte (s[k]'hk) = false → nameE (tl s) = 14) := Lib.hid (fun k hk h => nameE_bad hk h)
      have NX : Hid (∀ k (hk : k < s.size), ((tl s).take (k + 1)).all nameByte = (((tl s).take k).all nameByte && nameByte (s[k]'hk))) := Lib.hid (fun k hk => all_next hk)
      go_enter Tryz.func187, Tryz.ntmps187
      go_wp2_with (fail)
      go_loop [14] (fun i => ∃ k : Nat, i = .int .i64 k ∧ k ≤ s.size ∧ ((tl s).take k).all nameByte = true) (fun i => s.size - (intOf i).toNat)
      case atStart => exact ⟨0, rfl, by omega, by simp⟩
      case round =>
        obtain ⟨k, rfl, hk, ha⟩ := hrel
        have HA := Lib.hid ha
        clear ha
        by_cases hlt : k < s.size
        · have hkI : (k : Int) < (s.size : Int) := by omega
          have N1 := Lib.hid (NX.out k hlt)
          rcases nb_cases (s[k]'hlt) with ⟨hb, hc⟩ | ⟨hb, hc⟩
          · have HB := Lib.hid hb
            clear hb
            rcases hc with h1 | ⟨h1, h2⟩ | ⟨h1, h2, h3, h4⟩ | ⟨h1, h2, h3, h4, h5, h6⟩
            all_goals
              go_wp2_with (fail)
              go_round
              case rel => exact ⟨k + 1, by go_num, by omega, by rw [N1.out, HA.out, HB.out]; rfl⟩
              case measure => simp [intOf]; omega
          · have HB := Lib.hid (BAD.out k hlt hb)
            clear hb
            rcases hc with ⟨h1, h2, h3, h4⟩ | ⟨h1, h2, h3, h4, h5⟩ | ⟨h1, h2, h3, h4, h5, h6⟩
            all_goals
              go_wp2_with (fail)
              go_ret
              exact ⟨ret_int HB.out, rfl⟩
        · obtain rfl : k = s.size := by omega
          go_wp2_with (fail)
          go_ret
          exact ⟨ret_int (OK.out HA.out), rfl⟩
theorem textOk_no {s : ByteArray} (h : s.size < 1 ∨ 32 < s.size) : textOk (tl s) = false := by
  have e : (decide (1 ≤ s.size) && decide (s.size ≤ 32)) = false := by
    simp only [Bool.and_eq_false_iff, decide_eq_false_iff_not]; omega
  unfold textOk
  rw [tl_len, e]; rfl
theorem textOk_bad {s : ByteArray} {k : Nat} (hk : k < s.size) (h : printable (s[k]'hk) = false) : textOk (tl s) = false := by
  cases e : textOk (tl s) with
  | false => rfl
  | true =>
    simp only [textOk, Bool.and_eq_true, List.all_eq_true] at e
    have := e.2 (s[k]'hk) (List.mem_of_getElem? (tl_get hk))
    rw [h] at this; cases this
theorem textOk_ok {s : ByteArray} (h1 : 1 ≤ s.size) (h2 : s.size ≤ 32) (h : ((tl s).take s.size).all printable = true) : textOk (tl s) = true := by
  rw [take_all] at h
  rw [textOk, h, tl_len]; simp; omega
theorem rtext_any (s : ByteArray) (hs : s.size ≤ 1000000000) (w : World) :
    Calls Tryz.prog 271 #[.string s] w fun e w' => e = .returned (.bool (textOk (tl s))) ∧ w = w' := by
  by_cases h0 : (s.size : Int) < 1
  · have HN := Lib.hid (textOk_no (s := s) (.inl (by omega)))
    go_enter Tryz.func271, Tryz.ntmps271
    go_wp2_with (fail)
    go_ret
    exact ⟨ret_bool HN.out, rfl⟩
  · by_cases h16 : (32 : Int) < (s.size : Int)
    · have HN := Lib.hid (textOk_no (s := s) (.inr (by omega)))
      go_enter Tryz.func271, Tryz.ntmps271
      go_wp2_with (fail)
      go_ret
      exact ⟨ret_bool HN.out, rfl⟩
    · have OK := Lib.hid (textOk_ok (s := s) (by omega) (by omega))
      have BAD : Hid (∀ k (hk : k < s.size), printable (s[k]'hk) = false → textOk (tl s) = false) := Lib.hid (fun k hk h => textOk_bad hk h)
      have NX : Hid (∀ k (hk : k < s.size), ((tl s).take (k + 1)).all printable = (((tl s).take k).all printable && printable (s[k]'hk))) := Lib.hid (fun k hk => all_next hk)
      go_enter Tryz.func271, Tryz.ntmps271
      go_wp2_with (fail)
      go_loop [3] (fun i => ∃ k : Nat, i = .int .i64 k ∧ k ≤ s.size ∧ ((tl s).take k).all printable = true) (fun i => s.size - (intOf i).toNat)
      case atStart => exact ⟨0, rfl, by omega, by simp⟩
      case round =>
        obtain ⟨k, rfl, hk, ha⟩ := hrel
        have HA := Lib.hid ha
        clear ha
        by_cases hlt : k < s.size
        · have hkI : (k : Int) < (s.size : Int) := by omega
          have N1 := Lib.hid (NX.out k hlt)
          rcases pr_cases (s[k]'hlt) with ⟨hb, h1, h2⟩ | ⟨hb, hc⟩
          · have HB := Lib.hid hb
            clear hb
            go_wp2_with (fail)
            go_round
            case rel => exact ⟨k + 1, by go_num, by omega, by rw [N1.out, HA.out, HB.out]; rfl⟩
            case measure => simp [intOf]; omega
          · have HB := Lib.hid (BAD.out k hlt hb)
            clear hb
            rcases hc with h1 | ⟨h1, h2⟩
            all_goals
              go_wp2_with (fail)
              go_ret
              exact ⟨ret_bool HB.out, rfl⟩
        · obtain rfl : k = s.size := by omega
          go_wp2_with (fail)
          go_ret
          exact ⟨ret_bool (OK.out HA.out), rfl⟩
end Go.Proofs.YtmlaolmaopjhbaaGreatDoor.Lg
/- LgNum, what a claim needs of it (prune.py). -/
namespace Go.Proofs.YtmlaolmaopjhbaaGreatDoor.Lg
open Go.RowKit
set_option linter.unusedVariables false
set_option maxRecDepth 100000
def Env (w : World) : Prop :=
  (∃ m, w.cell? ⟨6, 0, none⟩ = some (.int .i64 m)) ∧ Lib.TabIs Tryz.prog w "internal/strconv.uint64pow10" .u64 Lib.pow10Tab ∧ Lib.TabIs Tryz.prog w "strings.asciiSpace" .u8 Lib.asciiSpaceTab ∧
  (∃ t p, w.cell? ⟨0, 0, none⟩ = some (.iface t p)) ∧ (∃ t p, w.cell? ⟨1, 0, none⟩ = some (.iface t p))
theorem cell_lt {w : World} {a : Addr} {v : Value} (h : w.cell? a = some v) : a.block < w.heap.size := by
  unfold World.cell? at h
  rcases Nat.lt_or_ge a.block w.heap.size with h1 | h1
  · exact h1
  · rw [Array.getElem?_eq_none h1] at h; cases h
theorem Env.below {w w' : World} (h : Env w) (hb : Below w.heap.size w w') : Env w' := by
  obtain ⟨⟨m, h1⟩, h2, h3, ⟨t, p, h4⟩, ⟨t', p', h5⟩⟩ := h
  exact ⟨⟨m, (hb.cell (cell_lt h1)).trans h1⟩, Lib.tabBelow_of_tabIs h2 w' hb, Lib.tabBelow_of_tabIs h3 w' hb, ⟨t, p, (hb.cell (cell_lt h4)).trans h4⟩, ⟨t', p', (hb.cell (cell_lt h5)).trans h5⟩⟩
theorem atoi_two {s : List UInt8} {n : Nat} (h : number s = some n) : Lib.atoiAll s = .ok (n : Int) := by
  have hd := number_some h
  match s, h with
  | [c], h =>
    simp only [number] at h
    split at h
    · next hc =>
      injection h with h
      subst h
      rw [Lib.atoiAll_short _ (by simp)]
      have n1 : (c == 45) = false := by simp; intro e; subst e; simp at hc
      have n2 : (c == 43) = false := by simp; intro e; subst e; simp at hc
      simp only [Lib.atoi, n1, n2, Lib.decNat, Lib.decFrom, Lib.digitVal, hc]
      simp [Lib.NumEnd.ofOption]
    · cases h
  | [c, d], h =>
    simp only [number] at h
    split at h
    · next hc =>
      injection h with h
      subst h
      rw [Lib.atoiAll_short _ (by simp)]
      have n1 : (c == 45) = false := by simp; intro e; subst e; simp at hc
      have n2 : (c == 43) = false := by simp; intro e; subst e; simp at hc
      have hc1 : 48 ≤ c.toNat ∧ c.toNat ≤ 57 := by omega
      simp only [Lib.atoi, n1, n2, Lib.decNat, Lib.decFrom, Lib.digitVal, hc.2.2, hc1]
      simp [Lib.NumEnd.ofOption]
      omega
    · cases h
def TimesSays (s : List UInt8) (e : Ending) : Prop := ∃ n : Int, e = .returned (.tuple #[.int .i64 n, .bool (number s).isSome]) ∧ ∀ k, number s = some k → n = k
set_option maxHeartbeats 1000000 in
theorem times_any (s : ByteArray) (hs : s.size ≤ 1000000000) (w : World) (hE : Env w) :
    Calls Tryz.prog 305 #[.string s] w fun e w' => TimesSays (tl s) e ∧ Below w.heap.size w w' := by
  cases hn : number (tl s) with
  | some n =>
    obtain ⟨h1, h2⟩ := number_some hn
    have AT := Lib.hid (Tryz.strconv_Atoi_ok s (by omega) n (atoi_two hn) w)
    have IT : Hid (∀ W, Calls Tryz.prog 153 #[.int .i64 n] W fun e w' => e = .returned (.string s) ∧ W = w') := Lib.hid (fun W => (Tryz.strconv_Itoa_small n h1 W).mono (fun e w' ⟨h3, h4⟩ => ⟨by rw [h3, h2], h4.symm⟩))
    have FIN : Hid (TimesSays (tl s) (.returned (.tuple #[.int .i64 n, .bool true]))) := Lib.hid ⟨n, by rw [hn]; rfl, fun k hk => by rw [hn] at hk; injection hk with hk; rw [hk]⟩
    have e1 : (0 : Int) ≤ (n : Int) := by omega
    have e2 : (n : Int) ≤ 99 := by omega
    have e3 : (s.toList == s.toList) = true := by simp
    clear hn h2
    go_enter Tryz.func305, Tryz.ntmps305
    go_wp2_with (go_at_call 213; ((with_reducible refine (AT.out).mono ?_); rintro e w1 ⟨rfl, hw1⟩))
    have B1 : Hid (Below w.heap.size w w1) := Lib.hid (by
      rcases hw1 with rfl | ⟨t, rfl⟩
      · exact Below.refl _ _
      · exact Lib.bytesWorld_below _ _ _)
    clear hw1
    go_wp2_with (go_at_call 153; ((with_reducible refine (IT.out _).mono ?_); rintro e w2 ⟨rfl, rfl⟩))
    go_ret2
    exact ⟨FIN.out, B1.out⟩
  | none =>
    have FIN : Hid (∀ n : Int, TimesSays (tl s) (.returned (.tuple #[.int .i64 n, .bool false]))) := Lib.hid fun n => ⟨n, by rw [hn]; rfl, fun k hk => by rw [hn] at hk; cases hk⟩
    have NO : Hid (∀ v : Int, 0 ≤ v → v ≤ 99 → (⟨(Lib.itoa v).toArray⟩ : ByteArray) ≠ s) := Lib.hid fun v h0 h1 e => by
      obtain ⟨n, rfl⟩ : ∃ n : Nat, v = n := ⟨v.toNat, by omega⟩
      rw [itoa_nat'] at e
      have h2 := number_dec (n := n) (by omega)
      rw [← e] at hn
      have h3 : tl (⟨(Lib.decDigits n).toArray⟩ : ByteArray) = Lib.decDigits n := rfl
      rw [h3, h2] at hn
      cases hn
    clear hn
    obtain ⟨_, hT, _, ⟨t1, p1, hS⟩, ⟨t2, p2, hR⟩⟩ := hE
    rcases ha : Lib.atoiAll (tl s) with v | _ | _
    · skip
      have hb := Lib.atoiAll_bounds ha
      have AT := Lib.hid (Tryz.strconv_Atoi_ok s (by omega) v ha w)
      have IT : Hid (∀ W, Below w.heap.size w W → Calls Tryz.prog 153 #[.int .i64 v] W fun e w' => e = .returned (.string ⟨(Lib.itoa v).toArray⟩) ∧ Below W.heap.size W w') := Lib.hid (fun W hW => (Tryz.strconv_Itoa v hb.1 hb.2 W (Lib.tabBelow_of_tabIs hT W hW)).mono (fun e w' ⟨h3, k, os, h4⟩ => ⟨h3, by rw [h4]; exact Lib.below_grow _ _ (Nat.le_refl _) _ _⟩))
      clear ha hT hS hR hb
      go_enter Tryz.func305, Tryz.ntmps305
      go_wp2_with (go_at_call 213; ((with_reducible refine (AT.out).mono ?_); rintro e w1 ⟨rfl, hw1⟩))
      have B1 : Hid (Below w.heap.size w w1) := Lib.hid (by
        rcases hw1 with rfl | ⟨t, rfl⟩
        · exact Below.refl _ _
        · exact Lib.bytesWorld_below _ _ _)
      clear hw1
      have I1 := Lib.hid (IT.out w1 B1.out)
      by_cases h0 : 0 ≤ v
      · by_cases h9 : v ≤ 99
        · have e1 := s_ne (NO.out v h0 h9)
          generalize (⟨(Lib.itoa v).toArray⟩ : ByteArray) = sv at *
          go_wp2_with (go_at_call 153; ((with_reducible refine (I1.out).mono ?_); rintro e w2 ⟨rfl, hw2⟩))
          go_ret2
          exact ⟨FIN.out _, B1.out.trans (hw2.mono B1.out.size)⟩
        · by_cases he : (⟨(Lib.itoa v).toArray⟩ : ByteArray) = s
          · have e3 : (s.toList == s.toList) = true := by simp
            rw [he] at I1
            clear he
            go_wp2_with (go_at_call 153; ((with_reducible refine (I1.out).mono ?_); rintro e w2 ⟨rfl, hw2⟩))
            go_ret2
            refine ⟨?_, B1.out.trans (hw2.mono B1.out.size)⟩
            show TimesSays (tl s) (.returned (.tuple #[.int .i64 v, .bool (decide (v ≤ 99))]))
            rw [decide_eq_false (by omega : ¬ v ≤ 99)]
            exact FIN.out _
          · have e1 := s_ne he
            clear he
            generalize (⟨(Lib.itoa v).toArray⟩ : ByteArray) = sv at *
            go_wp2_with (go_at_call 153; ((with_reducible refine (I1.out).mono ?_); rintro e w2 ⟨rfl, hw2⟩))
            go_ret2
            exact ⟨FIN.out _, B1.out.trans (hw2.mono B1.out.size)⟩
      · by_cases he : (⟨(Lib.itoa v).toArray⟩ : ByteArray) = s
        · have e3 : (s.toList == s.toList) = true := by simp
          rw [he] at I1
          clear he
          go_wp2_with (go_at_call 153; ((with_reducible refine (I1.out).mono ?_); rintro e w2 ⟨rfl, hw2⟩))
          go_ret2
          exact ⟨FIN.out _, B1.out.trans (hw2.mono B1.out.size)⟩
        · have e1 := s_ne he
          clear he
          generalize (⟨(Lib.itoa v).toArray⟩ : ByteArray) = sv at *
          go_wp2_with (go_at_call 153; ((with_reducible refine (I1.out).mono ?_); rintro e w2 ⟨rfl, hw2⟩))
          go_ret2
          exact ⟨FIN.out _, B1.out.trans (hw2.mono B1.out.size)⟩
    · skip
      have AT := Lib.hid (Tryz.strconv_Atoi_syntax s (by omega) ha _ w hS (.inr ⟨t1, p1, rfl⟩))
      clear ha hT hS hR
      go_enter Tryz.func305, Tryz.ntmps305
      go_wp2_with (go_at_call 213; ((with_reducible refine (AT.out).mono ?_); rintro e w1 ⟨N, rfl, _, _, hb⟩))
      go_ret2
      exact ⟨FIN.out _, hb⟩
    · skip
      have AT := Lib.hid (Tryz.strconv_Atoi_range s (by omega) ha _ w hR (.inr ⟨t2, p2, rfl⟩))
      clear ha hT hS hR
      go_enter Tryz.func305, Tryz.ntmps305
      go_wp2_with (go_at_call 213; ((with_reducible refine (AT.out).mono ?_); rintro e w1 ⟨N, rfl, _, _, hb⟩))
      go_ret2
      exact ⟨FIN.out _, hb⟩
end Go.Proofs.YtmlaolmaopjhbaaGreatDoor.Lg
/- LgMix, what a claim needs of it (prune.py). -/
namespace Go.Proofs.YtmlaolmaopjhbaaGreatDoor
open Go
set_option linter.unusedVariables false
section
variable {P : Program} {ops : Array Oper} {Q : Exit → Act → World → Prop} {C : World → Prop}
theorem yieldsIn_of {o : Oper} {v : Value} {a : Act} (h : Yields P ops o v a) : YieldsIn P ops C o v a := by
  rcases h with ⟨hw, h⟩ | h
  · refine .inl ⟨hw, fun w _ => ?_⟩
    unfold Oper.quietAt
    rw [h w]
    exact ⟨rfl, rfl⟩
  · exact .inr h
theorem yields_same {o : Oper} {v : Value} {a a' : Act} (hy : Yields P ops o v a) (he : execOp a'.eval o = execOp a.eval o)
    (hw : Region.wanted o (yielded ops a'.tmps) = Region.wanted o (yielded ops a.tmps)) : Yields P ops o v a' := by
  unfold Yields at *
  rw [he, hw]
  exact hy
theorem qOp_putY {j : Nat} {oi oj : Oper} {v : Value} (hj : ops[j]? = some oj) (hap : oi.apart ops oj = true)
    (hsi : ∀ cs b, oi.op ≠ .select cs b) (hsj : ∀ cs b, oj.op ≠ .select cs b) {K : Act → Prop} {a : Act}
    (hy : Yields P ops oi v a) (h : qOp P ops C j K (a.put oi.dst v)) :
    qOp P ops C j (fun a' => Yields P ops oi v a' ∧ K (a'.put oi.dst v)) a := by
  obtain ⟨h1, h2, h3⟩ := Oper.apart_spec hap
  have keep : ∀ (a : Act), Yields P ops oi v a → ∀ u, Yields P ops oi v (a.put oj.dst u) := fun a hy u =>
    yields_same hy (execOp_put oi hsi a oj.dst u h3) (wanted_put oi a oj.dst u h3)
  unfold qOp at *
  simp only [hj] at *
  rw [wanted_put oj a oi.dst v h1] at h
  split
  · rename_i hw
    simp only [hw, if_true] at h
    obtain ⟨u, hu, hn⟩ := h
    refine ⟨u, fun w hw' => ?_, keep a hy u, by rw [← Act.put_comm a v u h2]; exact hn⟩
    have := hu w hw'
    unfold Oper.quietAt at *
    rwa [execOp_put oj hsj a oi.dst v h1] at this
  · rename_i hw
    simp only [hw] at h
    exact ⟨keep a hy _, by rw [← Act.put_comm a v undef h2]; exact h⟩
theorem wpAnyM_firstY {n i : Nat} {oi : Oper} {v : Value} (hi : ops[i]? = some oi) (hsel : ∀ (j : Nat) (o : Oper) cs b, ops[j]? = some o → o.op ≠ .select cs b)
    (hQ : ∀ c a w, Q (.panic c) (a.put oi.dst v) w → Q (.panic c) a w) (hin : i ≠ n) :
    ∀ (f : Nat) (listed : Array Bool) (a : Act),
      (∀ j oj, ops[j]? = some oj → j ≠ i → listed.getD j true = false → (∀ e ∈ oj.after, Region.binds .any e = true → e.on ≠ i) → oi.apart ops oj = true) →
      i ∈ Region.ready .any ops listed → Yields P ops oi v a →
      wpAnyM P ops Q C n f (listed.setIfInBounds i true) (a.put oi.dst v) → wpAnyM P ops Q C n (f + 1) listed a := by
  intro f
  induction f with
  | zero => intro listed a _ _ _ H; exact H.elim
  | succ f ih =>
    intro listed a hfree hr hy H
    have hun := (mem_ready.1 hr).1
    refine ⟨fun h => (by rw [h] at hr; cases hr), fun j hj => ?_⟩
    obtain ⟨hjun, oj, hoj, hall⟩ := mem_ready.1 hj
    by_cases hji : j = i
    · subst hji
      rw [if_neg hin]
      exact (yieldsIn_of hy).qOp hi H
    have hnot : ∀ e ∈ oj.after, Region.binds .any e = true → e.on ≠ i := fun e he hb heq => by
      have h1 := hall e he hb
      rw [heq, getD_both hun] at h1
      cases h1
    have hap := hfree j oj hoj hji hjun hnot
    have hfree' : ∀ k ok, ops[k]? = some ok → k ≠ i → (listed.setIfInBounds j true).getD k true = false →
        (∀ e ∈ ok.after, Region.binds .any e = true → e.on ≠ i) → oi.apart ops ok = true := fun k ok hk hki hun hno => by
      refine hfree k ok hk hki ?_ hno
      by_cases hjk : j = k
      · subst hjk; exact hjun
      · rw [getD_set_ne true hjk] at hun; exact hun
    have h1 := H.2 j (ready_mono hj hji)
    by_cases hjn : j = n
    · subst hjn
      rw [if_pos rfl] at h1 ⊢
      intro w hw
      have h2 := wpOp_put hoj hap (fun cs b => hsel i oi cs b hi) (fun cs b => hsel j oj cs b hoj) hQ hy (h1 w hw)
      refine wpOp_mono (fun a' w' h3 => wpAny_first hi hsel hQ f _ a' w' hfree' (ready_mono hr (Ne.symm hji)) h3.1 ?_) h2
      rw [Array.setIfInBounds_comm _ _ hji]
      exact h3.2
    · rw [if_neg hjn] at h1 ⊢
      have h2 := qOp_putY hoj hap (fun cs b => hsel i oi cs b hi) (fun cs b => hsel j oj cs b hoj) hy h1
      refine qOp_mono (fun a' h3 => ih (listed.setIfInBounds j true) a' hfree' (ready_mono hr (Ne.symm hji)) h3.1 ?_) h2
      rw [Array.setIfInBounds_comm _ _ hji]
      exact h3.2
def wpQ2 (P : Program) (ops : Array Oper) (C : World → Prop) (m : Nat) (Lq : Act → Prop) : Nat → List Oper → Act → Prop
  | _, [], a => Lq a
  | k, o :: l, a => ∃ v, (if k < m then YieldsIn P ops C o v a else Yields P ops o v a) ∧ wpQ2 P ops C m Lq (k + 1) l (a.put o.dst v)
def wpLate (P : Program) (ops : Array Oper) (Lq : Act → Prop) : List Oper → Act → Prop
  | [], a => Lq a
  | o :: l, a => ∃ v, Yields P ops o v a ∧ wpLate P ops Lq l (a.put o.dst v)
theorem wpQ2_late {m : Nat} {Lq : Act → Prop} : ∀ (l : List Oper) (k : Nat) (a : Act), m ≤ k → wpLate P ops Lq l a → wpQ2 P ops C m Lq k l a
  | [], _, _, _, h => h
  | o :: l, k, a, hk, ⟨v, h1, h2⟩ => ⟨v, by rw [if_neg (by omega)]; exact h1, wpQ2_late l (k + 1) _ (by omega) h2⟩
theorem wpQ2_of {m : Nat} {Lq : Act → Prop} (l2 : List Oper) : ∀ (l1 : List Oper) (k : Nat) (a : Act), k + l1.length = m → (∀ j, j < l1.length → l1[j]? = ops[k + j]?) →
    wpQuiet P ops C (fun a1 => wpLate P ops Lq l2 a1) l1 a → wpQ2 P ops C m Lq k (l1 ++ l2) a
  | [], k, a, hk, _, h => wpQ2_late l2 k a (by simp at hk; omega) h
  | o :: l1, k, a, hk, hl, h => by
    have h0 : ops[k]? = some o := by simpa using (hl 0 (by simp)).symm
    simp only [List.length_cons] at hk
    have hst : qOp P ops C k (wpQuiet P ops C (fun a1 => wpLate P ops Lq l2 a1) l1) a := by unfold qOp; simp only [h0]; exact h
    obtain ⟨v, hy, hK⟩ := yieldsIn_of_qOp h0 hst
    exact ⟨v, by rw [if_pos (by omega)]; exact hy, wpQ2_of l2 l1 (k + 1) _ (by omega) (fun j hj => by have := hl (j + 1) (by simp; omega); simpa [Nat.add_assoc, Nat.add_comm 1 j] using this) hK⟩
def lateB (ops : Array Oper) (m n : Nat) : Bool :=
  Region.noSelect ops && decide (m ≤ n) && decide (n < ops.size) && ((List.range m).all fun i => ((ops[i]?).map mover).getD false || leads ops n n i) && Region.lexHead .any ops (ops.size - n) n 0 (Array.replicate ops.size false)
theorem wpAnyM_lexY {n m g : Nat} {Lq : Act → Prop} (hmn : m ≤ n) (hsel : Region.noSelect ops = true) (hh : ((List.range m).all fun i => ((ops[i]?).map mover).getD false || leads ops n n i) = true)
    (hQ : ∀ c a d v w, Q (.panic c) (a.put d v) w → Q (.panic c) a w) (w0 : World) (hw0 : C w0)
    (hend : ∀ listed a, Region.seqB .any ops (g + 1) n listed = true → Lq a → wpAnyM P ops Q C n (g + 1) listed a) :
    ∀ (l : List Oper) (k : Nat) (listed : Array Bool) (a : Act), Closed ops listed → (∀ j, j < l.length → l[j]? = ops[k + j]?) → k + l.length = n →
    Region.lexHead .any ops (g + 1) l.length k listed = true → wpQ2 P ops C m Lq k l a → wpAnyM P ops Q C n (l.length + (g + 1)) listed a
  | [], k, listed, a, _, _, hk, hB, h => by
    have : k = n := by simpa using hk
    subst this
    rw [show ([] : List Oper).length + (g + 1) = g + 1 by simp]
    exact hend listed a (by simpa [Region.lexHead] using hB) h
  | o :: l, k, listed, a, hcl, hl, hk, hB, h => by
    have h0 : ops[k]? = some o := by simpa using (hl 0 (by simp)).symm
    simp only [List.length_cons, Region.lexHead, Bool.and_eq_true] at hB
    obtain ⟨⟨hr, hf⟩, hB'⟩ := hB
    have hkn : k < n := by simp only [List.length_cons] at hk; omega
    have hr' : k ∈ Region.ready .any ops listed := by simpa using hr
    obtain ⟨v, hy, hK⟩ := h
    rw [show (o :: l).length + (g + 1) = (l.length + (g + 1)) + 1 by simp only [List.length_cons]; omega]
    have hrest := wpAnyM_lexY hmn hsel hh hQ w0 hw0 hend l (k + 1) (listed.setIfInBounds k true) (a.put o.dst v) (hcl.set hr') (fun j hj => by have := hl (j + 1) (by simp; omega); simpa [Nat.add_assoc, Nat.add_comm 1 j] using this) (by simp only [List.length_cons] at hk; omega) hB' hK
    by_cases hkm : k < m
    · rw [if_pos hkm] at hy
      have hk' : leads ops n n k = true ∨ mover o = true := by
        have := List.all_eq_true.1 hh k (List.mem_range.2 hkm)
        simpa [h0, or_comm] using this
      exact wpAnyM_first h0 (Region.noSelect_spec hsel) (fun c a w => hQ c a _ _ w) (by omega) w0 hw0 n hk' (l.length + (g + 1)) listed a hcl (Region.free_spec h0 hf) hr' hy hrest
    · rw [if_neg hkm] at hy
      exact wpAnyM_firstY h0 (Region.noSelect_spec hsel) (fun c a w => hQ c a _ _ w) (by omega) (l.length + (g + 1)) listed a (Region.free_spec h0 hf) hr' hy hrest
theorem wp_region_late {id : Nat} {a : Act} {w : World} {l : List Oper} (m n : Nat) (hm : P.follows .mixedOrders = true) (hB : lateB l.toArray m n = true)
    (hQ : ∀ c a d v w, Q (.panic c) (a.put d v) w → Q (.panic c) a w) (hC : C w.drew)
    (h : wpQuiet P l.toArray C (fun a1 => wpLate P l.toArray (fun a' => ∀ w', C w' → wpList P l.toArray Q (l.drop n) a' w') ((l.take n).drop m) a1) ((l.take n).take m) a) : (Code.region id l.toArray true).wp P Q a w := by
  simp only [lateB, Bool.and_eq_true, decide_eq_true_eq] at hB
  obtain ⟨⟨⟨⟨hsel, hmn⟩, hn⟩, hh⟩, hlex⟩ := hB
  have hn' : n < l.length := by simpa using hn
  have htl : (l.take n).length = n := by simp; omega
  obtain ⟨g, hg⟩ : ∃ g, l.toArray.size - n = g + 1 := ⟨l.toArray.size - n - 1, by simp at hn ⊢; omega⟩
  rw [hg] at hlex
  refine wp_region_any hm (wpAny_of_M (C := C) (n := n) _ _ _ _ hC ?_)
  have hq := wpQ2_of (P := P) (ops := l.toArray) (C := C) (m := m) ((l.take n).drop m) ((l.take n).take m) 0 a (by simp; omega) (fun j hj => by
    have hj' : j < m := by simp at hj; omega
    have hj2 : j < n := by omega
    simp [hj', hj2]) h
  rw [List.take_append_drop] at hq
  have H := wpAnyM_lexY (P := P) (Q := Q) (C := C) (g := g) hmn hsel hh hQ _ hC (fun listed a' hs hL => ?_) (l.take n) 0 _ a (fun j oj _ hl => (by rw [getD_replicate_false] at hl; cases hl)) (fun j hj => by
    have hj' : j < n := by rw [htl] at hj; exact hj
    simp [hj']) (by simpa using htl) (by rw [htl]; exact hlex) hq
  · rw [htl, show n + (g + 1) = l.toArray.size by omega] at H
    exact H
  · have hd : (l.drop n).length = g + 1 := by simp at hg ⊢; omega
    simp only [Region.seqB, Bool.and_eq_true, decide_eq_true_eq] at hs
    refine ⟨fun h0 => (by rw [hs.1] at h0; cases h0), fun i hi => ?_⟩
    rw [hs.1] at hi
    have hin : i = n := by simpa using hi
    subst hin
    rw [if_pos rfl]
    intro w1 hw1
    have hs' : Region.seqB .any l.toArray (l.drop i).length i listed = true := by
      rw [hd]; simp only [Region.seqB, Bool.and_eq_true, decide_eq_true_eq]; exact hs
    have := wpAny_of_seq (P := P) (md := .any) (Q' := Q) (l.drop i) i listed a' w1 (fun j => by simp [List.getElem?_drop]) hs' (hL w1 hw1)
    rw [hd] at this
    exact this.2 i (by rw [hs.1]; simp)
end
end Go.Proofs.YtmlaolmaopjhbaaGreatDoor
/- LgLaw, what a claim needs of it (prune.py). -/
namespace Go.Proofs.YtmlaolmaopjhbaaGreatDoor.Lg
set_option linter.unusedVariables false
theorem bk_err : ∀ (k deep : Nat) (out : List Stp) (lines : List B) (e : Nat), lines.length ≤ k → bk deep out lines = .err e → e ≠ 0
  | k, deep, out, [], e, hk, h => by
    rw [bk_nil] at h
    split at h <;> cases h
    omega
  | 0, deep, out, line :: rest, e, hk, h => absurd hk (by simp)
  | k + 1, deep, out, line :: rest, e, hk, h => by
    simp only [List.length_cons] at hk
    rw [bk_cons] at h
    split at h
    · split at h <;> cases h
      omega
    · split at h
      · cases h; omega
      · split at h
        · split at h
          · cases h; omega
          · split at h
            · next e2 => cases h; exact bk_err k _ _ rest _ (by omega) e2
            · next e2 =>
              have hle := bk_le e2
              exact bk_err k _ _ _ _ (by omega) h
        · exact bk_err k _ _ rest _ (by omega) h
def Res.pre (out : List Stp) : Res → Res
  | .ok o r => .ok (out ++ o) r
  | .err e => .err e
end Go.Proofs.YtmlaolmaopjhbaaGreatDoor.Lg
/- LgMach, what a claim needs of it (prune.py). -/
namespace Go.Proofs.YtmlaolmaopjhbaaGreatDoor.Lg
set_option linter.unusedVariables false
structure Frame where
  op : Int
  args : List B
  n : Int
  out : List Stp
def mach : List Frame → List Stp → List B → Res
  | fs, cur, [] => (match fs with
    | [] => .ok cur []
    | _ :: _ => .err 21)
  | fs, cur, line :: rest =>
    if line = endW then (match fs with
      | [] => .err 21
      | f :: fs => mach fs (f.out ++ [⟨f.op, f.args, f.n, cur⟩]) rest) else
    match stepOf line with
    | none => .err 20
    | some (op, args, n) =>
      if op = 9 ∨ op = 10 then
        if 4 ≤ fs.length then .err 22 else mach (⟨op, args, n, cur⟩ :: fs) [] rest
      else mach fs (cur ++ [⟨op, args, n, []⟩]) rest
def fin : List Frame → Res → Res
  | [], r => r
  | _ :: _, .err e => .err e
  | f :: fs, .ok inn rest => mach fs (f.out ++ [⟨f.op, f.args, f.n, inn⟩]) rest
end Go.Proofs.YtmlaolmaopjhbaaGreatDoor.Lg
