/- The contracts of lang.all (are the words paths, so many) and of the reference's paths. -/
import Derived.Test.YtoofflnaebkigaaDoorLgNum
import Derived.Test.YtoofflnaebkigaaDoorLgPath
namespace Go.Proofs.YtoofflnaebkigaaDoor.Lg
open Go.RowKit
set_option linter.unusedVariables false
set_option maxRecDepth 100000
def allP (l : List ByteArray) : Bool := l.all fun p => pathOk (tl p)
theorem pathE_ne (s : List UInt8) : (pathE s != 0) = !pathOk s := by
  rw [pathE]; cases pathOk s <;> rfl
theorem allP_bad {l : List ByteArray} {k : Nat} (hk : k < l.length) (h : pathOk (tl (l[k]'hk)) = false) : allP l = false := by
  cases e : allP l with
  | false => rfl
  | true =>
    have := List.all_eq_true.1 e _ (List.getElem_mem hk)
    rw [h] at this; cases this
theorem allP_ok {l : List ByteArray} (h : ∀ j (hj : j < l.length), j < l.length → pathOk (tl (l[j]'hj)) = true) : allP l = true := by
  refine List.all_eq_true.2 fun x hx => ?_
  obtain ⟨j, hj, rfl⟩ := List.mem_iff_getElem.1 hx
  exact h j hj hj
theorem allf_any (p : ByteArray) (w : World) (hs : p.size ≤ 1000000000) (hE : Env w) :
    Calls Tryd.prog 65 #[.string p] w fun e w' => e = .returned (.bool (!pathOk (tl p))) ∧ Below w.heap.size w w' := by
  obtain ⟨⟨m, hm⟩, _⟩ := hE
  have PP := Lib.hid (ppath_any p m w hs hm)
  have NE := Lib.hid (pathE_ne (tl p))
  clear hm
  go_enter Tryd.func65, Tryd.ntmps65
  go_wp2_with (go_at_call 38; ((with_reducible refine (PP.out).mono ?_); rintro e w1 ⟨rfl, hb⟩))
  go_ret
  exact ⟨ret_bool NE.out.symm, hb⟩
theorem indexf_any (A : Option Addr) (l : List ByteArray) (c : Nat) (w : World) (hE : Env w) (hr : Strs w A l) (hl : l.length ≤ 1000000000) (hs : ∀ p ∈ l, p.size ≤ 1000000000) :
    Calls Tryd.prog 48 #[.slice A l.length c, .func (.func 65) #[] #[]] w fun e w' => (∃ r : Int, e = .returned (.int .i64 r) ∧ decide (0 ≤ r) = !allP l) ∧ Below w.heap.size w w' := by
  have EV : Hid (∀ W, Below w.heap.size w W → Env W) := Lib.hid fun W hW => hE.below hW
  have RD : Hid (∀ W, Below w.heap.size w W → Strs W A l) := Lib.hid fun W hW => hr.below hW
  have SZ := Lib.hid hs
  clear hE hr hs
  go_enter Tryd.func48, Tryd.ntmps48
  go_wp2_with (fail)
  go_loopw [8] (fun i W => ∃ k : Nat, i = .int .i64 k ∧ k ≤ l.length ∧ (∀ j (hj : j < l.length), j < k → pathOk (tl l[j]) = true) ∧ Below w.heap.size w W) (fun i _ => l.length - (intOf i).toNat)
  case atStart => exact ⟨0, rfl, by omega, fun j _ h => by omega, Below.refl _ _⟩
  case round =>
    obtain ⟨k, rfl, hk, ha, hb⟩ := hrel
    have HA := Lib.hid ha
    clear ha
    by_cases hlt : k < l.length
    · have hkI : (k : Int) < (l.length : Int) := by omega
      obtain ⟨ad, rfl, _, hc⟩ := (RD.out _ hb).at_ hlt
      have AF := Lib.hid (allf_any l[k] wr (SZ.out _ (List.getElem_mem hlt)) (EV.out _ hb))
      have NXT := Lib.hid (upto_next (p := fun p => pathOk (tl p)) hlt HA.out)
      have BAD := Lib.hid (allP_bad (l := l) hlt)
      generalize l[k] = p at *
      cases hp : pathOk (tl p)
      · rw [hp] at AF
        have F := Lib.hid (BAD.out hp)
        clear hp BAD
        go_wp2_with (go_at_call 65; ((with_reducible refine (AF.out).mono ?_); rintro e w1 ⟨rfl, hb1⟩))
        go_ret
        exact ⟨⟨k, rfl, by rw [F.out]; simp⟩, hb.trans (hb1.mono hb.size)⟩
      · rw [hp] at AF
        have F := Lib.hid (NXT.out hp)
        clear hp BAD
        go_wp2_with (go_at_call 65; ((with_reducible refine (AF.out).mono ?_); rintro e w1 ⟨rfl, hb1⟩))
        go_roundw
        case rel => exact ⟨k + 1, by go_num, by omega, F.out, hb.trans (hb1.mono hb.size)⟩
        case measure => simp [intOf]; omega
    · obtain rfl : k = l.length := by omega
      have F := Lib.hid (allP_ok (l := l) (fun j hj h => HA.out j hj h))
      go_wp2_with (fail)
      go_ret
      exact ⟨⟨-1, rfl, by rw [F.out]; rfl⟩, hb⟩
theorem containsf_any (A : Option Addr) (l : List ByteArray) (c : Nat) (w : World) (hE : Env w) (hr : Strs w A l) (hl : l.length ≤ 1000000000) (hs : ∀ p ∈ l, p.size ≤ 1000000000) :
    Calls Tryd.prog 36 #[.slice A l.length c, .func (.func 65) #[] #[]] w fun e w' => e = .returned (.bool (!allP l)) ∧ Below w.heap.size w w' := by
  have IX := Lib.hid (indexf_any A l c w hE hr hl hs)
  clear hE hr hs
  go_enter Tryd.func36, Tryd.ntmps36
  go_wp2_with (go_at_call 48; ((with_reducible refine (IX.out).mono ?_); rintro e w1 ⟨⟨r, rfl, hd⟩, hb⟩; have HD := Lib.hid hd; clear hd))
  go_ret
  exact ⟨ret_bool HD.out.symm, hb⟩
theorem lall_any (A : Option Addr) (l : List ByteArray) (c a b : Nat) (w : World) (hE : Env w) (hr : Strs w A l) (hl : l.length ≤ 1000000000) (hs : ∀ p ∈ l, p.size ≤ 1000000000) (ha : a ≤ 100) (hb : b ≤ 100) :
    Calls Tryd.prog 56 #[.slice A l.length c, .int .i64 a, .int .i64 b] w fun e w' => e = .returned (.bool (decide (a ≤ l.length) && decide (l.length ≤ b) && allP l)) ∧ Below w.heap.size w w' := by
  have CT := Lib.hid (containsf_any A l c w hE hr hl hs)
  clear hE hr hs
  by_cases h1 : a ≤ l.length
  · have e1 : (a : Int) ≤ (l.length : Int) := by omega
    by_cases h2 : l.length ≤ b
    · have e2 : (l.length : Int) ≤ (b : Int) := by omega
      have F : Hid ((decide (a ≤ l.length) && decide (l.length ≤ b) && allP l) = allP l) := Lib.hid (by rw [decide_eq_true h1, decide_eq_true h2]; rfl)
      generalize allP l = q at *
      clear h1 h2
      go_enter Tryd.func56, Tryd.ntmps56
      go_wp2_with (go_at_call 36; ((with_reducible refine (CT.out).mono ?_); rintro e w1 ⟨rfl, hb1⟩))
      go_ret
      exact ⟨ret_bool (by rw [F.out]; try (cases q <;> rfl)), hb1⟩
    · have e2 : ¬ (l.length : Int) ≤ (b : Int) := by omega
      have F : Hid ((decide (a ≤ l.length) && decide (l.length ≤ b) && allP l) = false) := Lib.hid (by rw [decide_eq_false h2]; simp)
      clear h1 h2
      go_enter Tryd.func56, Tryd.ntmps56
      go_wp2_with (fail)
      go_ret
      exact ⟨ret_bool F.out, Below.refl _ _⟩
  · have e1 : ¬ (a : Int) ≤ (l.length : Int) := by omega
    have F : Hid ((decide (a ≤ l.length) && decide (l.length ≤ b) && allP l) = false) := Lib.hid (by rw [decide_eq_false h1]; rfl)
    clear h1
    go_enter Tryd.func56, Tryd.ntmps56
    go_wp2_with (fail)
    go_ret
    exact ⟨ret_bool F.out, Below.refl _ _⟩
theorem rpaths_any (A : Option Addr) (l : List ByteArray) (c : Nat) (w : World) (hr : Strs w A l) (hl : l.length ≤ 1000000000) (hs : ∀ p ∈ l, p.size ≤ 1000000000) :
    Calls Tryd.prog 49 #[.slice A l.length c] w fun e w' => e = .returned (.bool (allP l)) ∧ w = w' := by
  have SZ := Lib.hid hs
  clear hs
  go_enter Tryd.func49, Tryd.ntmps49
  go_wp2_with (fail)
  go_loop [3] (fun i => ∃ k : Nat, i = .int .i64 k ∧ k ≤ l.length ∧ ∀ j (hj : j < l.length), j < k → pathOk (tl l[j]) = true) (fun i => l.length - (intOf i).toNat)
  case atStart => exact ⟨0, rfl, by omega, fun j _ h => by omega⟩
  case round =>
    obtain ⟨k, rfl, hk, ha⟩ := hrel
    have HA := Lib.hid ha
    clear ha
    by_cases hlt : k < l.length
    · have hkI : (k : Int) < (l.length : Int) := by omega
      obtain ⟨ad, rfl, _, hc⟩ := hr.at_ hlt
      have PP := Lib.hid (rpath_any l[k] (SZ.out _ (List.getElem_mem hlt)) w)
      have NXT := Lib.hid (upto_next (p := fun p => pathOk (tl p)) hlt HA.out)
      have BAD := Lib.hid (allP_bad (l := l) hlt)
      clear hr
      generalize l[k] = p at *
      have NE := pathE_ne (tl p)
      cases hp : pathOk (tl p)
      · have F := Lib.hid (BAD.out hp)
        rw [hp] at NE
        have NE : (pathE (tl p) != 0) = true := NE
        generalize pathE (tl p) = z at *
        clear hp BAD
        go_wp2_with (go_at_call 27; ((with_reducible refine (PP.out).mono ?_); rintro e w1 ⟨rfl, rfl⟩))
        go_ret
        exact ⟨ret_bool F.out, rfl⟩
      · have F := Lib.hid (NXT.out hp)
        rw [hp] at NE
        have NE : (pathE (tl p) != 0) = false := NE
        generalize pathE (tl p) = z at *
        clear hp BAD
        go_wp2_with (go_at_call 27; ((with_reducible refine (PP.out).mono ?_); rintro e w1 ⟨rfl, rfl⟩))
        go_round
        case rel => exact ⟨k + 1, by go_num, by omega, F.out⟩
        case measure => simp [intOf]; omega
    · obtain rfl : k = l.length := by omega
      have F := Lib.hid (allP_ok (l := l) (fun j hj h => HA.out j hj h))
      go_wp2_with (fail)
      go_ret
      exact ⟨ret_bool F.out, rfl⟩
end Go.Proofs.YtoofflnaebkigaaDoor.Lg
