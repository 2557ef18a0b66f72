/- Joined by mkmerged.py: FsRefP, FsRight. -/
import Derived.Test.YtdidnlkilleljaaGreatDoorMg23
import Derived.IntWalk
import Derived.Test.YtdidnlkilleljaaGreatDoorMgKm
import Derived.Test.YtdidnlkilleljaaGreatDoorMg04
import Derived.BigQuiet
import Derived.Lib.IndexAny
import Derived.Sort.Walk0
import Derived.Laws.Cover1
/- FsRefP, what a claim needs of it (prune.py). -/
namespace Go.Proofs.YtdidnlkilleljaaGreatDoor.Fs
open Go.RowKit
set_option linter.unusedVariables false
set_option maxRecDepth 100000
theorem pre_iff {p s : B} {c : UInt8} : (p ++ [c]) <+: s ↔ s.take p.length = p ∧ s[p.length]? = some c := by
  rw [List.prefix_iff_eq_take, List.length_append, List.length_singleton, List.take_add_one]
  constructor
  · intro h
    cases e : s[p.length]? with
    | none =>
      rw [e] at h
      have := congrArg List.length h
      simp at this; omega
    | some d =>
      rw [e] at h
      have := List.append_inj' h rfl
      simp at this
      exact ⟨this.1.symm, by rw [this.2]⟩
  · rintro ⟨h1, h2⟩
    rw [h1, h2]; rfl
theorem below_no1 {s p : ByteArray} (h : ¬ p.size + 1 < s.size) : (belowB (tl s) (tl p)).isSome = false := by
  unfold belowB
  rw [if_neg (fun hh => h (by rw [tl_len, tl_len] at hh; exact hh.2))]; rfl
theorem below_no2 {s p : ByteArray} (hl : p.size + 1 < s.size) (h : s.extract 0 p.size ≠ p ∨ s[p.size] ≠ 47) : (belowB (tl s) (tl p)).isSome = false := by
  unfold belowB
  rw [if_neg]
  · rfl
  · rintro ⟨h1, h2⟩
    obtain ⟨h3, h4⟩ := pre_iff.1 h1
    rw [tl_len] at h3 h4
    rcases h with h | h
    · apply h
      apply Lg.tl_inj
      show (s.extract 0 p.size).data.toList = tl p
      rw [Lib.extract_data, List.drop_zero, Nat.sub_zero]; exact h3
    · rw [Lg.tl_get (show p.size < s.size by omega)] at h4
      exact h (Option.some.inj h4)
theorem below_yes {s p : ByteArray} (hl : p.size + 1 < s.size) (h1 : s.extract 0 p.size = p) (h2 : s[p.size] = 47) : belowB (tl s) (tl p) = some (tl (s.extract (p.size + 1) s.size)) := by
  have hpre : (tl p ++ [47]) <+: tl s := by
    refine pre_iff.2 ⟨?_, ?_⟩
    · have := congrArg (fun x : ByteArray => x.data.toList) h1
      simp only [Lib.extract_data, List.drop_zero, Nat.sub_zero] at this
      rw [tl_len]; exact this
    · rw [tl_len, Lg.tl_get (show p.size < s.size by omega), h2]
  unfold belowB
  rw [if_pos ⟨hpre, by rw [tl_len, tl_len]; exact hl⟩, tl_len, ← Lib.extract_to_end]
set_option maxHeartbeats 1000000 in
theorem rbelow_any (s p : ByteArray) (hp : p.size ≤ 1000000000) (w : World) :
    Calls Tryz.prog 72 #[.string s, .string p] w fun e w' => e = .returned (.bool (belowB (tl s) (tl p)).isSome) ∧ w = w' := by
  by_cases hl : p.size + 1 < s.size
  · have i1 : (p.size : Int) + 1 < (s.size : Int) := by omega
    have i2 : (p.size : Int) ≤ (s.size : Int) := by omega
    have i3 : (p.size : Int) < (s.size : Int) := by omega
    have i4 : p.size < s.size := by omega
    by_cases hx : s.extract 0 p.size = p
    · by_cases hc : s[p.size] = 47
      · have F : Hid ((belowB (tl s) (tl p)).isSome = true) := Lib.hid (by rw [below_yes hl hx hc]; rfl)
        have j : (s[p.size].toNat : Int) = 47 := by rw [hc]; rfl
        clear hc
        go_enter Tryz.func72, Tryz.ntmps72
        go_wp2_with (fail)
        go_ret
        exact ⟨by rw [F.out]; rfl, rfl⟩
      · have F : Hid ((belowB (tl s) (tl p)).isSome = false) := Lib.hid (below_no2 hl (.inr hc))
        have j : ((s[p.size].toNat : Int) == 47) = false := beq_eq_false_iff_ne.2 fun e => hc (by
          apply UInt8.toNat_inj.1
          show s[p.size].toNat = 47
          omega)
        clear hc
        go_enter Tryz.func72, Tryz.ntmps72
        go_wp2_with (fail)
        go_ret
        exact ⟨by rw [F.out]; rfl, rfl⟩
    · have F : Hid ((belowB (tl s) (tl p)).isSome = false) := Lib.hid (below_no2 hl (.inl hx))
      have g := Lg.s_ne hx
      clear hx
      go_enter Tryz.func72, Tryz.ntmps72
      go_wp2_with (fail)
      go_ret
      exact ⟨by rw [F.out]; rfl, rfl⟩
  · have F : Hid ((belowB (tl s) (tl p)).isSome = false) := Lib.hid (below_no1 hl)
    have i1 : ¬ (p.size : Int) + 1 < (s.size : Int) := by omega
    go_enter Tryz.func72, Tryz.ntmps72
    go_wp2_with (fail)
    go_ret
    exact ⟨by rw [F.out]; rfl, rfl⟩
theorem rget_any (A : Option Addr) (l : List Fl) (c : Nat) (s : ByteArray) (w : World) (hr : Fls w A l) (hl : l.length ≤ 1000000000) :
    Calls Tryz.prog 181 #[.slice A l.length c, .string s] w (GetSays l (tl s) w) := by
  have GN : Hid (l.find? (fun f : Fl => decide (tl f.p = tl s)) = none → get l (tl s) = none) := Lib.hid fun h => by unfold get; rw [h]; rfl
  have GS : Hid (∀ f, l.find? (fun f : Fl => decide (tl f.p = tl s)) = some f → get l (tl s) = some f.d) := Lib.hid fun f h => by unfold get; rw [h]; rfl
  have HR := Lib.hid hr
  clear hr
  go_enter Tryz.func181, Tryz.ntmps181
  go_wp2_with (fail)
  go_loopw [6] (fun i W => ∃ k : Nat, i = .int .i64 k ∧ k ≤ l.length ∧ NoneTo (fun f : Fl => decide (tl f.p = tl s)) l k ∧ w = W) (fun i _ => l.length - (intOf i).toNat)
  case atStart => exact ⟨0, rfl, by omega, NoneTo.zero _ _, rfl⟩
  case round =>
    obtain ⟨k, rfl, hk, ha, rfl⟩ := hrel
    have HA := Lib.hid ha
    clear ha
    by_cases hlt : k < l.length
    · have hkI : (k : Int) < (l.length : Int) := by omega
      obtain ⟨ad, rfl, had, c0, c1⟩ := Fls.at_ HR.out hlt
      have NXT := Lib.hid (NoneTo.next hlt HA.out)
      have HIT := Lib.hid (fun h => GS.out _ (find_hit hlt HA.out h))
      generalize l[k] = f at *
      by_cases h : f.p = s
      · have F := Lib.hid (HIT.out (decide_eq_true (by rw [h])))
        clear NXT HIT
        go_wp2_with (fail)
        go_ret2
        unfold GetSays
        rw [F.out]
        exact ⟨rfl, Below.refl _ _⟩
      · have F := Lib.hid (NXT.out (decide_eq_false fun e => h (Lg.tl_inj e)))
        have g := Lg.s_ne h
        clear NXT HIT h
        go_wp2_with (fail)
        go_roundw
        case rel => exact ⟨k + 1, by go_num, by omega, F.out, by first | rfl | trivial⟩
        case measure => simp [intOf]; omega
    · obtain rfl : k = l.length := by omega
      have F := Lib.hid (GN.out (find_miss HA.out))
      go_wp2_with (fail)
      go_ret2
      unfold GetSays
      rw [F.out]
      exact ⟨rfl, Below.refl _ _⟩
theorem take_while {l : B} : ∀ {k : Nat} (hk : k < l.length), (∀ j (hj : j < l.length), j < k → l[j] ≠ 47) → l[k] = 47 → head l = l.take k := by
  induction l with
  | nil => intro k hk; simp at hk
  | cons a l ih =>
    intro k hk h e
    cases k with
    | zero =>
      have e : a = 47 := e
      subst e; rfl
    | succ k =>
      have h0 : a ≠ 47 := h 0 (by simp) (by omega)
      have := ih (k := k) (by simpa using hk) (fun j hj hjk => h (j + 1) (by simpa using hj) (by omega)) e
      unfold head at this ⊢
      rw [List.takeWhile_cons, if_pos (decide_eq_true h0), this]; rfl
theorem take_none : ∀ {l : B}, (∀ j (hj : j < l.length), l[j] ≠ 47) → head l = l
  | [], _ => rfl
  | a :: l, h => by
    have h0 : a ≠ 47 := h 0 (by simp)
    have ih := take_none (l := l) fun j hj => h (j + 1) (by simpa using hj)
    unfold head at ih ⊢
    rw [List.takeWhile_cons, if_pos (decide_eq_true h0), ih]
theorem rhead_any (s : ByteArray) (hs : s.size ≤ 1000000000) (w : World) :
    Calls Tryz.prog 215 #[.string s] w fun e w' => (∃ b, e = .returned (.tuple #[.string (bs (head (tl s))), .bool b]) ∧ (b = true ↔ (47 : UInt8) ∈ tl s)) ∧ w = w' := by
  have HN : Hid ((∀ j (hj : j < s.size), j < s.size → s[j] ≠ 47) → s = bs (head (tl s)) ∧ ¬ (47 : UInt8) ∈ tl s) := Lib.hid fun h => by
    have h' : ∀ j (hj : j < (tl s).length), (tl s)[j] ≠ 47 := fun j hj => h j (by rw [tl_len] at hj; exact hj) (by rw [tl_len] at hj; exact hj)
    refine ⟨by rw [take_none h']; rfl, fun hm => ?_⟩
    obtain ⟨j, hj, e⟩ := List.mem_iff_getElem.1 hm
    exact absurd e (h' j hj)
  have HH : Hid (∀ k (hk : k < s.size), (∀ j (hj : j < s.size), j < k → s[j] ≠ 47) → s[k] = 47 → s.extract 0 k = bs (head (tl s)) ∧ (47 : UInt8) ∈ tl s) := Lib.hid fun k hk h e => by
    have hk' : k < (tl s).length := by rw [tl_len]; exact hk
    refine ⟨?_, List.mem_iff_getElem.2 ⟨k, hk', e⟩⟩
    rw [take_while hk' (fun j hj hjk => h j (by rw [tl_len] at hj; exact hj) hjk) e]
    apply Lg.tl_inj
    show (s.extract 0 k).data.toList = (tl s).take k
    rw [Lib.extract_data, List.drop_zero, Nat.sub_zero]
  go_enter Tryz.func215, Tryz.ntmps215
  go_wp2_with (fail)
  go_loopw [4] (fun i W => ∃ k : Nat, i = .int .i64 k ∧ k ≤ s.size ∧ (∀ j (hj : j < s.size), j < k → s[j] ≠ 47) ∧ w = W) (fun i _ => s.size - (intOf i).toNat)
  case atStart => exact ⟨0, rfl, by omega, fun j _ h => by omega, rfl⟩
  case round =>
    obtain ⟨k, rfl, hk, ha, rfl⟩ := hrel
    have HA := Lib.hid ha
    clear ha
    by_cases hlt : k < s.size
    · have hkI : (k : Int) < (s.size : Int) := by omega
      have hkI2 : (k : Int) ≤ (s.size : Int) := by omega
      by_cases h : s[k] = 47
      · have F := Lib.hid (HH.out k hlt HA.out h)
        have j : ((s[k].toNat : Int) == 47) = true := by rw [h]; rfl
        clear h
        go_wp2_with (fail)
        go_ret2
        exact ⟨⟨true, by rw [← F.out.1]; rfl, ⟨fun _ => F.out.2, fun _ => rfl⟩⟩, rfl⟩
      · have F : Hid (∀ j (hj : j < s.size), j < k + 1 → s[j] ≠ 47) := Lib.hid fun j hj h1 => by
          rcases Nat.lt_or_ge j k with h2 | h2
          · exact HA.out j hj h2
          · obtain rfl : j = k := by omega
            exact h
        have j : ((s[k].toNat : Int) == 47) = false := beq_eq_false_iff_ne.2 fun e => h (by
          apply UInt8.toNat_inj.1
          show s[k].toNat = 47
          omega)
        clear h
        go_wp2_with (fail)
        go_roundw
        case rel => exact ⟨k + 1, by go_num, by omega, F.out, by first | rfl | trivial⟩
        case measure => simp [intOf]; omega
    · obtain rfl : k = s.size := by omega
      have F := Lib.hid (HN.out HA.out)
      go_wp2_with (fail)
      go_ret2
      exact ⟨⟨false, by rw [← F.out.1]; rfl, ⟨fun h => (by cases h), fun h => absurd h F.out.2⟩⟩, rfl⟩
end Go.Proofs.YtdidnlkilleljaaGreatDoor.Fs
/- FsRight, what a claim needs of it (prune.py). -/
namespace Go.Proofs.YtdidnlkilleljaaGreatDoor.Fs
open Go.RowKit
set_option linter.unusedVariables false
set_option maxRecDepth 100000
theorem lt_op {a b : ByteArray} (h : tl a < tl b) : Op.bytesLess a.toList b.toList = true := by
  rw [Lib.toList_data, Lib.toList_data, bytesLess_eq]; exact decide_eq_true h
theorem nlt_op {a b : ByteArray} (h : ¬ tl a < tl b) : Op.bytesLess a.toList b.toList = false := by
  rw [Lib.toList_data, Lib.toList_data, bytesLess_eq]; exact decide_eq_false h
def RUpto (l : List En) (k : Nat) : Prop := ∀ j (hj : j < l.length), j < k → rightAt l j hj
theorem RUpto.next {l : List En} {k : Nat} (hk : k < l.length) (h : RUpto l k) (h1 : rightAt l k hk) : RUpto l (k + 1) := fun j hj hjk => by
  rcases Nat.lt_or_ge j k with h2 | h2
  · exact h j hj h2
  · obtain rfl : j = k := by omega
    exact h1
theorem pathE_yes {s : B} (h : Lg.pathOk s = true) : Lg.pathE s = 0 := by unfold Lg.pathE; rw [if_pos h]
theorem pathE_not {s : B} (h : Lg.pathOk s = false) : Lg.pathE s = 13 := by unfold Lg.pathE; rw [if_neg (by simp [h])]
theorem contains_any (s : ByteArray) (w : World) (b : Bool) (hb : (47 : UInt8) ∈ tl s ↔ b = true) :
    Calls Tryz.prog 148 #[.string s, .string ⟨#[47]⟩] w fun e w' => e = .returned (.bool b) ∧ Below w.heap.size w w' := by
  refine (Tryz.strings_Contains_one s 47 w).mono ?_
  rintro e w' ⟨h1, rfl⟩
  refine ⟨?_, Below.refl _ _⟩
  rw [h1, ← Lib.contains_iff_indexByte]
  have : (s.data.toList.contains 47) = b := by
    rw [Bool.eq_iff_iff, List.contains_iff_mem]; exact hb
  rw [this]
end Go.Proofs.YtdidnlkilleljaaGreatDoor.Fs
namespace Go.Proofs.YtdidnlkilleljaaGreatDoor.Fs
open Go.RowKit
set_option linter.unusedVariables false
set_option maxRecDepth 100000
set_option maxHeartbeats 4000000 in
theorem rright_any (A : Option Addr) (l : List En) (c : Nat) (w : World) (hr : Ens w A l) (hz : ∀ x ∈ l, x.n.length ≤ 1000000000 ∧ x.g.length ≤ 1000000000) (hl : l.length ≤ 1000000000) :
    Calls Tryz.prog 164 #[.slice A l.length c] w fun e w' => e = .returned (.bool (rightB l)) ∧ Below w.heap.size w w' := by
  have RD := Lib.hid hr
  have SZ := Lib.hid hz
  clear hr hz
  go_enter Tryz.func164, Tryz.ntmps164
  go_wp2_with (fail)
  go_loopw [3] (fun i W => ∃ k : Nat, i = .int .i64 k ∧ k ≤ l.length ∧ RUpto l k ∧ Below w.heap.size w W) (fun i _ => l.length - (intOf i).toNat)
  case atStart => exact ⟨0, rfl, by omega, fun j _ h => by omega, Below.refl _ _⟩
  case round =>
    obtain ⟨k, rfl, hk, hu, hb⟩ := hrel
    have HU := Lib.hid hu
    clear hu
    by_cases hlt : k < l.length
    · have hkI : (k : Int) < (l.length : Int) := by omega
      obtain ⟨ad, rfl, had, c0, c1, c2⟩ := Ens.at_ RD.out hlt
      have d0 : ∀ w', Below w.heap.size w w' → w'.cell? (ad.add (k * 3)) = some (.string (bs l[k].n)) := fun w' h => (h.cell (by rw [block_of_add]; exact had)).trans c0
      have d2 : ∀ w', Below w.heap.size w w' → w'.cell? ⟨(ad.add (k * 3)).block, (ad.add (k * 3)).off + 2, none⟩ = some (.string (bs l[k].g)) := fun w' h => (h.cell (by show (ad.add (k * 3)).block < _; rw [block_of_add]; exact had)).trans c2
      have e0 := d0 _ hb
      have GOOD := Lib.hid (fun h => RUpto.next hlt HU.out h)
      have BAD := Lib.hid (fun h => right_bad hlt h)
      have hzz := SZ.out _ (List.getElem_mem hlt)
      have PA : Hid (∀ W, Calls Tryz.prog 71 #[.string (bs l[k].n)] W fun e w' => e = .returned (.int .i64 (Lg.pathE l[k].n)) ∧ w' = W) := Lib.hid fun W =>
        (Lg.rpath_any (bs l[k].n) (by rw [bs_len]; omega) W).mono fun e w' h => ⟨h.1, h.2.symm⟩
      have HD : Hid (∀ b : Bool, ((47 : UInt8) ∈ l[k].n ↔ b = true) → ∀ W, Calls Tryz.prog 215 #[.string (bs l[k].n)] W fun e w' => e = .returned (.tuple #[.string (bs (head l[k].n)), .bool b]) ∧ W = w') := Lib.hid fun b hb W =>
        (rhead_any (bs l[k].n) (by rw [bs_len]; omega) W).mono fun e w' h => by
          obtain ⟨⟨b', rfl, hb'⟩, rfl⟩ := h
          refine ⟨?_, rfl⟩
          have : b' = b := by
            have h1 : b' = true ↔ b = true := hb'.trans hb
            cases b <;> cases b' <;> simp at h1 <;> rfl
          rw [this]; rfl
      have hgl : (bs l[k].g).size = l[k].g.length := bs_len _
      by_cases hm : (47 : UInt8) ∈ l[k].n
      · have H1 := Lib.hid (HD.out true (by simp [hm]))
        have F := Lib.hid (BAD.out fun h => h.2.1 hm)
        clear hm HD BAD GOOD hzz
        generalize l[k] = x at *
        go_wp2_with (go_at_call 215; (with_reducible refine (H1.out _).mono ?_); rintro e w1 ⟨rfl, rfl⟩)
        refine wp_region_cls (C := fun w' => Below w.heap.size w w') (by kernel_rfl) (by kernel_rfl) hb.drew ?_
        repeat (first | go_big_quiet_skip | quiet_step (first | (intro _; rfl) | (intro _; rw [if_neg (by omega)]; exact ⟨rfl, rfl⟩) | (intro hss; (first | rw [d0 _ hss] | rw [d2 _ hss]); exact ⟨rfl, rfl⟩) | (intro hss; go_at_call 71; (with_reducible refine (PA.out _).mono ?_); rintro e w4 ⟨rfl, rfl⟩; exact ⟨rfl, hss⟩)))
        refine wpQuiet_nil ?_
        intro w2 hb2
        go_wp2
        go_ret
        exact ⟨Lg.ret_bool F.out, hb2⟩
      · have H1 := Lib.hid (HD.out false (by simp [hm]))
        clear HD
        by_cases hp : Lg.pathOk l[k].n = true
        · rw [pathE_yes hp] at PA
          by_cases hg : l[k].g.length = 32
          · have g1 : (((bs l[k].g).size : Int) != 32) = false := by rw [hgl, hg]; rfl
            by_cases hk0 : k = 0
            · have j0 : ¬ (0 : Int) < (k : Int) := by omega
              have j1 : decide ((0 : Int) < (k : Int)) = false := decide_eq_false j0
              have j2 : decide (0 < k) = false := decide_eq_false (by omega)
              have F := Lib.hid (GOOD.out ⟨hp, hm, hg, fun h => absurd h (by omega)⟩)
              clear hk0 hm hp BAD GOOD hzz hg hgl
              generalize l[k] = x at *
              go_wp2_with (go_at_call 215; (with_reducible refine (H1.out _).mono ?_); rintro e w1 ⟨rfl, rfl⟩)
              refine wp_region_cls (C := fun w' => Below w.heap.size w w') (by kernel_rfl) (by kernel_rfl) hb.drew ?_
              repeat (first | go_big_quiet_skip | quiet_step (first | (intro _; rfl) | (intro _; rw [if_neg (by omega)]; exact ⟨rfl, rfl⟩) | (intro hss; (first | rw [d0 _ hss] | rw [d2 _ hss]); exact ⟨rfl, rfl⟩) | (intro hss; go_at_call 71; (with_reducible refine (PA.out _).mono ?_); rintro e w4 ⟨rfl, rfl⟩; exact ⟨rfl, hss⟩)))
              refine wpQuiet_nil ?_
              intro w2 hb2
              go_wp2
              go_roundw
              case rel => exact ⟨k + 1, by go_num, by omega, F.out, hb2⟩
              case measure => simp [intOf]; omega
            · obtain ⟨q, hq⟩ : ∃ q, q = k - 1 := ⟨_, rfl⟩
              have hlp : q < l.length := by omega
              obtain ⟨ad', ead, had', p0, p1, p2⟩ := Ens.at_ RD.out hlp
              obtain rfl : ad = ad' := Option.some.inj ead
              have dp : ∀ w', Below w.heap.size w w' → w'.cell? (ad.add (q * 3)) = some (.string (bs l[q].n)) := fun w' h => (h.cell (by rw [block_of_add]; exact had)).trans p0
              have iv : IntKind.i64.wrap ((k : Int) - 1) = (q : Int) := by rw [show ((k : Int) - 1) = q by omega]; exact IntWalk.i64_in _ (by omega)
              have i0 : (q : Int) < (l.length : Int) := by omega
              have j0 : (0 : Int) < (k : Int) := by omega
              have j1 : decide (0 < k) = true := decide_eq_true (by omega)
              have ho2 : l[k - 1]'(by omega) = l[q] := by subst hq; rfl
              clear p0 p1 p2 had' ead hk0
              by_cases ho : l[q].n < l[k].n
              · have F := Lib.hid (GOOD.out ⟨hp, hm, hg, fun _ => by rw [ho2]; exact ho⟩)
                have o1 := lt_op (a := bs l[q].n) (b := bs l[k].n) ho
                clear hm hp BAD GOOD hzz hg hgl ho ho2 hq
                generalize l[k] = x at *
                generalize l[q] = y at *
                go_wp2_with (go_at_call 215; (with_reducible refine (H1.out _).mono ?_); rintro e w1 ⟨rfl, rfl⟩)
                refine wp_region_cls (C := fun w' => Below w.heap.size w w') (by kernel_rfl) (by kernel_rfl) hb.drew ?_
                repeat (first | go_big_quiet_skip | quiet_step (first | (intro _; rfl) | (intro _; rw [if_neg (by omega)]; exact ⟨rfl, rfl⟩) | (intro hss; (first | rw [d0 _ hss] | rw [d2 _ hss] | rw [dp _ hss]); exact ⟨rfl, rfl⟩) | (intro hss; go_at_call 71; (with_reducible refine (PA.out _).mono ?_); rintro e w4 ⟨rfl, rfl⟩; exact ⟨rfl, hss⟩)))
                refine wpQuiet_nil ?_
                intro w2 hb2
                go_wp2
                go_roundw
                case rel => exact ⟨k + 1, by go_num, by omega, F.out, hb2⟩
                case measure => simp [intOf]; omega
              · have F := Lib.hid (BAD.out fun h => ho (by have := h.2.2.2 (by omega); rw [ho2] at this; exact this))
                have o1 := nlt_op (a := bs l[q].n) (b := bs l[k].n) ho
                clear hm hp BAD GOOD hzz hg hgl ho ho2 hq
                generalize l[k] = x at *
                generalize l[q] = y at *
                go_wp2_with (go_at_call 215; (with_reducible refine (H1.out _).mono ?_); rintro e w1 ⟨rfl, rfl⟩)
                refine wp_region_cls (C := fun w' => Below w.heap.size w w') (by kernel_rfl) (by kernel_rfl) hb.drew ?_
                repeat (first | go_big_quiet_skip | quiet_step (first | (intro _; rfl) | (intro _; rw [if_neg (by omega)]; exact ⟨rfl, rfl⟩) | (intro hss; (first | rw [d0 _ hss] | rw [d2 _ hss] | rw [dp _ hss]); exact ⟨rfl, rfl⟩) | (intro hss; go_at_call 71; (with_reducible refine (PA.out _).mono ?_); rintro e w4 ⟨rfl, rfl⟩; exact ⟨rfl, hss⟩)))
                refine wpQuiet_nil ?_
                intro w2 hb2
                go_wp2
                go_ret
                exact ⟨Lg.ret_bool F.out, hb2⟩
          · have F := Lib.hid (BAD.out fun h => hg h.2.2.1)
            have g1 : (((bs l[k].g).size : Int) != 32) = true := by rw [hgl]; simp; omega
            clear hm hp BAD GOOD hzz hg hgl
            generalize l[k] = x at *
            go_wp2_with (go_at_call 215; (with_reducible refine (H1.out _).mono ?_); rintro e w1 ⟨rfl, rfl⟩)
            refine wp_region_cls (C := fun w' => Below w.heap.size w w') (by kernel_rfl) (by kernel_rfl) hb.drew ?_
            repeat (first | go_big_quiet_skip | quiet_step (first | (intro _; rfl) | (intro _; rw [if_neg (by omega)]; exact ⟨rfl, rfl⟩) | (intro hss; (first | rw [d0 _ hss] | rw [d2 _ hss]); exact ⟨rfl, rfl⟩) | (intro hss; go_at_call 71; (with_reducible refine (PA.out _).mono ?_); rintro e w4 ⟨rfl, rfl⟩; exact ⟨rfl, hss⟩)))
            refine wpQuiet_nil ?_
            intro w2 hb2
            go_wp2
            go_ret
            exact ⟨Lg.ret_bool F.out, hb2⟩
        · rw [pathE_not (by simpa using hp)] at PA
          have F := Lib.hid (BAD.out fun h => hp h.1)
          clear hm hp BAD GOOD hzz
          generalize l[k] = x at *
          go_wp2_with (go_at_call 215; (with_reducible refine (H1.out _).mono ?_); rintro e w1 ⟨rfl, rfl⟩)
          refine wp_region_cls (C := fun w' => Below w.heap.size w w') (by kernel_rfl) (by kernel_rfl) hb.drew ?_
          repeat (first | go_big_quiet_skip | quiet_step (first | (intro _; rfl) | (intro _; rw [if_neg (by omega)]; exact ⟨rfl, rfl⟩) | (intro hss; (first | rw [d0 _ hss] | rw [d2 _ hss]); exact ⟨rfl, rfl⟩) | (intro hss; go_at_call 71; (with_reducible refine (PA.out _).mono ?_); rintro e w4 ⟨rfl, rfl⟩; exact ⟨rfl, hss⟩)))
          refine wpQuiet_nil ?_
          intro w2 hb2
          go_wp2
          go_ret
          exact ⟨Lg.ret_bool F.out, hb2⟩
    · obtain rfl : k = l.length := by omega
      have F := Lib.hid (right_all HU.out)
      go_wp2_with (fail)
      go_ret
      exact ⟨Lg.ret_bool F.out, hb⟩
end Go.Proofs.YtdidnlkilleljaaGreatDoor.Fs
