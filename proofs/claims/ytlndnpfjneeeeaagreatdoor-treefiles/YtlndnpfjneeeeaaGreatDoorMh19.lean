/- Joined by mkmerged.py: FsRCheck, FsSame3, FsTexts. -/
import Derived.Test.YtlndnpfjneeeeaaGreatDoorMh18
import Derived.Test.YtlndnpfjneeeeaaGreatDoorMh15
import Derived.Test.YtlndnpfjneeeeaaGreatDoorMh13
import Derived.Test.YtlndnpfjneeeeaaGreatDoorMh12
import Derived.Laws.StructEq
import Derived.BigQuiet
import Derived.Test.YtlndnpfjneeeeaaGreatDoorMh11
import Derived.Deep.Slices
import Derived.Deep.Fields
import Derived.ReadAgain
import Derived.ChangeBears
import Derived.SliceStrings
import Derived.ChangeMaps5
/- FsRCheck, what a claim needs of it (prune.py). -/
namespace Go.Proofs.YtlndnpfjneeeeaaGreatDoor.Fs
open Go.RowKit
set_option linter.unusedVariables false
set_option maxRecDepth 100000
def RSing (l : List Fl) (k : Nat) : Prop := ∀ j (hj : j < l.length), j < k → (∀ h : 0 < j, tl (l[j - 1]'(by omega)).p < tl l[j].p) ∧ ∀ m (hm : m < l.length), (belowB (tl l[j].p) (tl l[m].p)).isSome = false
def RIn (l : List Fl) (s : ByteArray) (m : Nat) : Prop := ∀ j (hj : j < l.length), j < m → (belowB (tl s) (tl l[j].p)).isSome = false
theorem RIn.next {l : List Fl} {s : ByteArray} {m : Nat} (hm : m < l.length) (h : RIn l s m) (h1 : (belowB (tl s) (tl l[m].p)).isSome = false) : RIn l s (m + 1) := fun j hj hjm => by
  rcases Nat.lt_or_ge j m with h2 | h2
  · exact h j hj h2
  · obtain rfl : j = m := by omega
    exact h1
theorem RSing.next {l : List Fl} {k : Nat} (hk : k < l.length) (h : RSing l k) (h1 : ∀ h : 0 < k, tl (l[k - 1]'(by omega)).p < tl l[k].p) (h2 : RIn l l[k].p l.length) : RSing l (k + 1) := fun j hj hjk => by
  rcases Nat.lt_or_ge j k with h3 | h3
  · exact h j hj h3
  · obtain rfl : j = k := by omega
    exact ⟨h1, fun m hm => h2 m hm hm⟩
theorem RSing.all {l : List Fl} (h : RSing l l.length) : ¬ Twice l := by
  rintro (⟨i, hi, h0, h1⟩ | ⟨i, hi, k, hk, h1⟩)
  · exact h1 ((h i hi hi).1 h0)
  · have := (h i hi hi).2 k hk
    rw [h1] at this
    cases this
theorem twice_below {l : List Fl} {k m : Nat} (hk : k < l.length) (hm : m < l.length) (h : (belowB (tl l[k].p) (tl l[m].p)).isSome = true) : Twice l := .inr ⟨k, hk, m, hm, h⟩
set_option maxHeartbeats 4000000 in
theorem rpcheck_any (A : Option Addr) (l : List Fl) (c : Nat) (w : World) (hr : Fls w A l) (hl : l.length ≤ 1000000000) (hz : ∀ f ∈ l, f.p.size ≤ 1000000000 ∧ f.d.size ≤ maxLen) :
    Calls Tryz.prog 43 #[.slice A l.length c] w fun e w' => e = .returned (.int .i64 (checkE l)) ∧ Below w.heap.size w w' := by
  have RD : Hid (∀ W, Below w.heap.size w W → Reads W w.heap.size 2 A l.length (fc l)) := Lib.hid fun W hW => hr.below hW
  have SZ := Lib.hid hz
  clear hr hz
  go_enter Tryz.func43, Tryz.ntmps43
  go_wp2_with (fail)
  go_loopw [3] (fun i W => ∃ k : Nat, i = .int .i64 k ∧ k ≤ l.length ∧ Clean l k ∧ Below w.heap.size w W) (fun i _ => l.length - (intOf i).toNat)
  case atStart => exact ⟨0, rfl, by omega, fun j _ h => by omega, Below.refl _ _⟩
  case round =>
    obtain ⟨k, rfl, hk, hcl, hb⟩ := hrel
    have HC := Lib.hid hcl
    clear hcl
    by_cases hlt : k < l.length
    · have hkI : (k : Int) < (l.length : Int) := by omega
      obtain ⟨ad, rfl, had, c0, c1⟩ := Fls.at_ (RD.out _ hb) hlt
      have hzz := SZ.out _ (List.getElem_mem hlt)
      have NX := Lib.hid (fun h => Clean.next hlt HC.out h)
      have BAD := Lib.hid (fun c (h : badF l[k] = some c) => check_first hlt HC.out h)
      have PB : Hid (∀ W, Calls Tryz.prog 103 #[.string l[k].p] W fun e w' => e = .returned (.int .i64 (Lg.pathE (tl l[k].p))) ∧ W = w') := Lib.hid fun W => Lg.rpath_any l[k].p hzz.1 W
      by_cases hp : Lg.pathOk (tl l[k].p) = true
      · rw [pathE_yes hp] at PB
        by_cases hd : 2048 < l[k].d.size
        · have F := Lib.hid (BAD.out _ (badF_data hp hd))
          have j2 : (2048 : Int) < (l[k].d.size : Int) := by omega
          clear hp hd BAD NX
          generalize l[k] = f at *
          go_wp2_with (go_at_call 103; (with_reducible refine (PB.out _).mono ?_); rintro e w2 ⟨rfl, rfl⟩)
          go_ret
          exact ⟨Lg.ret_int F.out, hb⟩
        · have F := Lib.hid (NX.out (badF_no hp hd))
          have j2 : ¬ (2048 : Int) < (l[k].d.size : Int) := by omega
          clear hp hd BAD NX
          generalize l[k] = f at *
          go_wp2_with (go_at_call 103; (with_reducible refine (PB.out _).mono ?_); rintro e w2 ⟨rfl, rfl⟩)
          go_roundw
          case rel => exact ⟨k + 1, by go_num, by omega, F.out, hb⟩
          case measure => simp [intOf]; omega
      · have hp' : Lg.pathOk (tl l[k].p) = false := by simpa using hp
        rw [pathE_not hp'] at PB
        have F := Lib.hid (BAD.out _ (badF_path hp'))
        clear hp hp' BAD NX
        generalize l[k] = f at *
        go_wp2_with (go_at_call 103; (with_reducible refine (PB.out _).mono ?_); rintro e w2 ⟨rfl, rfl⟩)
        go_ret
        exact ⟨Lg.ret_int F.out, hb⟩
    · obtain rfl : k = l.length := by omega
      by_cases h32 : 32 < l.length
      · have F := Lib.hid (check_many HC.out h32)
        have j1 : (32 : Int) < (l.length : Int) := by omega
        go_wp2_with (fail)
        go_ret
        exact ⟨Lg.ret_int F.out, hb⟩
      · have j1 : ¬ (32 : Int) < (l.length : Int) := by omega
        have SY := Lib.hid (clean_size HC.out)
        have TW := Lib.hid (fun h => check_twice HC.out h32 h)
        have GO := Lib.hid (fun h => check_good HC.out h32 h)
        clear HC
        obtain ⟨w3, rfl⟩ : ∃ w3, w3 = wr := ⟨_, rfl⟩
        have HB3 := Lib.hid hb
        clear hb hlt hk
        go_wp2_with (fail)
        go_loopw [4] (fun i W => ∃ k : Nat, i = .int .i64 k ∧ k ≤ l.length ∧ RSing l k ∧ Below w.heap.size w W) (fun i _ => l.length - (intOf i).toNat)
        case atStart => exact ⟨0, rfl, by omega, fun j _ h => by omega, HB3.out⟩
        case round =>
          obtain ⟨k, rfl, hk, hcl, hb⟩ := hrel
          have HC := Lib.hid hcl
          clear hcl
          by_cases hlt : k < l.length
          · have hkI : (k : Int) < (l.length : Int) := by omega
            obtain ⟨ad, rfl, had, c0, c1⟩ := Fls.at_ (RD.out _ hb) hlt
            have NX := Lib.hid (fun h1 h2 => RSing.next hlt HC.out h1 h2)
            have TO := Lib.hid (fun h0 h => TW.out (twice_order hlt h0 h))
            have TC := Lib.hid (fun m hm h => TW.out (twice_below (m := m) hlt hm h))
            have dk : ∀ w', Below w.heap.size w w' → w'.cell? (ad.add (k * 2)) = some (.string l[k].p) := fun w' h => ((h.cell (by rw [block_of_add]; exact had))).trans (((hb.cell (by rw [block_of_add]; exact had)).symm).trans c0)
            by_cases hk0 : k = 0
            · have j2 : ¬ (0 : Int) < (k : Int) := by omega
              have j3 : decide ((0 : Int) < (k : Int)) = false := decide_eq_false j2
              have j4 : decide (0 < k) = false := decide_eq_false (by omega)
              have HO := Lib.hid (show ∀ h : 0 < k, tl (l[k - 1]'(Nat.lt_of_le_of_lt (Nat.sub_le k 1) hlt)).p < tl l[k].p from fun h => absurd h (by omega))
              clear hk0
              go_wp2_with (fail)
              refine wp_region_cls (C := fun w' => Below w.heap.size w w') (by kernel_rfl) (by kernel_rfl) hb.drew ?_
              repeat (first | go_big_quiet_skip | quiet_step (first | (intro _; rfl) | (intro _; rw [if_neg (by omega)]; exact ⟨rfl, rfl⟩) | (intro hss; (first | rw [dk _ hss] | rw [dk _ hss]); exact ⟨rfl, rfl⟩)))
              refine wpQuiet_nil ?_
              intro w2 hb2
              go_wp2
              go_loopw [5] (fun i W => ∃ m : Nat, i = .int .i64 m ∧ m ≤ l.length ∧ RIn l l[k].p m ∧ Below w.heap.size w W) (fun i _ => l.length - (intOf i).toNat)
              case atStart => exact ⟨0, rfl, by omega, fun j _ h => by omega, hb2⟩
              case round =>
                obtain ⟨m, rfl, hm, hin, hb⟩ := hrel
                have HI := Lib.hid hin
                clear hin
                by_cases hmt : m < l.length
                · have hmI : (m : Int) < (l.length : Int) := by omega
                  obtain ⟨ad', ead, _, e0, _⟩ := Fls.at_ (RD.out _ hb) hmt
                  obtain rfl : ad = ad' := Option.some.inj ead
                  have dm : ∀ w', Below w.heap.size w w' → w'.cell? (ad.add (m * 2)) = some (.string l[m].p) := fun w' h => ((h.cell (by rw [block_of_add]; exact had))).trans (((hb.cell (by rw [block_of_add]; exact had)).symm).trans e0)
                  have MN := Lib.hid (fun h => RIn.next hmt HI.out h)
                  have MB := Lib.hid (TC.out m hmt)
                  have BL : Hid (∀ V, Calls Tryz.prog 104 #[.string l[k].p, .string l[m].p] V fun e w' => e = .returned (.bool (belowB (tl l[k].p) (tl l[m].p)).isSome) ∧ V = w') := Lib.hid fun V => rbelow_any l[k].p l[m].p (SY.out _ (List.getElem_mem hmt)) V
                  clear e0 ead
                  cases hx : (belowB (tl l[k].p) (tl l[m].p)).isSome with
                  | true =>
                    rw [hx] at BL
                    have F := Lib.hid (MB.out hx)
                    clear hx MN MB HO NX TC TO HI
                    generalize l[k] = x at *
                    generalize l[m] = y at *
                    go_wp2_with (fail)
                    refine wp_region_cls (C := fun w' => Below w.heap.size w w') (by kernel_rfl) (by kernel_rfl) hb.drew ?_
                    repeat (first | go_big_quiet_skip | quiet_step (first | (intro _; rfl) | (intro _; rw [if_neg (by omega)]; exact ⟨rfl, rfl⟩) | (intro hss; (first | rw [dk _ hss] | rw [dm _ hss]); exact ⟨rfl, rfl⟩) | (intro hss; go_at_call 104; (with_reducible refine (BL.out _).mono ?_); rintro e w4 ⟨rfl, rfl⟩; exact ⟨rfl, hss⟩)))
                    refine wpQuiet_nil ?_
                    intro w2 hb2
                    go_wp2
                    go_ret
                    exact ⟨Lg.ret_int F.out, hb2⟩
                  | false =>
                    rw [hx] at BL
                    have F := Lib.hid (MN.out hx)
                    clear hx MN MB
                    obtain ⟨x, ex⟩ : ∃ x, x = l[k].p := ⟨_, rfl⟩
                    obtain ⟨y, ey⟩ : ∃ y, y = l[m].p := ⟨_, rfl⟩
                    rw [← ex, ← ey] at BL
                    rw [← ex] at dk
                    rw [← ey] at dm
                    clear ex ey
                    go_wp2_with (fail)
                    refine wp_region_cls (C := fun w' => Below w.heap.size w w') (by kernel_rfl) (by kernel_rfl) hb.drew ?_
                    repeat (first | go_big_quiet_skip | quiet_step (first | (intro _; rfl) | (intro _; rw [if_neg (by omega)]; exact ⟨rfl, rfl⟩) | (intro hss; (first | rw [dk _ hss] | rw [dm _ hss]); exact ⟨rfl, rfl⟩) | (intro hss; go_at_call 104; (with_reducible refine (BL.out _).mono ?_); rintro e w4 ⟨rfl, rfl⟩; exact ⟨rfl, hss⟩)))
                    refine wpQuiet_nil ?_
                    intro w2 hb2
                    go_wp2
                    go_roundw
                    case rel => exact ⟨m + 1, by go_num, by omega, F.out, hb2⟩
                    case measure => simp [intOf]; omega
                · obtain rfl : m = l.length := by omega
                  have F := Lib.hid (NX.out HO.out HI.out)
                  go_wp2_with (fail)
                  go_roundw
                  case rel => exact ⟨k + 1, by go_num, by omega, F.out, hb⟩
                  case measure => simp [intOf]; omega
            · obtain ⟨q, hq⟩ : ∃ q, q = k - 1 := ⟨_, rfl⟩
              have hlp : q < l.length := by omega
              obtain ⟨ad', ead, had', p0, p1⟩ := Fls.at_ (RD.out _ hb) hlp
              obtain rfl : ad = ad' := Option.some.inj ead
              have dp : ∀ w', Below w.heap.size w w' → w'.cell? (ad.add (q * 2)) = some (.string l[q].p) := fun w' h => ((h.cell (by rw [block_of_add]; exact had))).trans (((hb.cell (by rw [block_of_add]; exact had)).symm).trans p0)
              have iv : IntKind.i64.wrap ((k : Int) - 1) = (q : Int) := by rw [show ((k : Int) - 1) = q by omega]; exact IntWalk.i64_in _ (by omega)
              have i0 : (q : Int) < (l.length : Int) := by omega
              have j0 : (0 : Int) < (k : Int) := by omega
              have j2 : decide (0 < k) = true := decide_eq_true (by omega)
              have ho2 : l[k - 1]'(by omega) = l[q] := by subst hq; rfl
              clear p0 p1 had' ead
              by_cases ho : tl l[q].p < tl l[k].p
              · have o1 := lt_op (a := l[q].p) (b := l[k].p) ho
                obtain ⟨x, ex⟩ : ∃ x, x = l[k].p := ⟨_, rfl⟩
                obtain ⟨y, ey⟩ : ∃ y, y = l[q].p := ⟨_, rfl⟩
                rw [← ex, ← ey] at o1
                have HO := Lib.hid (show ∀ h : 0 < k, tl (l[k - 1]'(Nat.lt_of_le_of_lt (Nat.sub_le k 1) hlt)).p < tl l[k].p from fun _ => by rw [ho2]; exact ho)
                clear hk0 hq ho2 ho
                have dk0 := dk
                rw [← ex] at dk
                rw [← ey] at dp
                clear ex ey
                go_wp2_with (fail)
                refine wp_region_cls (C := fun w' => Below w.heap.size w w') (by kernel_rfl) (by kernel_rfl) hb.drew ?_
                repeat (first | go_big_quiet_skip | quiet_step (first | (intro _; rfl) | (intro _; rw [if_neg (by omega)]; exact ⟨rfl, rfl⟩) | (intro hss; (first | rw [dk _ hss] | rw [dp _ hss]); exact ⟨rfl, rfl⟩)))
                refine wpQuiet_nil ?_
                intro w2 hb2
                go_wp2
                clear dk
                have dk := dk0
                clear dk0 dp o1
                go_loopw [5] (fun i W => ∃ m : Nat, i = .int .i64 m ∧ m ≤ l.length ∧ RIn l l[k].p m ∧ Below w.heap.size w W) (fun i _ => l.length - (intOf i).toNat)
                case atStart => exact ⟨0, rfl, by omega, fun j _ h => by omega, hb2⟩
                case round =>
                  obtain ⟨m, rfl, hm, hin, hb⟩ := hrel
                  have HI := Lib.hid hin
                  clear hin
                  by_cases hmt : m < l.length
                  · have hmI : (m : Int) < (l.length : Int) := by omega
                    obtain ⟨ad', ead, _, e0, _⟩ := Fls.at_ (RD.out _ hb) hmt
                    obtain rfl : ad = ad' := Option.some.inj ead
                    have dm : ∀ w', Below w.heap.size w w' → w'.cell? (ad.add (m * 2)) = some (.string l[m].p) := fun w' h => ((h.cell (by rw [block_of_add]; exact had))).trans (((hb.cell (by rw [block_of_add]; exact had)).symm).trans e0)
                    have MN := Lib.hid (fun h => RIn.next hmt HI.out h)
                    have MB := Lib.hid (TC.out m hmt)
                    have BL : Hid (∀ V, Calls Tryz.prog 104 #[.string l[k].p, .string l[m].p] V fun e w' => e = .returned (.bool (belowB (tl l[k].p) (tl l[m].p)).isSome) ∧ V = w') := Lib.hid fun V => rbelow_any l[k].p l[m].p (SY.out _ (List.getElem_mem hmt)) V
                    clear e0 ead
                    cases hx : (belowB (tl l[k].p) (tl l[m].p)).isSome with
                    | true =>
                      rw [hx] at BL
                      have F := Lib.hid (MB.out hx)
                      clear hx MN MB HO NX TC TO HI
                      generalize l[k] = x at *
                      generalize l[m] = y at *
                      go_wp2_with (fail)
                      refine wp_region_cls (C := fun w' => Below w.heap.size w w') (by kernel_rfl) (by kernel_rfl) hb.drew ?_
                      repeat (first | go_big_quiet_skip | quiet_step (first | (intro _; rfl) | (intro _; rw [if_neg (by omega)]; exact ⟨rfl, rfl⟩) | (intro hss; (first | rw [dk _ hss] | rw [dm _ hss]); exact ⟨rfl, rfl⟩) | (intro hss; go_at_call 104; (with_reducible refine (BL.out _).mono ?_); rintro e w4 ⟨rfl, rfl⟩; exact ⟨rfl, hss⟩)))
                      refine wpQuiet_nil ?_
                      intro w2 hb2
                      go_wp2
                      go_ret
                      exact ⟨Lg.ret_int F.out, hb2⟩
                    | false =>
                      rw [hx] at BL
                      have F := Lib.hid (MN.out hx)
                      clear hx MN MB
                      obtain ⟨x, ex⟩ : ∃ x, x = l[k].p := ⟨_, rfl⟩
                      obtain ⟨y, ey⟩ : ∃ y, y = l[m].p := ⟨_, rfl⟩
                      rw [← ex, ← ey] at BL
                      rw [← ex] at dk
                      rw [← ey] at dm
                      clear ex ey
                      go_wp2_with (fail)
                      refine wp_region_cls (C := fun w' => Below w.heap.size w w') (by kernel_rfl) (by kernel_rfl) hb.drew ?_
                      repeat (first | go_big_quiet_skip | quiet_step (first | (intro _; rfl) | (intro _; rw [if_neg (by omega)]; exact ⟨rfl, rfl⟩) | (intro hss; (first | rw [dk _ hss] | rw [dm _ hss]); exact ⟨rfl, rfl⟩) | (intro hss; go_at_call 104; (with_reducible refine (BL.out _).mono ?_); rintro e w4 ⟨rfl, rfl⟩; exact ⟨rfl, hss⟩)))
                      refine wpQuiet_nil ?_
                      intro w2 hb2
                      go_wp2
                      go_roundw
                      case rel => exact ⟨m + 1, by go_num, by omega, F.out, hb2⟩
                      case measure => simp [intOf]; omega
                  · obtain rfl : m = l.length := by omega
                    have F := Lib.hid (NX.out HO.out HI.out)
                    go_wp2_with (fail)
                    go_roundw
                    case rel => exact ⟨k + 1, by go_num, by omega, F.out, hb⟩
                    case measure => simp [intOf]; omega
              · have F := Lib.hid (TO.out (by omega) (by rw [ho2]; exact ho))
                have o1 := nlt_op (a := l[q].p) (b := l[k].p) ho
                clear NX TC TO ho ho2 hq hk0
                generalize l[k] = x at *
                generalize l[q] = y at *
                go_wp2_with (fail)
                refine wp_region_cls (C := fun w' => Below w.heap.size w w') (by kernel_rfl) (by kernel_rfl) hb.drew ?_
                repeat (first | go_big_quiet_skip | quiet_step (first | (intro _; rfl) | (intro _; rw [if_neg (by omega)]; exact ⟨rfl, rfl⟩) | (intro hss; (first | rw [dk _ hss] | rw [dp _ hss]); exact ⟨rfl, rfl⟩)))
                refine wpQuiet_nil ?_
                intro w2 hb2
                go_wp2
                go_ret
                exact ⟨Lg.ret_int F.out, hb2⟩
          · obtain rfl : k = l.length := by omega
            have F := Lib.hid (GO.out (RSing.all HC.out))
            go_wp2_with (fail)
            go_ret
            exact ⟨Lg.ret_int F.out, hb⟩
end Go.Proofs.YtlndnpfjneeeeaaGreatDoor.Fs
/- FsSame3, what a claim needs of it (prune.py). -/
namespace Go.Proofs.YtlndnpfjneeeeaaGreatDoor.Fs
open Go.RowKit
set_option linter.unusedVariables false
set_option maxRecDepth 100000
theorem bdn {B : Nat} {w w' : World} (h : Below B w w') (n : Nat) : Below B w (w'.drewN n) := ⟨h.os, h.tape, h.output, h.size, h.block⟩
def EqTo (l m : List Fl) (k : Nat) : Prop := ∀ j (hj : j < l.length) (hm : j < m.length), j < k → l[j] = m[j]
theorem EqTo.next {l m : List Fl} {k : Nat} (hk : k < l.length) (hm : k < m.length) (h : EqTo l m k) (h1 : l[k] = m[k]) : EqTo l m (k + 1) := fun j hj hjm hjk => by
  rcases Nat.lt_or_ge j k with h2 | h2
  · exact h j hj hjm h2
  · obtain rfl : j = k := by omega
    exact h1
theorem EqTo.all {l m : List Fl} (he : l.length = m.length) (h : EqTo l m l.length) : l = m := List.ext_getElem he fun j hj hm => h j hj hm hj
set_option maxHeartbeats 2000000 in
theorem rsameF_any (A F : Option Addr) (l m : List Fl) (c d : Nat) (w : World) (hl : l.length ≤ 1000000000) (hm : m.length ≤ 1000000000) (hr : Fls w A l) (hq : Fls w F m) :
    Calls Tryz.prog 10 #[.slice A l.length c, .slice F m.length d] w fun e w' => e = .returned (.bool (decide (l = m))) ∧ Below w.heap.size w w' := by
  by_cases he : l.length = m.length
  · have i0 : ((l.length : Int) != (m.length : Int)) = false := by rw [he]; simp
    have RD := Lib.hid hr
    have RQ := Lib.hid hq
    have HE := Lib.hid he
    clear hr hq
    go_enter Tryz.func10, Tryz.ntmps10
    go_wp2_with (fail)
    go_loopw [5] (fun i wx => ∃ k : Nat, i = .int .i64 k ∧ k ≤ l.length ∧ EqTo l m k ∧ Below w.heap.size w wx) (fun i _ => l.length - (intOf i).toNat)
    case atStart => exact ⟨0, rfl, by omega, fun j _ _ h => by omega, Below.refl _ _⟩
    case round =>
      obtain ⟨k, rfl, hk, hq, hb⟩ := hrel
      have HQ := Lib.hid hq
      clear hq
      by_cases hlt : k < l.length
      · have hltm : k < m.length := by omega
        obtain ⟨ad, rfl, had, c0, c1⟩ := Fls.at_ RD.out hlt
        obtain ⟨bd, rfl, hbd, d0, d1⟩ := Fls.at_ RQ.out hltm
        have e0 : ∀ w', Below w.heap.size w w' → w'.cell? (ad.add (k * 2)) = some (.string l[k].p) := fun w' h => (h.cell (by rw [block_of_add]; exact had)).trans c0
        have e1 : ∀ w', Below w.heap.size w w' → w'.cell? ⟨(ad.add (k * 2)).block, (ad.add (k * 2)).off + 1, none⟩ = some (.string l[k].d) := fun w' h => (h.cell (by show (ad.add (k * 2)).block < _; rw [block_of_add]; exact had)).trans c1
        have g0 : ∀ w', Below w.heap.size w w' → w'.cell? (bd.add (k * 2)) = some (.string m[k].p) := fun w' h => (h.cell (by rw [block_of_add]; exact hbd)).trans d0
        have g1 : ∀ w', Below w.heap.size w w' → w'.cell? ⟨(bd.add (k * 2)).block, (bd.add (k * 2)).off + 1, none⟩ = some (.string m[k].d) := fun w' h => (h.cell (by show (bd.add (k * 2)).block < _; rw [block_of_add]; exact hbd)).trans d1
        have hkI : (k : Int) < (l.length : Int) := by omega
        have hkM : (k : Int) < (m.length : Int) := by omega
        have x0 := e0 _ hb
        have x1 := e1 _ hb
        have y0 := g0 _ hb
        have y1 := g1 _ hb
        have NX := Lib.hid (fun h => EqTo.next hlt hltm HQ.out h)
        have NE : Hid (l[k] ≠ m[k] → decide (l = m) = false) := Lib.hid fun h => decide_eq_false fun e => h (by subst e; rfl)
        clear c0 c1 d0 d1 e0 e1 g0 g1 he i0
        generalize l[k] = f at *
        generalize m[k] = g at *
        by_cases hp : f.p = g.p
        · by_cases hd : f.d = g.d
          · have F := Lib.hid (NX.out (by cases f; cases g; simp only at hp hd; rw [hp, hd]))
            rw [← hp] at y0
            rw [← hd] at y1
            clear hp hd NE NX
            go_wp2_with (fail)
            go_quiet (fail)
            go_wp2
            go_roundw
            case rel => exact ⟨k + 1, by go_num, by omega, F.out, bdn hb _⟩
            case measure => simp [intOf]; omega
          · have F := Lib.hid (NE.out (fun e => hd (by rw [e])))
            have s1 := Lg.s_ne hd
            rw [← hp] at y0
            clear hp hd NE NX
            go_wp2_with (fail)
            go_quiet (fail)
            go_wp2
            go_ret
            exact ⟨Lg.ret_bool F.out, bdn hb _⟩
        · have F := Lib.hid (NE.out (fun e => hp (by rw [e])))
          have s1 := Lg.s_ne hp
          clear hp NE NX
          go_wp2_with (fail)
          go_quiet (fail)
          go_wp2
          go_ret
          exact ⟨Lg.ret_bool F.out, bdn hb _⟩
      · obtain rfl : k = l.length := by omega
        have F : Hid (decide (l = m) = true) := Lib.hid (decide_eq_true (EqTo.all HE.out HQ.out))
        go_wp2_with (fail)
        go_ret
        exact ⟨Lg.ret_bool F.out, hb⟩
  · have i0 : ((l.length : Int) != (m.length : Int)) = true := by
      rw [bne_iff_ne]
      omega
    have F : Hid (decide (l = m) = false) := Lib.hid (decide_eq_false fun e => he (by rw [e]))
    clear he hr hq
    go_enter Tryz.func10, Tryz.ntmps10
    go_wp2_with (fail)
    go_ret
    exact ⟨Lg.ret_bool F.out, Below.refl _ _⟩
end Go.Proofs.YtlndnpfjneeeeaaGreatDoor.Fs
/- FsTexts, what a claim needs of it (prune.py). -/
namespace Go.Proofs.YtlndnpfjneeeeaaGreatDoor.Fs
open Go.ChangeShapes Go.WideShapes Go.Deep Go.RowKit Go.ChangeMaps
set_option linter.unusedVariables false
set_option maxRecDepth 100000
section
variable {H : Type} {enc : TypeId × Value → H} {W : World}
theorem texts_of {n : Nat} {v : Value} {y : DataW H × List MemPlace} (h : DataW.trod enc Tryz.prog W 0 (fun _ => true) true n 22 [v] = some y) :
    ∃ A ss c, v = .slice A (List.length ss) c ∧ Lg.Strs W A ss ∧ ss.length ≤ maxLen ∧ (∀ s ∈ ss, s.size ≤ maxLen) ∧ ss.length ≤ c := by
  rcases open_strings Tryz.underlying22 Tryz.underlying9 (by kernel_rfl) h with ⟨h0, _⟩ | ⟨a, len, cap, ss, hcs, hb, hl, hm, hlen, hx, hc, hs⟩
  · refine ⟨none, [], 0, by injection h0, Reads.none_, by simp, (fun s hs => by cases hs), by simp⟩
  · have hlen' : ss.length = cap := by simpa using hlen
    have hvv : v = .slice (some a) len cap := by injection hcs
    refine ⟨some a, ss.take len, cap, ?_, ⟨by simp, fun h0 => ⟨a, rfl, ?_, fun j u hu => ?_⟩⟩, by simp; omega, fun s h => hs s (List.mem_of_mem_take h), by simp; omega⟩
    · rw [List.length_take, Nat.min_eq_left (by omega)]; exact hvv
    · have hh := lt_of_cell (hc 0 (by simp at h0; omega))
      rw [block_of_add] at hh
      exact hh
    · simp only [List.getElem?_map, Option.map_eq_some_iff] at hu
      obtain ⟨x, hx1, rfl⟩ := hu
      rw [List.getElem?_take] at hx1
      split at hx1
      · obtain ⟨hj, he⟩ := List.getElem?_eq_some_iff.1 hx1
        rw [hc j hj, List.getD_eq_getElem?_getD, hx1]
        rfl
      · cases hx1
theorem open_texts {r : Reach} {b0 : Nat} {v : Value} {d : DataW H} {p : List MemPlace} (hv : Value.okWide Tryz.prog W r b0 22 v) (h : DataW.Trod enc Tryz.prog W 0 (fun _ => true) true 22 v d p) :
    ∃ A l c, v = .slice A (List.length l) c ∧ Lg.Strs W A l ∧ l.length ≤ maxLen ∧ ∀ s ∈ l, s.size ≤ maxLen := by
  obtain ⟨a0, len0, cap0, rfl⟩ := okWide_slice Tryz.underlying22 hv
  obtain ⟨fuel, hf⟩ := h
  obtain ⟨A, l, c, e, h1, h2, h3, _⟩ := texts_of hf
  exact ⟨A, l, c, e, h1, h2, h3⟩
end
end Go.Proofs.YtlndnpfjneeeeaaGreatDoor.Fs
