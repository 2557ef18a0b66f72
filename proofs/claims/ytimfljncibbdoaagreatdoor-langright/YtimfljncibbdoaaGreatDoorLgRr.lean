/- LangRight: the contracts of lang.Right and of the reference's Right, and the law's walk. -/
import Derived.Test.YtimfljncibbdoaaGreatDoorLgPrint
import Derived.Test.YtimfljncibbdoaaGreatDoorLgSmall
import Derived.Test.YtimfljncibbdoaaGreatDoorLgAwake
import Derived.Test.YtimfljncibbdoaaGreatDoorLgLsame
import Derived.Test.YtimfljncibbdoaaGreatDoorLgSame
import Derived.Test.YtimfljncibbdoaaGreatDoorLgRp
namespace Go.Proofs.YtimfljncibbdoaaGreatDoor.Lg
open Go.RowKit
set_option linter.unusedVariables false
set_option maxRecDepth 100000
theorem parse_len {cmd : ByteArray} {m : List Stp} {k : Nat} (h : parse (tl cmd) = (m, k)) : m.length ≤ cmd.size ∧ weight m ≤ cmd.size ∧ wide m ≤ cmd.size := by
  have h1 := parse_size h
  have h2 := len_weight m
  rw [tl_len] at h1
  omega
theorem smallTop_any (l : List Stp) (A : Option Addr) (n cp : Nat) (W : World) (ok : Nat → Prop) (hr : StepsAt W ok A n l) :
    Calls Tryz.prog 4 #[.slice A n cp] W fun e W' => ∃ b, e = .returned (.bool b) ∧ Below W.heap.size W W' ∧ (b = true → weight l ≤ 300 ∧ smallL l) := by
  have hr1 : StepsAt (W.alloc (.cells #[.int .i64 (300 : Int)] 3)) (fun b => b ≠ W.heap.size) A n l := hr.mono (fun b _ hs => ⟨by omega, Below.heap_alloc _ _ _ hs⟩)
  have IH : Hid (Calls Tryz.prog 8 #[.slice A n cp, .pointer (some ⟨W.heap.size, 0, none⟩), .int .i64 60] (W.alloc (.cells #[.int .i64 300] 3)) fun e W' => SmSays (W.alloc (.cells #[.int .i64 (300 : Int)] 3)) W' W.heap.size 300 l e) := Lib.hid (small_any 60 (Nat.le_refl _) l A n cp _ W.heap.size 300 hr1 (heap_alloc_new W _) (Nat.le_refl _))
  clear hr hr1
  go_enter Tryz.func4, Tryz.ntmps4
  go_wp2_with (go_at_call 8; (with_reducible refine (IH.out).mono ?_); rintro e w4 ⟨bv, rfl, hb4, hres⟩; have HRES := Lib.hid hres; clear hres)
  go_ret
  refine ⟨bv, rfl, (((Below.refl _ _).alloc (Nat.le_refl _) _).trans (hb4.below (by simp) (Nat.le_refl _))), fun h => ?_⟩
  obtain ⟨k, _, hw, hs⟩ := HRES.out h
  exact ⟨by omega, hs⟩
/-- what is wrong with steps -/
def rightE (l : List Stp) : Nat := if (parse (print l)).2 = 0 ∧ sameL (parse (print l)).1 l = false then 20 else (parse (print l)).2
/-- lang.Parse of any text -/
theorem parse_all {cmd : ByteArray} {m : List Stp} {k : Nat} (h : parse (tl cmd) = (m, k)) (w : World) (hE : Env w) :
    Calls Tryz.prog 9 #[.string cmd] w fun e w' => (∃ A n c, e = .returned (.tuple #[.slice A n c, .int .i64 k]) ∧ n ≤ c ∧ StepsAt w' (fun b => w.heap.size ≤ b) A n m) ∧ Below w.heap.size w w' := by
  by_cases hbig : 8192 < cmd.size
  · have hI : (8192 : Int) < (cmd.size : Int) := by omega
    have R : parse (tl cmd) = ([], 15) := by rw [parse, if_pos (by rw [tl_len]; exact hbig)]
    rw [h] at R
    cases R
    clear hbig h
    go_enter Tryz.func9, Tryz.ntmps9
    go_wp2_with (fail)
    go_ret2
    exact ⟨⟨none, 0, 0, rfl, Nat.le_refl _, rfl, [], Lies.none_, .nil⟩, Below.refl _ _⟩
  · exact parse_of h (by omega) w hE
set_option maxHeartbeats 2000000 in
theorem lright_any (l : List Stp) (A : Option Addr) (n cp : Nat) (w : World) (ok : Nat → Prop) (hr : StepsAt w ok A n l) (hn : numL l) (hl : (print l).length ≤ 4000000) (hE : Env w) :
    Calls Tryz.prog 5 #[.slice A n cp] w fun e w' => e = .returned (.int .i64 (rightE l)) ∧ Below w.heap.size w w' := by
  have EV := Lib.hid (fun W (h : Below w.heap.size w W) => hE.below h)
  have SR := Lib.hid (fun W (h : Below w.heap.size w W) => hr.below h)
  have PR := Lib.hid (print_any _ l (Nat.le_refl _) hn hl A n cp w ok hE hr)
  have PL := Lib.hid (fun (m : List Stp) k (h : parse (tl (bs (print l))) = (m, k)) => parse_len h)
  rcases pa : parse (print l) with ⟨m, k⟩
  have PA := Lib.hid (fun W hE' => parse_all (cmd := bs (print l)) (w := W) pa hE')
  have hml := PL.out m k pa
  rw [bs_size] at hml
  clear hE hr PL
  by_cases hk : k = 0
  · subst hk
    cases hs : sameL m l
    · have R : Hid (rightE l = 20) := Lib.hid (by unfold rightE; rw [pa]; simp [hs])
      have LS : Hid (∀ W A1 n1 c1 ok1, Below w.heap.size w W → StepsAt W ok1 A1 n1 m → Calls Tryz.prog 11 #[.slice A1 n1 c1, .slice A n cp] W fun e w' => e = .returned (.bool false) ∧ Below W.heap.size W w') := Lib.hid (fun W A1 n1 c1 ok1 hb h1 => by
        rw [← hs]
        exact lsame_any _ m l (Nat.le_refl _) (by omega) (by omega) A1 A n1 n c1 cp W ok1 ok h1 (SR.out W hb))
      clear hs pa
      go_enter Tryz.func5, Tryz.ntmps5
      go_wp2_with (first
        | (go_at_call 10; (with_reducible refine (PR.out).mono ?_); rintro e w1 ⟨rfl, b1⟩)
        | (go_at_call 9; (with_reducible refine (PA.out w1 (EV.out _ b1)).mono ?_); rintro e w2 ⟨⟨A1, n1, c1, rfl, _, s1⟩, b2⟩; have b02 := b1.trans (b2.mono b1.size); have HS1 := Lib.hid s1; clear s1)
        | (go_at_call 11; (with_reducible refine (LS.out _ _ _ _ _ b02 HS1.out).mono ?_); rintro e w3 ⟨rfl, b3⟩))
      go_ret
      exact ⟨by rw [R.out]; rfl, b02.trans (b3.mono b02.size)⟩
    · have R : Hid (rightE l = 0) := Lib.hid (by unfold rightE; rw [pa]; simp [hs])
      have LS : Hid (∀ W A1 n1 c1 ok1, Below w.heap.size w W → StepsAt W ok1 A1 n1 m → Calls Tryz.prog 11 #[.slice A1 n1 c1, .slice A n cp] W fun e w' => e = .returned (.bool true) ∧ Below W.heap.size W w') := Lib.hid (fun W A1 n1 c1 ok1 hb h1 => by
        rw [← hs]
        exact lsame_any _ m l (Nat.le_refl _) (by omega) (by omega) A1 A n1 n c1 cp W ok1 ok h1 (SR.out W hb))
      clear hs pa
      go_enter Tryz.func5, Tryz.ntmps5
      go_wp2_with (first
        | (go_at_call 10; (with_reducible refine (PR.out).mono ?_); rintro e w1 ⟨rfl, b1⟩)
        | (go_at_call 9; (with_reducible refine (PA.out w1 (EV.out _ b1)).mono ?_); rintro e w2 ⟨⟨A1, n1, c1, rfl, _, s1⟩, b2⟩; have b02 := b1.trans (b2.mono b1.size); have HS1 := Lib.hid s1; clear s1)
        | (go_at_call 11; (with_reducible refine (LS.out _ _ _ _ _ b02 HS1.out).mono ?_); rintro e w3 ⟨rfl, b3⟩))
      go_ret
      exact ⟨by rw [R.out]; rfl, b02.trans (b3.mono b02.size)⟩
  · have R : Hid (rightE l = k) := Lib.hid (by unfold rightE; rw [pa]; simp [hk])
    have g1 : ((k : Int) == 0) = false := by simp [hk]
    clear hk pa
    go_enter Tryz.func5, Tryz.ntmps5
    go_wp2_with (first
      | (go_at_call 10; (with_reducible refine (PR.out).mono ?_); rintro e w1 ⟨rfl, b1⟩)
      | (go_at_call 9; (with_reducible refine (PA.out w1 (EV.out _ b1)).mono ?_); rintro e w2 ⟨⟨A1, n1, c1, rfl, _, s1⟩, b2⟩; have b02 := b1.trans (b2.mono b1.size); clear s1))
    go_ret
    exact ⟨by rw [R.out]; rfl, b02⟩
theorem wide_small : ∀ {l : List Stp}, smallL l → wide l ≤ 20 * weight l
  | [], _ => by simp [wide]
  | ⟨o, a, n, b⟩ :: r, h => by
    rw [smallL_cons] at h
    have h1 := wide_small (l := b) h.2.1
    have h2 := wide_small (l := r) h.2.2
    have h3 := h.1.1
    rw [wide, weight]
    omega
theorem rparse_of {cmd : ByteArray} {m : List Stp} {k : Nat} (h : parse (tl cmd) = (m, k)) (w : World) :
    Calls Tryz.prog 12 #[.string cmd] w fun e w' => (∃ A n c, e = .returned (.tuple #[.slice A n c, .int .i64 k]) ∧ n ≤ c ∧ StepsAt w' (fun _ => True) A n m) ∧ Below w.heap.size w w' := by
  refine (rparse_any cmd w).mono ?_
  rintro e w' ⟨⟨A, n, c, h1, h2, h3⟩, hb⟩
  rw [h] at h1 h3
  exact ⟨⟨A, n, c, h1, h2, h3⟩, hb⟩
theorem sameL_comm {l m : List Stp} : sameL l m = sameL m l := by
  cases h : sameL l m with
  | true =>
    have := sameL_eq h
    subst this
    rw [sameL_refl]
  | false =>
    cases k : sameL m l with
    | false => rfl
    | true =>
      have := sameL_eq k
      subst this
      rw [sameL_refl] at h
      cases h
set_option maxHeartbeats 2000000 in
theorem rright_any (l : List Stp) (A : Option Addr) (n cp : Nat) (w : World) (ok : Nat → Prop) (hr : StepsAt w ok A n l) (hn : numL l) (hl : (print l).length ≤ 4000000) (hw : weight l ≤ 1000000 ∧ wide l ≤ 1000000) :
    Calls Tryz.prog 6 #[.slice A n cp] w fun e w' => e = .returned (.int .i64 (rightE l)) ∧ Below w.heap.size w w' := by
  have SR := Lib.hid (fun W (h : Below w.heap.size w W) => hr.below h)
  have PR := Lib.hid (rprint_any _ l (Nat.le_refl _) hn hl A n cp w ok hr)
  rcases pa : parse (print l) with ⟨m, k⟩
  have PA := Lib.hid (fun W => rparse_of (cmd := bs (print l)) (w := W) pa)
  clear hr
  by_cases hk : k = 0
  · subst hk
    cases hs : sameL m l
    · have R : Hid (rightE l = 20) := Lib.hid (by unfold rightE; rw [pa]; simp [hs])
      have LS : Hid (∀ W A1 n1 c1 ok1, Below w.heap.size w W → StepsAt W ok1 A1 n1 m → Calls Tryz.prog 14 #[.slice A n cp, .slice A1 n1 c1] W fun e w' => e = .returned (.bool false) ∧ Below W.heap.size W w') := Lib.hid (fun W A1 n1 c1 ok1 hb h1 => by
        rw [← hs, ← sameL_comm]
        refine (same_any _ l m (Nat.le_refl _) hw.1 hw.2 A A1 n n1 cp c1 W ok ok1 (SR.out W hb) h1).mono ?_
        rintro e w' ⟨h2, q, rfl⟩
        exact ⟨h2, dn_below W q⟩)
      clear hs pa
      go_enter Tryz.func6, Tryz.ntmps6
      go_wp2_with (first
        | (go_at_call 13; (with_reducible refine (PR.out).mono ?_); rintro e w1 ⟨rfl, b1⟩)
        | (go_at_call 12; (with_reducible refine (PA.out w1).mono ?_); rintro e w2 ⟨⟨A1, n1, c1, rfl, _, s1⟩, b2⟩; have b02 := b1.trans (b2.mono b1.size); have HS1 := Lib.hid s1; clear s1)
        | (go_at_call 14; (with_reducible refine (LS.out _ _ _ _ _ b02 HS1.out).mono ?_); rintro e w3 ⟨rfl, b3⟩; have b03 := b02.trans (b3.mono b02.size)))
      go_ret
      exact ⟨by rw [R.out]; rfl, b03⟩
    · have R : Hid (rightE l = 0) := Lib.hid (by unfold rightE; rw [pa]; simp [hs])
      have LS : Hid (∀ W A1 n1 c1 ok1, Below w.heap.size w W → StepsAt W ok1 A1 n1 m → Calls Tryz.prog 14 #[.slice A n cp, .slice A1 n1 c1] W fun e w' => e = .returned (.bool true) ∧ Below W.heap.size W w') := Lib.hid (fun W A1 n1 c1 ok1 hb h1 => by
        rw [← hs, ← sameL_comm]
        refine (same_any _ l m (Nat.le_refl _) hw.1 hw.2 A A1 n n1 cp c1 W ok ok1 (SR.out W hb) h1).mono ?_
        rintro e w' ⟨h2, q, rfl⟩
        exact ⟨h2, dn_below W q⟩)
      clear hs pa
      go_enter Tryz.func6, Tryz.ntmps6
      go_wp2_with (first
        | (go_at_call 13; (with_reducible refine (PR.out).mono ?_); rintro e w1 ⟨rfl, b1⟩)
        | (go_at_call 12; (with_reducible refine (PA.out w1).mono ?_); rintro e w2 ⟨⟨A1, n1, c1, rfl, _, s1⟩, b2⟩; have b02 := b1.trans (b2.mono b1.size); have HS1 := Lib.hid s1; clear s1)
        | (go_at_call 14; (with_reducible refine (LS.out _ _ _ _ _ b02 HS1.out).mono ?_); rintro e w3 ⟨rfl, b3⟩; have b03 := b02.trans (b3.mono b02.size)))
      go_ret
      exact ⟨by rw [R.out]; rfl, b03⟩
  · have R : Hid (rightE l = k) := Lib.hid (by unfold rightE; rw [pa]; simp [hk])
    have g1 : ((k : Int) != 0) = true := by simp [hk]
    clear hk pa
    go_enter Tryz.func6, Tryz.ntmps6
    go_wp2_with (first
      | (go_at_call 13; (with_reducible refine (PR.out).mono ?_); rintro e w1 ⟨rfl, b1⟩)
      | (go_at_call 12; (with_reducible refine (PA.out w1).mono ?_); rintro e w2 ⟨⟨A1, n1, c1, rfl, _, s1⟩, b2⟩; have b02 := b1.trans (b2.mono b1.size); have HS1 := Lib.hid s1; clear s1))
    go_ret
    exact ⟨by rw [R.out]; rfl, b02⟩
set_option maxHeartbeats 2000000 in
theorem langright_walk (l : List Stp) (A : Option Addr) (n cp : Nat) (w : World) (ok : Nat → Prop) (hr : StepsAt w ok A n l) (hn : numL l) (hE : Env w) :
    Calls Tryz.prog 3 #[.slice A n cp] w fun e w' => e = .returned (.bool true) ∧ Below w.heap.size w w' := by
  have AW := Lib.hid awake_any
  have EV := Lib.hid (fun W (h : Below w.heap.size w W) => hE.below h)
  have SR := Lib.hid (fun W (h : Below w.heap.size w W) => hr.below h)
  have SM := Lib.hid (smallTop_any l A n cp w ok hr)
  have PLN : Hid (weight l ≤ 300 ∧ smallL l → (print l).length ≤ 4000000) := Lib.hid (fun h => by have := print_small h.2 hn; omega)
  have WDT : Hid (weight l ≤ 300 ∧ smallL l → weight l ≤ 1000000 ∧ wide l ≤ 1000000) := Lib.hid (fun h => by have := wide_small h.2; omega)
  have RT := Lib.hid (fun W (h : Below w.heap.size w W) (hs : weight l ≤ 300 ∧ smallL l) => lright_any l A n cp W ok (SR.out W h) hn (PLN.out hs) (EV.out W h))
  have RR := Lib.hid (fun W (h : Below w.heap.size w W) (hs : weight l ≤ 300 ∧ smallL l) => rright_any l A n cp W ok (SR.out W h) hn (PLN.out hs) (WDT.out hs))
  clear hE hr hn
  go_enter Tryz.func3, Tryz.ntmps3
  go_wp2_with (first
    | (go_at_call 4; (with_reducible refine (SM.out).mono ?_); rintro e w1 ⟨bv, rfl, b1, hs⟩; have HS := Lib.hid hs; clear hs; rcases bv with _ | _)
    | (go_at_call 5; (with_reducible refine (RT.out w1 b1 (HS.out (by simp))).mono ?_); rintro e w2 ⟨rfl, b2⟩; have b02 := b1.trans (b2.mono b1.size))
    | (go_at_call 6; (with_reducible refine (RR.out w2 b02 (HS.out (by simp))).mono ?_); rintro e w3 ⟨rfl, b3⟩; have b03 := b02.trans (b3.mono b02.size))
    | (go_at_call 7; first
      | ((with_reducible refine (AW.out _ (EV.out _ b03)).mono ?_); rintro e w7 ⟨rfl, b7⟩; have b07 := b03.trans (b7.mono b03.size))
      | ((with_reducible refine (AW.out _ (EV.out _ b1)).mono ?_); rintro e w7 ⟨rfl, b7⟩; have b07 := b1.trans (b7.mono b1.size))))
  all_goals
    go_ret
    exact ⟨rfl, b07⟩
theorem langright_law (A : Option Addr) (n cp : Nat) (l : List Stp) {w : World} (hr : StepsAt w (fun _ => True) A n l) (hn : numL l) (W : World) (hE : Env w) : Calls Tryz.prog 3 #[.slice A n cp] w fun e w' => e = .returned (.bool true) ∧ Below w.heap.size w w' := langright_walk l A n cp w _ hr hn hE
end Go.Proofs.YtimfljncibbdoaaGreatDoor.Lg
