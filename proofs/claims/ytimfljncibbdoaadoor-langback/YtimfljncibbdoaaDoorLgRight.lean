/- The contract of lang.Right; the numbers of a parse are Go's own. -/
import Derived.Test.YtimfljncibbdoaaDoorLgPrLaw
import Derived.Test.YtimfljncibbdoaaDoorLgLsame
import Derived.Test.YtimfljncibbdoaaDoorLgLines
namespace Go.Proofs.YtimfljncibbdoaaDoor.Lg
open Go.RowKit
set_option linter.unusedVariables false
set_option maxRecDepth 100000
theorem numL_nil : numL [] := by rw [numL]; trivial
theorem numL_cons {o n : Int} {a : List B} {b r : List Stp} : numL (⟨o, a, n, b⟩ :: r) ↔ (-9223372036854775808 ≤ n ∧ n ≤ 9223372036854775807) ∧ numL b ∧ numL r := by rw [numL]
theorem numL_app2 : ∀ {a b : List Stp}, numL a → numL b → numL (a ++ b)
  | [], b, _, h => h
  | ⟨_, _, _, c⟩ :: r, b, h, k => by
    rw [numL_cons] at h
    rw [List.cons_append, numL_cons]
    exact ⟨h.1, h.2.1, numL_app2 (a := r) h.2.2 k⟩
theorem mach_num : ∀ (lines : List B) (fs : List Frame) (cur : List Stp) (m : List Stp) (r : List B), (∀ f ∈ fs, numL f.out ∧ -9223372036854775808 ≤ f.n ∧ f.n ≤ 9223372036854775807) → numL cur → mach fs cur lines = .ok m r → numL m
  | [], fs, cur, m, r, hf, hc, h => by
    rw [mach_nil] at h
    cases fs with
    | nil => cases h; exact hc
    | cons f fs => cases h
  | line :: rest, fs, cur, m, r, hf, hc, h => by
    rw [mach_cons] at h
    by_cases he : line = endW
    · rw [if_pos he] at h
      cases fs with
      | nil => cases h
      | cons f fs =>
        have h1 := hf f (List.mem_cons_self ..)
        exact mach_num rest fs _ m r (fun g hg => hf g (List.mem_cons_of_mem _ hg)) (numL_app2 h1.1 (numL_cons.2 ⟨h1.2, hc, numL_nil⟩)) h
    · rw [if_neg he] at h
      cases hs : stepOf line with
      | none => rw [hs] at h; cases h
      | some x =>
        obtain ⟨op, args, n⟩ := x
        obtain ⟨_, _, h1, h2, _⟩ := stepOf_says hs
        rw [hs] at h
        simp only at h
        by_cases ho : op = 9 ∨ op = 10
        · rw [if_pos ho] at h
          by_cases hd : 4 ≤ fs.length
          · rw [if_pos hd] at h; cases h
          · rw [if_neg hd] at h
            refine mach_num rest _ _ m r (fun g hg => ?_) numL_nil h
            rcases List.mem_cons.1 hg with rfl | hg
            · exact ⟨hc, by show -9223372036854775808 ≤ n; omega, by show n ≤ 9223372036854775807; omega⟩
            · exact hf g hg
        · rw [if_neg ho] at h
          exact mach_num rest fs _ m r hf (numL_app2 hc (numL_cons.2 ⟨⟨by omega, by omega⟩, numL_nil, numL_nil⟩)) h
theorem parse_num {cmd : B} {m : List Stp} {k : Nat} (h : parse cmd = (m, k)) : numL m := by
  by_cases hk : k = 0
  · subst hk
    rcases parse_ok h with ⟨_, rfl⟩ | ⟨_, _, _, r, hb⟩
    · exact numL_nil
    · rw [← mach_bk] at hb
      exact mach_num _ [] [] m r (by simp) numL_nil hb
  · have := parse_no (cmd := cmd) (by rw [h]; exact hk)
    rw [h] at this
    simp only at this
    subst this
    exact numL_nil
/-- what is wrong with steps -/
def rightE (l : List Stp) : Nat := if (parse (print l)).2 = 0 ∧ sameL (parse (print l)).1 l = false then 20 else (parse (print l)).2
theorem right_ok {l : List Stp} (h : rightE l = 0) : parse (print l) = (l, 0) := by
  unfold rightE at h
  split at h
  · omega
  · next h1 =>
    have h2 : sameL (parse (print l)).1 l = true := by
      cases e : sameL (parse (print l)).1 l with
      | true => rfl
      | false => exact absurd ⟨h, e⟩ h1
    have h3 := sameL_eq h2
    exact Prod.ext h3 h
theorem right_parse {cmd : B} {m : List Stp} (h : parse cmd = (m, 0)) : rightE m = 0 := by
  have hp := parse_print h
  unfold rightE
  rw [hp, h]
  simp [sameL_refl]
/-- lang.Parse of any text -/
theorem parse_all {cmd : ByteArray} {m : List Stp} {k : Nat} (h : parse (tl cmd) = (m, k)) (w : World) (hE : Env w) :
    Calls Tryd.prog 8 #[.string cmd] w fun e w' => (∃ A n c, e = .returned (.tuple #[.slice A n c, .int .i64 k]) ∧ n ≤ c ∧ StepsAt w' (fun b => w.heap.size ≤ b) A n m) ∧ Below w.heap.size w w' := by
  by_cases hbig : 8192 < cmd.size
  · have hI : (8192 : Int) < (cmd.size : Int) := by omega
    have R : parse (tl cmd) = ([], 15) := by rw [parse, if_pos (by rw [tl_len]; exact hbig)]
    rw [h] at R
    cases R
    clear hbig h
    go_enter Tryd.func8, Tryd.ntmps8
    go_wp2_with (fail)
    go_ret2
    exact ⟨⟨none, 0, 0, rfl, Nat.le_refl _, rfl, [], Lies.none_, .nil⟩, Below.refl _ _⟩
  · exact parse_of h (by omega) w hE
set_option maxHeartbeats 2000000 in
theorem lright_any (l : List Stp) (A : Option Addr) (n cp : Nat) (w : World) (ok : Nat → Prop) (hr : StepsAt w ok A n l) (hn : numL l) (hl : (print l).length ≤ 4000000) (hE : Env w) :
    Calls Tryd.prog 14 #[.slice A n cp] w fun e w' => e = .returned (.int .i64 (rightE l)) ∧ Below w.heap.size w w' := by
  have EV := Lib.hid (fun W (h : Below w.heap.size w W) => hE.below h)
  have SR := Lib.hid (fun W (h : Below w.heap.size w W) => hr.below h)
  have PR := Lib.hid (print_any _ l (Nat.le_refl _) hn hl A n cp w ok hE hr)
  have PL := Lib.hid (fun (m : List Stp) k (h : parse (tl (bs (print l))) = (m, k)) => parse_len h)
  rcases pa : parse (print l) with ⟨m, k⟩
  have PA := Lib.hid (fun W hE' => parse_all (cmd := bs (print l)) (w := W) pa hE')
  have hml := PL.out m k pa
  rw [bs_size] at hml
  clear hE hr PL
  by_cases hk : k = 0
  · subst hk
    cases hs : sameL m l
    · have R : Hid (rightE l = 20) := Lib.hid (by unfold rightE; rw [pa]; simp [hs])
      have LS : Hid (∀ W A1 n1 c1 ok1, Below w.heap.size w W → StepsAt W ok1 A1 n1 m → Calls Tryd.prog 30 #[.slice A1 n1 c1, .slice A n cp] W fun e w' => e = .returned (.bool false) ∧ Below W.heap.size W w') := Lib.hid (fun W A1 n1 c1 ok1 hb h1 => by
        rw [← hs]
        exact lsame_any _ m l (Nat.le_refl _) (by omega) (by omega) A1 A n1 n c1 cp W ok1 ok h1 (SR.out W hb))
      clear hs pa
      go_enter Tryd.func14, Tryd.ntmps14
      go_wp2_with (first
        | (go_at_call 12; (with_reducible refine (PR.out).mono ?_); rintro e w1 ⟨rfl, b1⟩)
        | (go_at_call 8; (with_reducible refine (PA.out w1 (EV.out _ b1)).mono ?_); rintro e w2 ⟨⟨A1, n1, c1, rfl, _, s1⟩, b2⟩; have b02 := b1.trans (b2.mono b1.size); have HS1 := Lib.hid s1; clear s1)
        | (go_at_call 30; (with_reducible refine (LS.out _ _ _ _ _ b02 HS1.out).mono ?_); rintro e w3 ⟨rfl, b3⟩))
      go_ret
      exact ⟨by rw [R.out]; rfl, b02.trans (b3.mono b02.size)⟩
    · have R : Hid (rightE l = 0) := Lib.hid (by unfold rightE; rw [pa]; simp [hs])
      have LS : Hid (∀ W A1 n1 c1 ok1, Below w.heap.size w W → StepsAt W ok1 A1 n1 m → Calls Tryd.prog 30 #[.slice A1 n1 c1, .slice A n cp] W fun e w' => e = .returned (.bool true) ∧ Below W.heap.size W w') := Lib.hid (fun W A1 n1 c1 ok1 hb h1 => by
        rw [← hs]
        exact lsame_any _ m l (Nat.le_refl _) (by omega) (by omega) A1 A n1 n c1 cp W ok1 ok h1 (SR.out W hb))
      clear hs pa
      go_enter Tryd.func14, Tryd.ntmps14
      go_wp2_with (first
        | (go_at_call 12; (with_reducible refine (PR.out).mono ?_); rintro e w1 ⟨rfl, b1⟩)
        | (go_at_call 8; (with_reducible refine (PA.out w1 (EV.out _ b1)).mono ?_); rintro e w2 ⟨⟨A1, n1, c1, rfl, _, s1⟩, b2⟩; have b02 := b1.trans (b2.mono b1.size); have HS1 := Lib.hid s1; clear s1)
        | (go_at_call 30; (with_reducible refine (LS.out _ _ _ _ _ b02 HS1.out).mono ?_); rintro e w3 ⟨rfl, b3⟩))
      go_ret
      exact ⟨by rw [R.out]; rfl, b02.trans (b3.mono b02.size)⟩
  · have R : Hid (rightE l = k) := Lib.hid (by unfold rightE; rw [pa]; simp [hk])
    have g1 : ((k : Int) == 0) = false := by simp [hk]
    clear hk pa
    go_enter Tryd.func14, Tryd.ntmps14
    go_wp2_with (first
      | (go_at_call 12; (with_reducible refine (PR.out).mono ?_); rintro e w1 ⟨rfl, b1⟩)
      | (go_at_call 8; (with_reducible refine (PA.out w1 (EV.out _ b1)).mono ?_); rintro e w2 ⟨⟨A1, n1, c1, rfl, _, s1⟩, b2⟩; have b02 := b1.trans (b2.mono b1.size); clear s1))
    go_ret
    exact ⟨by rw [R.out]; rfl, b02⟩
end Go.Proofs.YtimfljncibbdoaaDoor.Lg
