/- What BoxRight needs besides: BxLaw3, BxLaw4, and what prune.py had left away for BoxNeeds. -/
import Derived.Test.YtnheahologecfaaGreatDoorMd36
import Derived.Deep.RegionHeld3
namespace Go.Proofs.YtnheahologecfaaGreatDoor.Lg
set_option linter.unusedVariables false
theorem split_two (c : UInt8) : ∀ a b, splitB c (a ++ c :: b) = splitB c a ++ splitB c b
  | [], b => by simp [splitB]
  | x :: a, b => by
    rw [List.cons_append, splitB, splitB, split_two c a b]
    split
    · rfl
    · cases e : splitB c a with
      | nil => exact absurd e (splitB_ne c a)
      | cons h t => rfl
end Go.Proofs.YtnheahologecfaaGreatDoor.Lg
namespace Go.Proofs.YtnheahologecfaaGreatDoor.Bx
open Fs (B belowB under checkE badF Twice)
set_option linter.unusedVariables false
theorem lt_cut : ∀ (p : B) {a b : B}, p ++ a < p ++ b → a < b
  | [], a, b, h => h
  | c :: p, a, b, h => by
    rw [List.cons_append, List.cons_append, List.cons_lt_cons_iff] at h
    rcases h with h | ⟨_, h⟩
    · exact absurd h (by simp)
    · exact lt_cut p h
theorem path_cut {p r : B} (h : Lg.pathOk (p ++ 47 :: r) = true) (hr : r ≠ []) : Lg.pathOk r = true := by
  unfold Lg.pathOk at h ⊢
  rw [Lg.split_two] at h
  simp only [Bool.and_eq_true, decide_eq_true_eq, List.all_append, List.length_append, List.length_cons] at h ⊢
  refine ⟨⟨?_, by omega⟩, h.2.2⟩
  cases r with
  | nil => exact absurd rfl hr
  | cons c r => simp
theorem under_rightF {l : List Fl} (h : RightF l) (p : B) : RightF (under l p) := by
  refine ⟨fun f hf => ?_, Nat.le_trans (Fs.under_len l p) h.len, ?_, fun a ha b hb => ?_⟩
  · obtain ⟨g, hg, r, hr, rfl⟩ := Fs.mem_under hf
    obtain ⟨e, hne⟩ := below_is hr
    have h1 := h.each g hg
    rw [e] at h1
    exact ⟨path_cut h1.1 hne, h1.2⟩
  · unfold Fs.under
    rw [List.pairwise_filterMap]
    refine h.up.imp fun {a b} hab x hx y hy => ?_
    obtain ⟨r, hr, rfl⟩ := Option.map_eq_some_iff.1 hx
    obtain ⟨q, hq, rfl⟩ := Option.map_eq_some_iff.1 hy
    rw [(below_is hr).1, (below_is hq).1] at hab
    have := lt_cut p hab
    exact lt_cut [47] this
  · obtain ⟨g, hg, r, hr, rfl⟩ := Fs.mem_under ha
    obtain ⟨k, hk, q, hq, rfl⟩ := Fs.mem_under hb
    have h1 := h.apart g hg k hk
    rw [(below_is hr).1, (below_is hq).1] at h1
    cases e : (belowB (tl (bs r)) (tl (bs q))).isSome with
    | false => rfl
    | true =>
      obtain ⟨t, ht, e2⟩ := below_some.1 e
      have e2 : r = q ++ 47 :: t := e2
      have : (belowB (p ++ 47 :: r) (p ++ 47 :: q)).isSome = true := below_some.2 ⟨t, ht, by rw [e2]; simp⟩
      rw [h1] at this
      cases this
theorem under_right {l : List Fl} (h : checkE l = 0) (p : B) : checkE (under l p) = 0 := right_iff.2 (under_rightF (right_iff.1 h) p)
end Go.Proofs.YtnheahologecfaaGreatDoor.Bx
namespace Go.Proofs.YtnheahologecfaaGreatDoor.Bx
open Lg (Stp pathOk nameOk textOk stepW stepOf blk bk parse Res)
open Fs (B)
set_option linter.unusedVariables false
theorem rightS_needs : ∀ {l : List Stp}, rightS l → needsQ (fun s => nameOk s = true) l
  | [], _ => by rw [needsQ]; trivial
  | ⟨o, a, n, b⟩ :: r, h => by
    rw [rightS] at h
    rw [needsQ]
    refine ⟨fun e => ?_, rightS_needs h.2.1, rightS_needs h.2.2⟩
    have hs := h.1
    unfold StepR at hs
    subst e
    have : a.length = 1 ∧ a.all nameOk = true := by
      rcases hs with h | h | h | h | h | h | h
      · exact absurd h.1 (by decide)
      · exact absurd h.1 (by decide)
      · exact absurd h.1 (by decide)
      · rcases h.1 with k | k | k | k <;> exact absurd k (by decide)
      · exact h.2
      · exact absurd h.1 (by decide)
      · exact absurd h.1 (by decide)
    match a, this with
    | [x], this => simpa using this.2
end Go.Proofs.YtnheahologecfaaGreatDoor.Bx
/- BxLaw3, what a claim needs of it (prune.py). -/
namespace Go.Proofs.YtnheahologecfaaGreatDoor.Bx
open Go.RowKit
open Lg (StepsAt Stp numL rightE nameOk nameE)
open Fs (fc fc_len fc_cell Fls B checkE)
set_option linter.unusedVariables false
theorem right_bad {l : List Stp} {fs : List Fl} {names : List B} {f : Int} (h : rightE l ≠ 0 ∨ checkE fs ≠ 0 ∨ f < 1 ∨ 2000 < f) : (outcome l fs names f).kind = 3 ∧ (outcome l fs names f).err ≠ 0 ∧ (outcome l fs names f).used = 0 := by
  unfold outcome
  by_cases h1 : rightE l ≠ 0
  · rw [if_pos h1]
    exact ⟨rfl, by show (rightE l : Int) ≠ 0; omega, rfl⟩
  · rw [if_neg h1, if_pos (by omega)]
    exact ⟨rfl, by show (1 : Int) ≠ 0; decide, rfl⟩
def GoodO (o : Out) (names : List B) : Prop :=
  (o.kind = 1 ∧ o.err = 0 ∧ o.need = [] ∧ o.text = [] ∧ checkE o.files = 0) ∨ (o.kind = 2 ∧ (∀ x ∈ names, x ≠ o.need) ∧ o.err = 0 ∧ nameE o.need = 0 ∧ o.files = [] ∧ 1 ≤ o.used) ∨ (o.kind = 3 ∧ o.err ≠ 0 ∧ o.need = [] ∧ o.files = [] ∧ 1 ≤ o.used)
theorem right_good {l : List Stp} {fs : List Fl} {names : List B} {f : Int} (h1 : rightE l = 0) (h2 : checkE fs = 0) (h3 : 1 ≤ f) (h4 : f ≤ 2000) :
    0 ≤ (outcome l fs names f).used ∧ (outcome l fs names f).used ≤ f ∧ GoodO (outcome l fs names f) names := by
  have hu := run_used l fs names f.toNat
  have hq : needsQ (fun s => nameOk s = true) l := by
    have := parse_right (cmd := Lg.print l)
    rw [Lg.right_ok h1] at this
    exact rightS_needs this
  have hf := run_fine (names := names) (up := upB) (so := soB) (fu := f.toNat) (by omega) hq (right_iff.1 h2)
  have hl : Lack names (run withF withoutF names upB soB f.toNat l fs) := all_lacks l (start fs) rfl
  rw [outcome_good h1 h2 ⟨h3, h4⟩]
  generalize run withF withoutF names upB soB f.toNat l fs = s at *
  refine ⟨by rw [ended_used]; omega, by rw [ended_used]; omega, ?_⟩
  unfold ended
  by_cases ho : over s = true
  · rw [if_pos ho]
    rcases hf.shape with h | h | h
    · exact absurd (show over s = false by unfold over; rw [h.1]; rfl) (by rw [ho]; decide)
    · refine .inr (.inl ⟨by show (s.kind : Int) = 2; omega, fun x hx e => hl h.1 (by have e : x = s.need := e; rw [← e]; exact hx), h.2.1, by show nameE s.need = 0; rw [nameE, if_pos h.2.2.2.2], rfl, by show (1 : Int) ≤ s.used; omega⟩)
    · exact .inr (.inr ⟨by show (s.kind : Int) = 3; omega, h.2.1, h.2.2.1, rfl, by show (1 : Int) ≤ s.used; omega⟩)
  · rw [if_neg ho]
    have hz := hf.zero (by simpa using ho)
    exact .inl ⟨rfl, hz.2.1, hz.2.2.1, hz.2.2.2, under_right (right_iff.2 hf.files) _⟩
end Go.Proofs.YtnheahologecfaaGreatDoor.Bx
/- BxLaw4, what a claim needs of it (prune.py). -/
namespace Go.Proofs.YtnheahologecfaaGreatDoor.Bx
open Go.RowKit
open Lg (BelowX Lies strV StepsAt Stp numL smallL weight rightE nameE)
open Fs (fc fc_len fc_cell Fls B checkE)
set_option linter.unusedVariables false
set_option maxRecDepth 100000
theorem Came.right {w : World} {l : List Stp} {L : Option Addr} {m mc : Nat} {fs : List Fl} {F : Option Addr} {fcc : Nat} {names : List B} {N : Option Addr} {nn nc : Nat} {ok : Nat → Prop} (h : Came w l L m mc fs F fcc names N nn nc ok) {k : Nat} (hf : FewB l fs k) :
    Calls Tryz.prog 30 #[.slice L m mc] w fun e w' => e = .returned (.int .i64 (rightE l)) ∧ Below w.heap.size w w' :=
  Lg.lright_any l L m mc w ok h.steps h.num (by have := Lg.print_small hf.s h.num; have := hf.w; omega) h.env
theorem Came.check {w : World} {l : List Stp} {L : Option Addr} {m mc : Nat} {fs : List Fl} {F : Option Addr} {fcc : Nat} {names : List B} {N : Option Addr} {nn nc : Nat} {ok : Nat → Prop} (h : Came w l L m mc fs F fcc names N nn nc ok) :
    Calls Tryz.prog 31 #[.slice F fs.length fcc] w fun e w' => e = .returned (.int .i64 (checkE fs)) ∧ Below w.heap.size w w' :=
  Fs.pcheck_any F fs fcc w (fs_env h.env) h.files h.flen h.fz
set_option maxHeartbeats 8000000 in
theorem right_walk (l : List Stp) (L : Option Addr) (m mc : Nat) (fs : List Fl) (F : Option Addr) (fcc : Nat) (names : List B) (N : Option Addr) (nn nc : Nat) (fuel : Int) (w : World) (ok : Nat → Prop) (hC : Came w l L m mc fs F fcc names N nn nc ok) :
    Calls Tryz.prog 6 #[.agg #[.slice L m mc, .slice F fs.length fcc, .slice N nn nc, .int .i64 fuel]] w fun e w' => e = .returned (.bool true) ∧ Below w.heap.size w w' := by
  have CB := Lib.hid (fun W (h : Below w.heap.size w W) => hC.below h)
  have AW := Lib.hid (fun W (h : Below w.heap.size w W) => awake_any W (hC.below h).env)
  obtain ⟨W1, eW⟩ : ∃ W1, W1 = w.alloc (.cells #[.slice L m mc, .slice F fs.length fcc, .slice N nn nc, .int .i64 fuel] 47) := ⟨_, rfl⟩
  have hb1 : Below w.heap.size w W1 := by rw [eW]; exact (Below.refl _ _).alloc (Nat.le_refl _) _
  have q1 : W1.heap[w.heap.size]? = some (.cells #[.slice L m mc, .slice F fs.length fcc, .slice N nn nc, .int .i64 fuel] 47 (0, 0)) := by rw [eW]; exact heap_alloc_new w _
  have X1 : Hid (∀ W, Below W1.heap.size W1 W → W.cell? ⟨w.heap.size, 0, none⟩ = some (.slice L m mc) ∧ W.cell? ⟨w.heap.size, 1, none⟩ = some (.slice F fs.length fcc) ∧ W.cell? ⟨w.heap.size, 2, none⟩ = some (.slice N nn nc) ∧ W.cell? ⟨w.heap.size, 3, none⟩ = some (.int .i64 fuel)) := Lib.hid fun W hW => by
    have q := heap_below hW (lt_heap q1) q1
    exact ⟨(cell_heap q 0).trans rfl, (cell_heap q 1).trans rfl, (cell_heap q 2).trans rfl, (cell_heap q 3).trans rfl⟩
  have FE := Lib.hid (hC.below hb1).few
  have hw1 := hb1.size
  have hlt := lt_heap q1
  have HB := Lib.hid (fun W (hW : Below W1.heap.size W1 W) => hb1.trans (hW.mono hw1))
  have hnl := Lib.hid hC.nml
  clear hC q1 hb1
  go_enter Tryz.func6, Tryz.ntmps6
  go_wp2_with (fail)
  rw [← eW]
  clear eW
  refine (FE.out).mono ?_
  rintro e w2 ⟨bv, rfl, b2, hfw⟩
  have FW := Lib.hid hfw
  clear hfw FE
  rcases bv with _ | _
  · go_wp2_with (go_at_call 26; (with_reducible refine (AW.out _ (HB.out _ b2)).mono ?_); rintro e w3 ⟨rfl, b3⟩)
    go_ret
    have h2 := HB.out _ b2
    exact ⟨rfl, h2.trans (b3.mono h2.size)⟩
  · have FB := Lib.hid (FW.out rfl)
    clear FW
    have hV2 : Below W1.heap.size W1 w2 := b2
    have R1 : Hid (∀ W, Below W1.heap.size W1 W → Calls Tryz.prog 27 #[.slice L m mc, .slice F fs.length fcc, .slice N nn nc, .int .i64 fuel] W (RunSays (outcome l fs names fuel) W)) := Lib.hid fun W hW => (CB.out _ (HB.out _ hW)).run FB.out (by have := FB.out.nl; omega) fuel
    have RR : Hid (∀ W, Below W1.heap.size W1 W → Calls Tryz.prog 30 #[.slice L m mc] W fun e w' => e = .returned (.int .i64 (rightE l)) ∧ Below W.heap.size W w') := Lib.hid fun W hW => (CB.out _ (HB.out _ hW)).right FB.out
    have RC : Hid (∀ W, Below W1.heap.size W1 W → Calls Tryz.prog 31 #[.slice F fs.length fcc] W fun e w' => e = .returned (.int .i64 (checkE fs)) ∧ Below W.heap.size W w') := Lib.hid fun W hW => (CB.out _ (HB.out _ hW)).check
    have OL : Hid ((outcome l fs names fuel).files.length ≤ 1000000000) := Lib.hid (out_len l fs names fuel)
    have BAD := Lib.hid (@right_bad l fs names fuel)
    have GOOD := Lib.hid (@right_good l fs names fuel)
    generalize outcome l fs names fuel = o at *
    obtain ⟨x0, x1, x2, x3⟩ := X1.out w2 hV2
    go_wp2_with (fail)
    refine (R1.out _ hV2).mono ?_
    rintro e w3 ho
    obtain ⟨A3, c3, rfl, f3, hc3, b3⟩ := ho.open_
    clear ho hc3 x0 x1 x2 x3
    have h3 : Below W1.heap.size W1 w3 := hV2.trans (b3.mono hV2.size)
    obtain ⟨V3, eV3⟩ : ∃ V, V = w3.alloc (.cells #[.int .i64 o.kind, .slice A3 o.files.length c3, .string (bs o.need), .int .i64 o.err, .string (bs o.text), .int .i64 o.used] 50) := ⟨_, rfl⟩
    have hV3 : Below W1.heap.size W1 V3 := by rw [eV3]; exact h3.alloc h3.size _
    have d3 : Below w3.heap.size w3 V3 := by rw [eV3]; exact (Below.refl _ _).alloc (Nat.le_refl _) _
    have qV3 : V3.heap[w3.heap.size]? = some (.cells #[.int .i64 o.kind, .slice A3 o.files.length c3, .string (bs o.need), .int .i64 o.err, .string (bs o.text), .int .i64 o.used] 50 (0, 0)) := by rw [eV3]; exact heap_alloc_new w3 _
    have Y3 : Hid (∀ W, Below V3.heap.size V3 W → (W.cell? ⟨w3.heap.size, 0, none⟩ = some (.int .i64 o.kind) ∧ W.cell? ⟨w3.heap.size, 1, none⟩ = some (.slice A3 o.files.length c3) ∧ W.cell? ⟨w3.heap.size, 2, none⟩ = some (.string (bs o.need)) ∧ W.cell? ⟨w3.heap.size, 3, none⟩ = some (.int .i64 o.err) ∧ W.cell? ⟨w3.heap.size, 4, none⟩ = some (.string (bs o.text)) ∧ W.cell? ⟨w3.heap.size, 5, none⟩ = some (.int .i64 o.used)) ∧ Fls W A3 o.files) := Lib.hid fun W hW => by
      have q := heap_below hW (lt_heap qV3) qV3
      have hb := d3.trans (hW.mono d3.size)
      exact ⟨⟨(cell_heap q 0).trans rfl, (cell_heap q 1).trans rfl, (cell_heap q 2).trans rfl, (cell_heap q 3).trans rfl, (cell_heap q 4).trans rfl, (cell_heap q 5).trans rfl⟩, (f3.below hb).more hb.size⟩
    clear h3 d3 qV3 f3 b3
    go_upto_region 4 with (fail)
    rw [← eV3]
    clear eV3
    have SS : Hid (∀ W, Below V3.heap.size V3 W → (fun W => W.cell? ⟨w.heap.size, 0, none⟩ = some (.slice L m mc) ∧ W.cell? ⟨w.heap.size, 1, none⟩ = some (.slice F fs.length fcc) ∧ W.cell? ⟨w.heap.size, 2, none⟩ = some (.slice N nn nc) ∧ W.cell? ⟨w.heap.size, 3, none⟩ = some (.int .i64 fuel) ∧ W.cell? ⟨w3.heap.size, 0, none⟩ = some (.int .i64 o.kind) ∧ W.cell? ⟨w3.heap.size, 1, none⟩ = some (.slice A3 o.files.length c3) ∧ W.cell? ⟨w3.heap.size, 2, none⟩ = some (.string (bs o.need)) ∧ W.cell? ⟨w3.heap.size, 3, none⟩ = some (.int .i64 o.err) ∧ W.cell? ⟨w3.heap.size, 4, none⟩ = some (.string (bs o.text)) ∧ W.cell? ⟨w3.heap.size, 5, none⟩ = some (.int .i64 o.used)) W) := Lib.hid fun W hW => by
      obtain ⟨a0, a1, a2, a3⟩ := X1.out W (hV3.trans (hW.mono hV3.size))
      obtain ⟨⟨b0, b1, b2, b3, b4, b5⟩, _⟩ := Y3.out W hW
      exact ⟨a0, a1, a2, a3, b0, b1, b2, b3, b4, b5⟩
    have kS0 := SS.out V3 (Below.refl _ _)
    have kS1 := SS.out V3.drew (Below.refl _ _).drew
    have hVd := hV3.drew
    have Dd : Below V3.heap.size V3 V3.drew := (Below.refl _ _).drew
    go_region_held3 (fun W => W.cell? ⟨w.heap.size, 0, none⟩ = some (.slice L m mc) ∧ W.cell? ⟨w.heap.size, 1, none⟩ = some (.slice F fs.length fcc) ∧ W.cell? ⟨w.heap.size, 2, none⟩ = some (.slice N nn nc) ∧ W.cell? ⟨w.heap.size, 3, none⟩ = some (.int .i64 fuel) ∧ W.cell? ⟨w3.heap.size, 0, none⟩ = some (.int .i64 o.kind) ∧ W.cell? ⟨w3.heap.size, 1, none⟩ = some (.slice A3 o.files.length c3) ∧ W.cell? ⟨w3.heap.size, 2, none⟩ = some (.string (bs o.need)) ∧ W.cell? ⟨w3.heap.size, 3, none⟩ = some (.int .i64 o.err) ∧ W.cell? ⟨w3.heap.size, 4, none⟩ = some (.string (bs o.text)) ∧ W.cell? ⟨w3.heap.size, 5, none⟩ = some (.int .i64 o.used)) (first | (with_reducible exact kS0) | (with_reducible exact kS1) | (with_reducible exact kS4) | (with_reducible exact kS5)) (first
      | (go_at_call 27; (with_reducible refine (R1.out _ hVd).mono ?_); rintro e w4 ho; obtain ⟨A4, c4, rfl, f4, hc4, b4⟩ := ho.open_; have D4 : Below V3.heap.size V3 w4 := Dd.trans (b4.mono Dd.size); have h4 : Below W1.heap.size W1 w4 := hV3.trans (D4.mono hV3.size); have kS4 := SS.out _ D4; have F4 := Lib.hid f4; have Y4 := Lib.hid (Y3.out _ D4).2; clear ho f4 hc4 b4)
      | (go_at_call 29; (with_reducible refine (rsame6_any o.kind o.err o.used (bs o.need) (bs o.text) o.files A3 A4 c3 c4 _ Y4.out F4.out OL.out).mono ?_); rintro e w5 ⟨rfl, b5⟩; have D5 : Below V3.heap.size V3 w5 := D4.trans (b5.mono D4.size); have h5 : Below W1.heap.size W1 w5 := hV3.trans (D5.mono hV3.size); have kS5 := SS.out _ D5; clear b5))
    all_goals clear kS0 kS1 kS4 kS5 hVd Dd F4 Y4 D4 h4
    obtain ⟨x0, x1, x2, x3, y0, y1, y2, y3, y4, y5⟩ := SS.out _ D5
    by_cases q1 : rightE l ≠ 0
    · have e1 : ((rightE l : Int) != 0) = true := by simpa using q1
      obtain ⟨k3, ke, ku⟩ := BAD.out (.inl q1)
      have dk : (o.kind == 3) = true := by simpa using k3
      have de : (o.err != 0) = true := by simpa using ke
      have du : (o.used == 0) = true := by simpa using ku
      clear k3 ke ku BAD GOOD
      go_wp2_with (first | (go_at_call 30; (with_reducible refine (RR.out _ h5).mono ?_); rintro e w6 ⟨rfl, b6⟩; have D6 : Below V3.heap.size V3 w6 := D5.trans (b6.mono D5.size); have h6 : Below W1.heap.size W1 w6 := hV3.trans (D6.mono hV3.size); clear x0 x1 x2 x3 y0 y1 y2 y3 y4 y5; obtain ⟨x0, x1, x2, x3, y0, y1, y2, y3, y4, y5⟩ := SS.out _ D6; have hA := HB.out _ h6; clear b6) | (go_at_call 26; (with_reducible refine (AW.out _ hA).mono ?_); rintro e wz ⟨rfl, bz⟩))
      go_ret
      exact ⟨rfl, hA.trans (bz.mono hA.size)⟩
    have e1 : ((rightE l : Int) != 0) = false := by simpa using q1
    by_cases q2 : checkE fs ≠ 0
    · have e2 : (checkE fs != 0) = true := by simpa using q2
      clear q1
      obtain ⟨k3, ke, ku⟩ := BAD.out (.inr (.inl q2))
      have dk : (o.kind == 3) = true := by simpa using k3
      have de : (o.err != 0) = true := by simpa using ke
      have du : (o.used == 0) = true := by simpa using ku
      clear k3 ke ku BAD GOOD
      go_wp2_with (first | (go_at_call 30; (with_reducible refine (RR.out _ h5).mono ?_); rintro e w6 ⟨rfl, b6⟩; have D6 : Below V3.heap.size V3 w6 := D5.trans (b6.mono D5.size); have h6 : Below W1.heap.size W1 w6 := hV3.trans (D6.mono hV3.size); clear x0 x1 x2 x3 y0 y1 y2 y3 y4 y5; obtain ⟨x0, x1, x2, x3, y0, y1, y2, y3, y4, y5⟩ := SS.out _ D6; have hA := HB.out _ h6; clear b6) | (go_at_call 31; (with_reducible refine (RC.out _ h6).mono ?_); rintro e w7 ⟨rfl, b7⟩; have D7 : Below V3.heap.size V3 w7 := D6.trans (b7.mono D6.size); have h7 : Below W1.heap.size W1 w7 := hV3.trans (D7.mono hV3.size); clear x0 x1 x2 x3 y0 y1 y2 y3 y4 y5; obtain ⟨x0, x1, x2, x3, y0, y1, y2, y3, y4, y5⟩ := SS.out _ D7; have hA := HB.out _ h7; clear b7) | (go_at_call 26; (with_reducible refine (AW.out _ hA).mono ?_); rintro e wz ⟨rfl, bz⟩))
      go_ret
      exact ⟨rfl, hA.trans (bz.mono hA.size)⟩
    have e2 : (checkE fs != 0) = false := by simpa using q2
    by_cases q3 : fuel < 1
    · have e3 : decide (fuel < 1) = true := decide_eq_true q3
      clear q1 q2
      obtain ⟨k3, ke, ku⟩ := BAD.out (.inr (.inr (.inl q3)))
      have dk : (o.kind == 3) = true := by simpa using k3
      have de : (o.err != 0) = true := by simpa using ke
      have du : (o.used == 0) = true := by simpa using ku
      clear k3 ke ku BAD GOOD
      go_wp2_with (first | (go_at_call 30; (with_reducible refine (RR.out _ h5).mono ?_); rintro e w6 ⟨rfl, b6⟩; have D6 : Below V3.heap.size V3 w6 := D5.trans (b6.mono D5.size); have h6 : Below W1.heap.size W1 w6 := hV3.trans (D6.mono hV3.size); clear x0 x1 x2 x3 y0 y1 y2 y3 y4 y5; obtain ⟨x0, x1, x2, x3, y0, y1, y2, y3, y4, y5⟩ := SS.out _ D6; have hA := HB.out _ h6; clear b6) | (go_at_call 31; (with_reducible refine (RC.out _ h6).mono ?_); rintro e w7 ⟨rfl, b7⟩; have D7 : Below V3.heap.size V3 w7 := D6.trans (b7.mono D6.size); have h7 : Below W1.heap.size W1 w7 := hV3.trans (D7.mono hV3.size); clear x0 x1 x2 x3 y0 y1 y2 y3 y4 y5; obtain ⟨x0, x1, x2, x3, y0, y1, y2, y3, y4, y5⟩ := SS.out _ D7; have hA := HB.out _ h7; clear b7) | (go_at_call 26; (with_reducible refine (AW.out _ hA).mono ?_); rintro e wz ⟨rfl, bz⟩))
      go_ret
      exact ⟨rfl, hA.trans (bz.mono hA.size)⟩
    have e3 : decide (fuel < 1) = false := decide_eq_false q3
    by_cases q4 : 2000 < fuel
    · have e4 : decide ((2000 : Int) < fuel) = true := decide_eq_true q4
      clear q1 q2
      obtain ⟨k3, ke, ku⟩ := BAD.out (.inr (.inr (.inr q4)))
      have dk : (o.kind == 3) = true := by simpa using k3
      have de : (o.err != 0) = true := by simpa using ke
      have du : (o.used == 0) = true := by simpa using ku
      clear k3 ke ku BAD GOOD
      go_wp2_with (first | (go_at_call 30; (with_reducible refine (RR.out _ h5).mono ?_); rintro e w6 ⟨rfl, b6⟩; have D6 : Below V3.heap.size V3 w6 := D5.trans (b6.mono D5.size); have h6 : Below W1.heap.size W1 w6 := hV3.trans (D6.mono hV3.size); clear x0 x1 x2 x3 y0 y1 y2 y3 y4 y5; obtain ⟨x0, x1, x2, x3, y0, y1, y2, y3, y4, y5⟩ := SS.out _ D6; have hA := HB.out _ h6; clear b6) | (go_at_call 31; (with_reducible refine (RC.out _ h6).mono ?_); rintro e w7 ⟨rfl, b7⟩; have D7 : Below V3.heap.size V3 w7 := D6.trans (b7.mono D6.size); have h7 : Below W1.heap.size W1 w7 := hV3.trans (D7.mono hV3.size); clear x0 x1 x2 x3 y0 y1 y2 y3 y4 y5; obtain ⟨x0, x1, x2, x3, y0, y1, y2, y3, y4, y5⟩ := SS.out _ D7; have hA := HB.out _ h7; clear b7) | (go_at_call 26; (with_reducible refine (AW.out _ hA).mono ?_); rintro e wz ⟨rfl, bz⟩))
      go_ret
      exact ⟨rfl, hA.trans (bz.mono hA.size)⟩
    have e4 : decide ((2000 : Int) < fuel) = false := decide_eq_false q4
    obtain ⟨u1, u2, gd⟩ := GOOD.out (by omega) (by omega) (by omega) (by omega)
    have f1 : decide (o.used < 0) = false := decide_eq_false (by omega)
    have f2 : decide (fuel < o.used) = false := decide_eq_false (by omega)
    clear u1 u2 BAD GOOD q1 q2 q3 q4
    rcases gd with ⟨k1, ke, kn, kt, kc⟩ | ⟨k2, kl, ke, kn, kf, ku⟩ | ⟨k3, ke, kn, kf, ku⟩
    · have dk : (o.kind == 1) = true := by simpa using k1
      have de : (o.err == 0) = true := by simpa using ke
      have hN : bs o.need = ⟨#[]⟩ := by rw [kn]; rfl
      have hT : bs o.text = ⟨#[]⟩ := by rw [kt]; rfl
      have RX : Hid (∀ W, Below V3.heap.size V3 W → Calls Tryz.prog 31 #[.slice A3 o.files.length c3] W fun e w' => e = .returned (.int .i64 0) ∧ Below W.heap.size W w') := Lib.hid fun W hW => by
        have hr := right_iff.1 kc
        have := Fs.pcheck_any A3 o.files c3 W (fs_env (CB.out _ (HB.out _ (hV3.trans (hW.mono hV3.size)))).env) (Y3.out W hW).2 (by have := hr.len; unfold maxLen; omega) (fun f hf => by have h := hr.each f hf; have hp := h.1; simp only [Lg.pathOk, Bool.and_eq_true, decide_eq_true_eq] at hp; have t1 := Fs.tl_len f.p; have t2 := Lg.tl_len f.p; unfold maxLen; omega)
        rw [kc] at this
        exact this
      rw [hN, hT] at SS
      rw [hN] at y2
      rw [hT] at y4
      clear k1 ke kn kt kc hN hT
      go_wp2_with (first | (go_at_call 30; (with_reducible refine (RR.out _ h5).mono ?_); rintro e w6 ⟨rfl, b6⟩; have D6 : Below V3.heap.size V3 w6 := D5.trans (b6.mono D5.size); have h6 : Below W1.heap.size W1 w6 := hV3.trans (D6.mono hV3.size); clear x0 x1 x2 x3 y0 y1 y2 y3 y4 y5; obtain ⟨x0, x1, x2, x3, y0, y1, y2, y3, y4, y5⟩ := SS.out _ D6; have hA := HB.out _ h6; clear b6) | (go_at_call 31; (with_reducible refine (RC.out _ h6).mono ?_); rintro e w7 ⟨rfl, b7⟩; have D7 : Below V3.heap.size V3 w7 := D6.trans (b7.mono D6.size); have h7 : Below W1.heap.size W1 w7 := hV3.trans (D7.mono hV3.size); clear x0 x1 x2 x3 y0 y1 y2 y3 y4 y5; obtain ⟨x0, x1, x2, x3, y0, y1, y2, y3, y4, y5⟩ := SS.out _ D7; have hA := HB.out _ h7; clear b7) | (go_at_call 31; (with_reducible refine (RX.out _ D7).mono ?_); rintro e w8 ⟨rfl, b8⟩; have D8 : Below V3.heap.size V3 w8 := D7.trans (b8.mono D7.size); have h8 : Below W1.heap.size W1 w8 := hV3.trans (D8.mono hV3.size); clear x0 x1 x2 x3 y0 y1 y2 y3 y4 y5; obtain ⟨x0, x1, x2, x3, y0, y1, y2, y3, y4, y5⟩ := SS.out _ D8; have hA := HB.out _ h8; clear b8) | (go_at_call 26; (with_reducible refine (AW.out _ hA).mono ?_); rintro e wz ⟨rfl, bz⟩))
      go_ret
      exact ⟨rfl, hA.trans (bz.mono hA.size)⟩
    · have dk1 : (o.kind == 1) = false := by rw [k2]; rfl
      have dk2 : (o.kind == 2) = true := by rw [k2]; rfl
      have de : (o.err == 0) = true := by simpa using ke
      have hF : o.files.length = 0 := by rw [kf]; rfl
      have du : decide ((1 : Int) ≤ o.used) = true := decide_eq_true ku
      have KL := Lib.hid kl
      have RDN : Hid (Reads V3 V3.heap.size 1 N nn (strV names)) := Lib.hid (CB.out _ (HB.out _ hV3)).nms
      have RN : Hid (∀ W, Calls Tryz.prog 32 #[.string (bs o.need)] W fun e w' => e = .returned (.int .i64 0) ∧ W = w') := Lib.hid fun W => by
        have h16 : o.need.length ≤ 16 := by
          unfold nameE at kn
          split at kn
          · rename_i h; simp only [Lg.nameOk, Bool.and_eq_true, decide_eq_true_eq] at h; exact h.1.2
          · exact absurd kn (by decide)
        have := Lg.pname_any (bs o.need) (by have e := Lg.tl_len (bs o.need); have e2 : (Lg.tl (bs o.need)).length = o.need.length := rfl; omega) W
        rw [show Lg.tl (bs o.need) = o.need from rfl, kn] at this
        exact this
      rw [hF] at SS
      rw [hF] at y1
      clear k2 ke kl kn kf ku hF Y3
      go_wp2_with (first | (go_at_call 30; (with_reducible refine (RR.out _ h5).mono ?_); rintro e w6 ⟨rfl, b6⟩; have D6 : Below V3.heap.size V3 w6 := D5.trans (b6.mono D5.size); have h6 : Below W1.heap.size W1 w6 := hV3.trans (D6.mono hV3.size); clear x0 x1 x2 x3 y0 y1 y2 y3 y4 y5; obtain ⟨x0, x1, x2, x3, y0, y1, y2, y3, y4, y5⟩ := SS.out _ D6; have hA := HB.out _ h6; clear b6) | (go_at_call 31; (with_reducible refine (RC.out _ h6).mono ?_); rintro e w7 ⟨rfl, b7⟩; have D7 : Below V3.heap.size V3 w7 := D6.trans (b7.mono D6.size); have h7 : Below W1.heap.size W1 w7 := hV3.trans (D7.mono hV3.size); clear x0 x1 x2 x3 y0 y1 y2 y3 y4 y5; obtain ⟨x0, x1, x2, x3, y0, y1, y2, y3, y4, y5⟩ := SS.out _ D7; have hA := HB.out _ h7; clear b7))
      clear x0 x1 x2 x3 y0 y1 y2 y3 y4 y5 hA
      go_loopw [5] (fun i W => ∃ k : Nat, i = .int .i64 k ∧ k ≤ nn ∧ Below V3.heap.size V3 W) (fun i _ => nn - (intOf i).toNat)
      case atStart => exact ⟨0, rfl, Nat.zero_le _, D7⟩
      case round =>
        obtain ⟨k, rfl, hk, hbx⟩ := hrel
        obtain ⟨x0, x1, x2, x3, y0, y1, y2, y3, y4, y5⟩ := SS.out _ hbx
        have hBX := Lib.hid hbx
        by_cases hlt : k < nn
        · have hkI : (k : Int) < (nn : Int) := by omega
          have hnn := FB.out.nl
          obtain ⟨ad, u, eN, had, hue, c1⟩ := RDN.out.at_ hlt
          have hkn : k < names.length := by have := hnl.out; omega
          have hue2 : u = .string (bs names[k]) := by
            rw [strV, List.getElem?_map, List.getElem?_eq_getElem hkn] at hue
            exact (Option.some.inj hue).symm
          subst hue2
          have g : ((bs names[k]).toList == (bs o.need).toList) = false := Lg.s_ne (fun e => KL.out _ (List.getElem_mem hkn) (by have := congrArg tl e; exact this))
          have dA : ∀ W, Below V3.heap.size V3 W → W.cell? ⟨w.heap.size, 2, none⟩ = some (.slice (some ad) nn nc) := fun W hW => by rw [← eN]; exact (SS.out W hW).2.2.1
          have dB : ∀ W, Below V3.heap.size V3 W → W.cell? (ad.add k) = some (.string (bs names[k])) := fun W hW => (hW.cell (by rw [block_of_add]; exact had)).trans c1
          have dC : ∀ W, Below V3.heap.size V3 W → W.cell? ⟨w3.heap.size, 2, none⟩ = some (.string (bs o.need)) := fun W hW => (SS.out W hW).2.2.2.2.2.2.1
          clear hue eN c1
          generalize bs names[k] = z at *
          go_wp2_with (fail)
          refine wp_region_cls (C := fun w' => Below V3.heap.size V3 w') (by kernel_rfl) (by kernel_rfl) hBX.out.drew ?_
          repeat (first | go_big_quiet_skip | quiet_step (first | (intro _; rfl) | (intro _; rw [if_neg (by omega)]; exact ⟨rfl, rfl⟩) | (intro hss; (first | rw [dA _ hss] | rw [dB _ hss] | rw [dC _ hss]); exact ⟨rfl, rfl⟩)))
          refine wpQuiet_nil ?_
          intro w9 hb9
          go_wp2
          go_roundw
          case rel => exact ⟨k + 1, by go_num, by omega, hb9⟩
          case measure => simp [intOf]; omega
        · obtain rfl : k = nn := by omega
          have hA := HB.out _ (hV3.trans (hbx.mono hV3.size))
          go_wp2_with (first | (go_at_call 32; (with_reducible refine (RN.out _).mono ?_); rintro e w8 ⟨rfl, rfl⟩) | (go_at_call 26; (with_reducible refine (AW.out _ hA).mono ?_); rintro e wz ⟨rfl, bz⟩))
          go_ret
          exact ⟨rfl, hA.trans (bz.mono hA.size)⟩
    · have dk1 : (o.kind == 1) = false := by rw [k3]; rfl
      have dk2 : (o.kind == 2) = false := by rw [k3]; rfl
      have dk3 : (o.kind == 3) = true := by rw [k3]; rfl
      have de : (o.err != 0) = true := by simpa using ke
      have hN : bs o.need = ⟨#[]⟩ := by rw [kn]; rfl
      have hF : o.files.length = 0 := by rw [kf]; rfl
      have du : decide ((1 : Int) ≤ o.used) = true := decide_eq_true ku
      rw [hN, hF] at SS
      rw [hN] at y2
      rw [hF] at y1
      clear k3 ke kn kf hN hF Y3
      go_wp2_with (first | (go_at_call 30; (with_reducible refine (RR.out _ h5).mono ?_); rintro e w6 ⟨rfl, b6⟩; have D6 : Below V3.heap.size V3 w6 := D5.trans (b6.mono D5.size); have h6 : Below W1.heap.size W1 w6 := hV3.trans (D6.mono hV3.size); clear x0 x1 x2 x3 y0 y1 y2 y3 y4 y5; obtain ⟨x0, x1, x2, x3, y0, y1, y2, y3, y4, y5⟩ := SS.out _ D6; have hA := HB.out _ h6; clear b6) | (go_at_call 31; (with_reducible refine (RC.out _ h6).mono ?_); rintro e w7 ⟨rfl, b7⟩; have D7 : Below V3.heap.size V3 w7 := D6.trans (b7.mono D6.size); have h7 : Below W1.heap.size W1 w7 := hV3.trans (D7.mono hV3.size); clear x0 x1 x2 x3 y0 y1 y2 y3 y4 y5; obtain ⟨x0, x1, x2, x3, y0, y1, y2, y3, y4, y5⟩ := SS.out _ D7; have hA := HB.out _ h7; clear b7) | (go_at_call 26; (with_reducible refine (AW.out _ hA).mono ?_); rintro e wz ⟨rfl, bz⟩))
      go_ret
      exact ⟨rfl, hA.trans (bz.mono hA.size)⟩
end Go.Proofs.YtnheahologecfaaGreatDoor.Bx
