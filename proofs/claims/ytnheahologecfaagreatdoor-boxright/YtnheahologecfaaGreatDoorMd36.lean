/- Joined by mkmerged.py: BxLaw2. -/
import Derived.Test.YtnheahologecfaaGreatDoorMd35
/- BxLaw2, what a claim needs of it (prune.py). -/
namespace Go.Proofs.YtnheahologecfaaGreatDoor.Bx
open Go.RowKit
open Lg (BelowX Lies strV StepsAt Stp numL smallL weight rightE)
open Fs (fc fc_len fc_cell Fls B checkE)
set_option linter.unusedVariables false
set_option maxRecDepth 100000
theorem blk_err : ∀ (f deep : Nat) (out : List Stp) (lines : List B) (e : Nat), Lg.blk f deep out lines = .err e → e = 0 ∨ e = 20 ∨ e = 21 ∨ e = 22
  | 0, _, _, _, e, h => by cases h; exact .inl rfl
  | f + 1, deep, out, [], e, h => by
    unfold Lg.blk at h
    split at h
    · cases h; simp
    · cases h
  | f + 1, deep, out, line :: rest, e, h => by
    unfold Lg.blk at h
    split at h
    · split at h
      · cases h
      · cases h; simp
    · split at h
      · cases h; simp
      · split at h
        · split at h
          · cases h; simp
          · split at h
            · next e2 => cases h; exact blk_err f _ _ _ _ e2
            · exact blk_err f _ _ _ _ h
        · exact blk_err f _ _ _ _ h
theorem right_34 (l : List Stp) : rightE l ≠ 34 := by
  have hp : (Lg.parse (Lg.print l)).2 ≠ 34 := by
    unfold Lg.parse
    split
    · simp
    split
    · simp
    split
    · simp
    split
    · simp
    cases e : Lg.bk 0 [] (Lg.splitB 10 (Lg.print l).dropLast) with
    | ok out r => simp
    | err k =>
      have := blk_err _ _ _ _ _ e
      simp only
      omega
  unfold rightE
  split
  · simp
  · exact hp
theorem ended_err (s : St) : (ended s).err = s.err := by unfold ended; split <;> rfl
theorem ended_used (s : St) : (ended s).used = s.used := by unfold ended; split <;> rfl
theorem outcome_bad {l : List Stp} {fs : List Fl} {names : List B} {f g : Int} (h : rightE l ≠ 0 ∨ checkE fs ≠ 0) (hf : 1 ≤ f ∧ f ≤ 2000) (hg : 1 ≤ g ∧ g ≤ 2000) : outcome l fs names f = outcome l fs names g ∧ (outcome l fs names f).err ≠ 34 ∧ (outcome l fs names f).used = 0 := by
  unfold outcome
  by_cases h1 : rightE l ≠ 0
  · rw [if_pos h1, if_pos h1]
    exact ⟨rfl, by have := right_34 l; show (rightE l : Int) ≠ 34; omega, rfl⟩
  · have h2 : checkE fs ≠ 0 := by omega
    rw [if_neg h1, if_neg h1, if_pos (.inl h2), if_pos (.inl h2)]
    exact ⟨rfl, by show (1 : Int) ≠ 34; decide, rfl⟩
theorem outcome_good {l : List Stp} {fs : List Fl} {names : List B} {f : Int} (h1 : rightE l = 0) (h2 : checkE fs = 0) (hf : 1 ≤ f ∧ f ≤ 2000) : outcome l fs names f = ended (run withF withoutF names upB soB f.toNat l fs) := by
  unfold outcome
  rw [if_neg (by simp [h1]), if_neg (by omega)]
theorem run_used (l : List Stp) (fs : List Fl) (names : List B) (fu : Nat) : (run withF withoutF names upB soB fu l fs).used ≤ fu := ((all_fair fu l).used (start fs) (Nat.zero_le _)).2
theorem out_used (l : List Stp) (fs : List Fl) (names : List B) (f : Int) (h1 : 1 ≤ f) (h2 : f ≤ 2000) : 0 ≤ (outcome l fs names f).used ∧ (outcome l fs names f).used ≤ 2000 := by
  by_cases h : rightE l = 0 ∧ checkE fs = 0
  · rw [outcome_good h.1 h.2 ⟨h1, h2⟩, ended_used]
    have := run_used l fs names f.toNat
    omega
  · rw [(outcome_bad (g := f) (by omega) ⟨h1, h2⟩ ⟨h1, h2⟩).2.2]
    omega
theorem out_right (l : List Stp) (fs : List Fl) (names : List B) (f : Int) : (outcome l fs names f).files.length ≤ 32 := by
  unfold outcome
  split
  · exact Nat.zero_le _
  split
  · exact Nat.zero_le _
  · rename_i h1 h2
    have hc : checkE fs = 0 := by omega
    have hf := (run_fine (Q := fun _ => True) (names := names) (up := upB) (so := soB) (fu := f.toNat) (by omega) (needs_true l) (right_iff.1 hc)).files
    unfold ended
    split
    · exact Nat.zero_le _
    · show (Fs.under _ _).length ≤ 32
      have := Fs.under_len (run withF withoutF names upB soB f.toNat l fs).files outB
      have := hf.len
      omega
theorem out_len (l : List Stp) (fs : List Fl) (names : List B) (f : Int) : (outcome l fs names f).files.length ≤ 1000000000 := by have := out_right l fs names f; omega
theorem fuel_law {l : List Stp} {fs : List Fl} {names : List B} {fuel more : Int} (h1 : 1 ≤ fuel) (h2 : fuel ≤ more) (h3 : more ≤ 2000) :
    ((outcome l fs names fuel).err = 34 → fuel ≤ (outcome l fs names more).used) ∧ ((outcome l fs names fuel).err ≠ 34 → outcome l fs names more = outcome l fs names fuel ∧ (1 ≤ (outcome l fs names fuel).used → outcome l fs names (outcome l fs names fuel).used = outcome l fs names fuel ∧ ((outcome l fs names fuel).used ≠ 1 →
      (outcome l fs names ((outcome l fs names fuel).used - 1)).err = 34 ∧ (outcome l fs names ((outcome l fs names fuel).used - 1)).used = (outcome l fs names fuel).used - 1))) := by
  by_cases h : rightE l = 0 ∧ checkE fs = 0
  · obtain ⟨hr, hc⟩ := h
    have hu := run_used l fs names fuel.toNat
    rw [outcome_good (f := fuel) hr hc ⟨h1, by omega⟩, outcome_good (f := more) hr hc ⟨by omega, h3⟩, ended_err, ended_used, ended_used]
    refine ⟨fun he => ?_, fun he => ⟨?_, fun hu1 => ⟨?_, fun hu2 => ?_⟩⟩⟩
    · have := fuel_dry (f1 := fuel.toNat) (f2 := more.toNat) with_34 (by omega) he
      omega
    · rw [fuel_more (f1 := fuel.toNat) (f2 := more.toNat) (by omega) he]
    · rw [outcome_good hr hc ⟨by omega, by omega⟩, Int.toNat_natCast, fuel_just he]
    · have := fuel_less he (by omega)
      rw [outcome_good hr hc ⟨by omega, by omega⟩, ended_err, ended_used, show ((run withF withoutF names upB soB fuel.toNat l fs).used - 1 : Int).toNat = (run withF withoutF names upB soB fuel.toNat l fs).used - 1 by omega]
      exact ⟨this.1, by rw [this.2]; omega⟩
  · have hb := outcome_bad (names := names) (f := fuel) (g := more) (show rightE l ≠ 0 ∨ checkE fs ≠ 0 by omega) ⟨h1, by omega⟩ ⟨by omega, h3⟩
    refine ⟨fun he => absurd he hb.2.1, fun _ => ⟨hb.1.symm, fun hu => ?_⟩⟩
    rw [hb.2.2] at hu
    omega
set_option maxHeartbeats 8000000 in
theorem fuel_walk (l : List Stp) (L : Option Addr) (m mc : Nat) (fs : List Fl) (F : Option Addr) (fcc : Nat) (names : List B) (N : Option Addr) (nn nc : Nat) (fuel more : Int) (w : World) (ok : Nat → Prop) (hC : Came w l L m mc fs F fcc names N nn nc ok) :
    Calls Tryz.prog 7 #[.agg #[.slice L m mc, .slice F fs.length fcc, .slice N nn nc, .int .i64 fuel], .int .i64 more] w fun e w' => e = .returned (.bool true) ∧ Below w.heap.size w w' := by
  have CB := Lib.hid (fun W (h : Below w.heap.size w W) => hC.below h)
  have AW := Lib.hid (fun W (h : Below w.heap.size w W) => awake_any W (hC.below h).env)
  obtain ⟨W1, eW⟩ : ∃ W1, W1 = w.alloc (.cells #[.slice L m mc, .slice F fs.length fcc, .slice N nn nc, .int .i64 fuel] 47) := ⟨_, rfl⟩
  have hb1 : Below w.heap.size w W1 := by rw [eW]; exact (Below.refl _ _).alloc (Nat.le_refl _) _
  have q1 : W1.heap[w.heap.size]? = some (.cells #[.slice L m mc, .slice F fs.length fcc, .slice N nn nc, .int .i64 fuel] 47 (0, 0)) := by rw [eW]; exact heap_alloc_new w _
  have X1 : Hid (∀ W, Below W1.heap.size W1 W → W.cell? ⟨w.heap.size, 0, none⟩ = some (.slice L m mc) ∧ W.cell? ⟨w.heap.size, 1, none⟩ = some (.slice F fs.length fcc) ∧ W.cell? ⟨w.heap.size, 2, none⟩ = some (.slice N nn nc) ∧ W.cell? ⟨w.heap.size, 3, none⟩ = some (.int .i64 fuel)) := Lib.hid fun W hW => by
    have q := heap_below hW (lt_heap q1) q1
    exact ⟨(cell_heap q 0).trans rfl, (cell_heap q 1).trans rfl, (cell_heap q 2).trans rfl, (cell_heap q 3).trans rfl⟩
  have FE := Lib.hid (hC.below hb1).few
  have hw1 := hb1.size
  have hlt := lt_heap q1
  have HB := Lib.hid (fun W (hW : Below W1.heap.size W1 W) => hb1.trans (hW.mono hw1))
  have hnl := Lib.hid hC.nml
  clear hC q1 hb1
  go_enter Tryz.func7, Tryz.ntmps7
  go_wp2_with (fail)
  rw [← eW]
  clear eW
  refine (FE.out).mono ?_
  rintro e w2 ⟨bv, rfl, b2, hfw⟩
  have FW := Lib.hid hfw
  clear hfw FE
  obtain ⟨x0, x1, x2, x3⟩ := X1.out w2 b2
  rcases bv with _ | _
  · have h2 := HB.out _ b2
    go_wp2_with (go_at_call 26; (with_reducible refine (AW.out _ h2).mono ?_); rintro e w3 ⟨rfl, b3⟩)
    go_ret
    exact ⟨rfl, h2.trans (b3.mono h2.size)⟩
  · have FB := Lib.hid (FW.out rfl)
    clear FW
    have hV2 : Below W1.heap.size W1 w2 := b2
    by_cases hg : 1 ≤ fuel ∧ fuel ≤ more ∧ more ≤ 2000
    · obtain ⟨g1, g2, g3⟩ := hg
      have g4 : fuel ≤ 2000 := by omega
      have j1 : ¬ fuel < 1 := by omega
      have j2 : ¬ more < fuel := by omega
      have j3 : ¬ (2000 : Int) < more := by omega
      have k1 : decide (fuel < 1) = false := decide_eq_false j1
      have k2 : decide (more < fuel) = false := decide_eq_false j2
      have k3 : decide ((2000 : Int) < more) = false := decide_eq_false j3
      obtain ⟨l1, l2⟩ := fuel_law (l := l) (fs := fs) (names := names) g1 g2 g3
      have R1 : Hid (∀ W, Below W1.heap.size W1 W → Calls Tryz.prog 27 #[.slice L m mc, .slice F fs.length fcc, .slice N nn nc, .int .i64 fuel] W (RunSays (outcome l fs names fuel) W)) := Lib.hid fun W hW => (CB.out _ (HB.out _ hW)).run FB.out (by have := FB.out.nl; omega) fuel
      have R2 : Hid (∀ W, Below W1.heap.size W1 W → Calls Tryz.prog 27 #[.slice L m mc, .slice F fs.length fcc, .slice N nn nc, .int .i64 more] W (RunSays (outcome l fs names more) W)) := Lib.hid fun W hW => (CB.out _ (HB.out _ hW)).run FB.out (by have := FB.out.nl; omega) more
      have OL : Hid ((outcome l fs names fuel).files.length ≤ 1000000000) := Lib.hid (out_len l fs names fuel)
      by_cases h34 : (outcome l fs names fuel).err = 34
      · have U := Lib.hid (l1 h34)
        have E34 := Lib.hid h34
        clear l1 l2 h34
        generalize outcome l fs names fuel = o at *
        generalize outcome l fs names more = p at *
        obtain ⟨x0, x1, x2, x3⟩ := X1.out w2 hV2
        go_wp2_with (fail)
        refine (R1.out _ hV2).mono ?_
        rintro e w3 ho
        obtain ⟨A3, c3, rfl, f3, hc3, b3⟩ := ho.open_
        clear ho hc3 x0 x1 x2 x3
        have h3 : Below W1.heap.size W1 w3 := hV2.trans (b3.mono hV2.size)
        obtain ⟨V3, eV3⟩ : ∃ V, V = w3.alloc (.cells #[.int .i64 o.kind, .slice A3 o.files.length c3, .string (bs o.need), .int .i64 o.err, .string (bs o.text), .int .i64 o.used] 50) := ⟨_, rfl⟩
        have hV3 : Below W1.heap.size W1 V3 := by rw [eV3]; exact h3.alloc h3.size _
        have d3 : Below w3.heap.size w3 V3 := by rw [eV3]; exact (Below.refl _ _).alloc (Nat.le_refl _) _
        have qV3 : V3.heap[w3.heap.size]? = some (.cells #[.int .i64 o.kind, .slice A3 o.files.length c3, .string (bs o.need), .int .i64 o.err, .string (bs o.text), .int .i64 o.used] 50 (0, 0)) := by rw [eV3]; exact heap_alloc_new w3 _
        have Y3 : Hid (∀ W, Below V3.heap.size V3 W → (W.cell? ⟨w3.heap.size, 0, none⟩ = some (.int .i64 o.kind) ∧ W.cell? ⟨w3.heap.size, 1, none⟩ = some (.slice A3 o.files.length c3) ∧ W.cell? ⟨w3.heap.size, 2, none⟩ = some (.string (bs o.need)) ∧ W.cell? ⟨w3.heap.size, 3, none⟩ = some (.int .i64 o.err) ∧ W.cell? ⟨w3.heap.size, 4, none⟩ = some (.string (bs o.text)) ∧ W.cell? ⟨w3.heap.size, 5, none⟩ = some (.int .i64 o.used)) ∧ Fls W A3 o.files) := Lib.hid fun W hW => by
          have q := heap_below hW (lt_heap qV3) qV3
          have hb := d3.trans (hW.mono d3.size)
          exact ⟨⟨(cell_heap q 0).trans rfl, (cell_heap q 1).trans rfl, (cell_heap q 2).trans rfl, (cell_heap q 3).trans rfl, (cell_heap q 4).trans rfl, (cell_heap q 5).trans rfl⟩, (f3.below hb).more hb.size⟩
        clear h3 d3 qV3 f3 b3
        go_upto_region 4 with (fail)
        rw [← eV3]
        clear eV3
        obtain ⟨x0, x1, x2, x3⟩ := X1.out V3 hV3
        go_wp2_with (fail)
        refine (R2.out _ hV3).mono ?_
        rintro e w4 ho
        obtain ⟨A4, c4, rfl, f4, hc4, b4⟩ := ho.open_
        clear ho hc4 x0 x1 x2 x3
        have D34 : Below V3.heap.size V3 w4 := b4
        have h4 : Below W1.heap.size W1 w4 := hV3.trans (b4.mono hV3.size)
        obtain ⟨V4, eV4⟩ : ∃ V, V = w4.alloc (.cells #[.int .i64 p.kind, .slice A4 p.files.length c4, .string (bs p.need), .int .i64 p.err, .string (bs p.text), .int .i64 p.used] 50) := ⟨_, rfl⟩
        have hV4 : Below W1.heap.size W1 V4 := by rw [eV4]; exact h4.alloc h4.size _
        have d4 : Below w4.heap.size w4 V4 := by rw [eV4]; exact (Below.refl _ _).alloc (Nat.le_refl _) _
        have qV4 : V4.heap[w4.heap.size]? = some (.cells #[.int .i64 p.kind, .slice A4 p.files.length c4, .string (bs p.need), .int .i64 p.err, .string (bs p.text), .int .i64 p.used] 50 (0, 0)) := by rw [eV4]; exact heap_alloc_new w4 _
        have Y4 : Hid (∀ W, Below V4.heap.size V4 W → (W.cell? ⟨w4.heap.size, 0, none⟩ = some (.int .i64 p.kind) ∧ W.cell? ⟨w4.heap.size, 1, none⟩ = some (.slice A4 p.files.length c4) ∧ W.cell? ⟨w4.heap.size, 2, none⟩ = some (.string (bs p.need)) ∧ W.cell? ⟨w4.heap.size, 3, none⟩ = some (.int .i64 p.err) ∧ W.cell? ⟨w4.heap.size, 4, none⟩ = some (.string (bs p.text)) ∧ W.cell? ⟨w4.heap.size, 5, none⟩ = some (.int .i64 p.used)) ∧ Fls W A4 p.files) := Lib.hid fun W hW => by
          have q := heap_below hW (lt_heap qV4) qV4
          have hb := d4.trans (hW.mono d4.size)
          exact ⟨⟨(cell_heap q 0).trans rfl, (cell_heap q 1).trans rfl, (cell_heap q 2).trans rfl, (cell_heap q 3).trans rfl, (cell_heap q 4).trans rfl, (cell_heap q 5).trans rfl⟩, (f4.below hb).more hb.size⟩
        have D4 : Below V3.heap.size V3 V4 := D34.trans (d4.mono D34.size)
        clear h4 d4 qV4 f4 b4 D34
        go_upto_region 5 with (fail)
        rw [← eV4]
        clear eV4
        obtain ⟨⟨y0, y1, y2, y3, y4, y5⟩, yf⟩ := Y3.out V4 D4
        obtain ⟨⟨z0, z1, z2, z3, z4, z5⟩, zf⟩ := Y4.out V4 (Below.refl _ _)
        obtain ⟨x0, x1, x2, x3⟩ := X1.out V4 hV4
        have e34 := E34.out
        rw [e34] at y3
        have u1 : fuel ≤ p.used := U.out
        have u2 : decide (fuel ≤ p.used) = true := decide_eq_true u1
        clear e34 yf zf
        have hA := HB.out _ hV4
        go_wp2_with (go_at_call 26; (with_reducible refine (AW.out _ hA).mono ?_); rintro e wz ⟨rfl, bz⟩)
        go_ret
        exact ⟨rfl, hA.trans (bz.mono hA.size)⟩
      · obtain ⟨e1, e2⟩ := l2 h34
        have E34 := Lib.hid h34
        rw [e1] at R2
        have E2 := Lib.hid e2
        have ob := out_used l fs names fuel (by omega) (by omega)
        have R3 : Hid (1 ≤ (outcome l fs names fuel).used → ∀ W, Below W1.heap.size W1 W → Calls Tryz.prog 27 #[.slice L m mc, .slice F fs.length fcc, .slice N nn nc, .int .i64 (outcome l fs names fuel).used] W (RunSays (outcome l fs names fuel) W)) := Lib.hid fun h W hW => by
          have := (CB.out _ (HB.out _ hW)).run FB.out (by have := FB.out.nl; omega) (outcome l fs names fuel).used
          rw [(e2 h).1] at this
          exact this
        have R4 : Hid (∀ W, Below W1.heap.size W1 W → Calls Tryz.prog 27 #[.slice L m mc, .slice F fs.length fcc, .slice N nn nc, .int .i64 ((outcome l fs names fuel).used - 1)] W (RunSays (outcome l fs names ((outcome l fs names fuel).used - 1)) W)) := Lib.hid fun W hW => (CB.out _ (HB.out _ hW)).run FB.out (by have := FB.out.nl; omega) ((outcome l fs names fuel).used - 1)
        have EW : Hid (1 ≤ (outcome l fs names fuel).used → (outcome l fs names fuel).used ≠ 1 → (outcome l fs names ((outcome l fs names fuel).used - 1)).err = 34 ∧ (outcome l fs names ((outcome l fs names fuel).used - 1)).used = (outcome l fs names fuel).used - 1) := Lib.hid fun h h1 => (e2 h).2 h1
        clear l1 l2 e1 e2 E2
        generalize outcome l fs names ((outcome l fs names fuel).used - 1) = q at *
        generalize outcome l fs names fuel = o at *
        obtain ⟨ob1, ob2⟩ := ob
        have n34 : (o.err == 34) = false := by simpa using h34
        clear h34
        obtain ⟨x0, x1, x2, x3⟩ := X1.out w2 hV2
        go_wp2_with (fail)
        refine (R1.out _ hV2).mono ?_
        rintro e w3 ho
        obtain ⟨A3, c3, rfl, f3, hc3, b3⟩ := ho.open_
        clear ho hc3 x0 x1 x2 x3
        have h3 : Below W1.heap.size W1 w3 := hV2.trans (b3.mono hV2.size)
        obtain ⟨V3, eV3⟩ : ∃ V, V = w3.alloc (.cells #[.int .i64 o.kind, .slice A3 o.files.length c3, .string (bs o.need), .int .i64 o.err, .string (bs o.text), .int .i64 o.used] 50) := ⟨_, rfl⟩
        have hV3 : Below W1.heap.size W1 V3 := by rw [eV3]; exact h3.alloc h3.size _
        have d3 : Below w3.heap.size w3 V3 := by rw [eV3]; exact (Below.refl _ _).alloc (Nat.le_refl _) _
        have qV3 : V3.heap[w3.heap.size]? = some (.cells #[.int .i64 o.kind, .slice A3 o.files.length c3, .string (bs o.need), .int .i64 o.err, .string (bs o.text), .int .i64 o.used] 50 (0, 0)) := by rw [eV3]; exact heap_alloc_new w3 _
        have Y3 : Hid (∀ W, Below V3.heap.size V3 W → (W.cell? ⟨w3.heap.size, 0, none⟩ = some (.int .i64 o.kind) ∧ W.cell? ⟨w3.heap.size, 1, none⟩ = some (.slice A3 o.files.length c3) ∧ W.cell? ⟨w3.heap.size, 2, none⟩ = some (.string (bs o.need)) ∧ W.cell? ⟨w3.heap.size, 3, none⟩ = some (.int .i64 o.err) ∧ W.cell? ⟨w3.heap.size, 4, none⟩ = some (.string (bs o.text)) ∧ W.cell? ⟨w3.heap.size, 5, none⟩ = some (.int .i64 o.used)) ∧ Fls W A3 o.files) := Lib.hid fun W hW => by
          have q := heap_below hW (lt_heap qV3) qV3
          have hb := d3.trans (hW.mono d3.size)
          exact ⟨⟨(cell_heap q 0).trans rfl, (cell_heap q 1).trans rfl, (cell_heap q 2).trans rfl, (cell_heap q 3).trans rfl, (cell_heap q 4).trans rfl, (cell_heap q 5).trans rfl⟩, (f3.below hb).more hb.size⟩
        clear h3 d3 qV3 f3 b3
        go_upto_region 4 with (fail)
        rw [← eV3]
        clear eV3
        obtain ⟨x0, x1, x2, x3⟩ := X1.out V3 hV3
        go_wp2_with (fail)
        refine (R2.out _ hV3).mono ?_
        rintro e w4 ho
        obtain ⟨A4, c4, rfl, f4, hc4, b4⟩ := ho.open_
        clear ho hc4 x0 x1 x2 x3
        have D34 : Below V3.heap.size V3 w4 := b4
        have h4 : Below W1.heap.size W1 w4 := hV3.trans (b4.mono hV3.size)
        obtain ⟨V4, eV4⟩ : ∃ V, V = w4.alloc (.cells #[.int .i64 o.kind, .slice A4 o.files.length c4, .string (bs o.need), .int .i64 o.err, .string (bs o.text), .int .i64 o.used] 50) := ⟨_, rfl⟩
        have hV4 : Below W1.heap.size W1 V4 := by rw [eV4]; exact h4.alloc h4.size _
        have d4 : Below w4.heap.size w4 V4 := by rw [eV4]; exact (Below.refl _ _).alloc (Nat.le_refl _) _
        have qV4 : V4.heap[w4.heap.size]? = some (.cells #[.int .i64 o.kind, .slice A4 o.files.length c4, .string (bs o.need), .int .i64 o.err, .string (bs o.text), .int .i64 o.used] 50 (0, 0)) := by rw [eV4]; exact heap_alloc_new w4 _
        have Y4 : Hid (∀ W, Below V4.heap.size V4 W → (W.cell? ⟨w4.heap.size, 0, none⟩ = some (.int .i64 o.kind) ∧ W.cell? ⟨w4.heap.size, 1, none⟩ = some (.slice A4 o.files.length c4) ∧ W.cell? ⟨w4.heap.size, 2, none⟩ = some (.string (bs o.need)) ∧ W.cell? ⟨w4.heap.size, 3, none⟩ = some (.int .i64 o.err) ∧ W.cell? ⟨w4.heap.size, 4, none⟩ = some (.string (bs o.text)) ∧ W.cell? ⟨w4.heap.size, 5, none⟩ = some (.int .i64 o.used)) ∧ Fls W A4 o.files) := Lib.hid fun W hW => by
          have q := heap_below hW (lt_heap qV4) qV4
          have hb := d4.trans (hW.mono d4.size)
          exact ⟨⟨(cell_heap q 0).trans rfl, (cell_heap q 1).trans rfl, (cell_heap q 2).trans rfl, (cell_heap q 3).trans rfl, (cell_heap q 4).trans rfl, (cell_heap q 5).trans rfl⟩, (f4.below hb).more hb.size⟩
        have D4 : Below V3.heap.size V3 V4 := D34.trans (d4.mono D34.size)
        clear h4 d4 qV4 f4 b4 D34
        go_upto_region 5 with (fail)
        rw [← eV4]
        clear eV4
        obtain ⟨⟨y0, y1, y2, y3, y4, y5⟩, yf⟩ := Y3.out V4 D4
        obtain ⟨⟨z0, z1, z2, z3, z4, z5⟩, zf⟩ := Y4.out V4 (Below.refl _ _)
        by_cases hu1 : o.used < 1
        · have du1 : decide (o.used < 1) = true := decide_eq_true hu1
          go_wp2_with (first | (go_at_call 29; (with_reducible refine (rsame6_any o.kind o.err o.used (bs o.need) (bs o.text) o.files A3 A4 c3 c4 _ yf zf OL.out).mono ?_); rintro e wsm ⟨rfl, bsm⟩; have hV5 : Below W1.heap.size W1 wsm := hV4.trans (bsm.mono hV4.size); have D5 : Below V3.heap.size V3 wsm := D4.trans (bsm.mono D4.size); clear y0 y1 y2 y3 y4 y5 yf z0 z1 z2 z3 z4 z5 zf bsm; obtain ⟨⟨y0, y1, y2, y3, y4, y5⟩, yf⟩ := Y3.out wsm D5; obtain ⟨x0, x1, x2, x3⟩ := X1.out wsm hV5; have hA := HB.out _ hV5) | (go_at_call 26; (with_reducible refine (AW.out _ hA).mono ?_); rintro e wz ⟨rfl, bz⟩))
          go_ret
          exact ⟨rfl, hA.trans (bz.mono hA.size)⟩
        · have du1 : decide (o.used < 1) = false := decide_eq_false hu1
          have hu2 : 1 ≤ o.used := by omega
          go_upto_region 11 with ((go_at_call 29; (with_reducible refine (rsame6_any o.kind o.err o.used (bs o.need) (bs o.text) o.files A3 A4 c3 c4 _ yf zf OL.out).mono ?_); rintro e wsm ⟨rfl, bsm⟩; have hV5 : Below W1.heap.size W1 wsm := hV4.trans (bsm.mono hV4.size); have D5 : Below V3.heap.size V3 wsm := D4.trans (bsm.mono D4.size); clear y0 y1 y2 y3 y4 y5 yf z0 z1 z2 z3 z4 z5 zf bsm; obtain ⟨⟨y0, y1, y2, y3, y4, y5⟩, yf⟩ := Y3.out wsm D5; obtain ⟨x0, x1, x2, x3⟩ := X1.out wsm hV5; have hA := HB.out _ hV5))
          clear y0 y1 y2 y3 y4 hA x0 x1 x2 x3
          obtain ⟨x0, x1, x2, x3⟩ := X1.out wsm hV5
          go_wp2_with (fail)
          refine (R3.out hu2 _ hV5).mono ?_
          rintro e w6 ho
          obtain ⟨A6, c6, rfl, f6, hc6, b6⟩ := ho.open_
          clear ho hc6 x0 x1 x2 x3
          have D6' : Below V3.heap.size V3 w6 := D5.trans (b6.mono D5.size)
          have h6 : Below W1.heap.size W1 w6 := hV5.trans (b6.mono hV5.size)
          obtain ⟨V6, eV6⟩ : ∃ V, V = w6.alloc (.cells #[.int .i64 o.kind, .slice A6 o.files.length c6, .string (bs o.need), .int .i64 o.err, .string (bs o.text), .int .i64 o.used] 50) := ⟨_, rfl⟩
          have hV6 : Below W1.heap.size W1 V6 := by rw [eV6]; exact h6.alloc h6.size _
          have d6 : Below w6.heap.size w6 V6 := by rw [eV6]; exact (Below.refl _ _).alloc (Nat.le_refl _) _
          have qV6 : V6.heap[w6.heap.size]? = some (.cells #[.int .i64 o.kind, .slice A6 o.files.length c6, .string (bs o.need), .int .i64 o.err, .string (bs o.text), .int .i64 o.used] 50 (0, 0)) := by rw [eV6]; exact heap_alloc_new w6 _
          have Y6 : Hid (∀ W, Below V6.heap.size V6 W → (W.cell? ⟨w6.heap.size, 0, none⟩ = some (.int .i64 o.kind) ∧ W.cell? ⟨w6.heap.size, 1, none⟩ = some (.slice A6 o.files.length c6) ∧ W.cell? ⟨w6.heap.size, 2, none⟩ = some (.string (bs o.need)) ∧ W.cell? ⟨w6.heap.size, 3, none⟩ = some (.int .i64 o.err) ∧ W.cell? ⟨w6.heap.size, 4, none⟩ = some (.string (bs o.text)) ∧ W.cell? ⟨w6.heap.size, 5, none⟩ = some (.int .i64 o.used)) ∧ Fls W A6 o.files) := Lib.hid fun W hW => by
            have q := heap_below hW (lt_heap qV6) qV6
            have hb := d6.trans (hW.mono d6.size)
            exact ⟨⟨(cell_heap q 0).trans rfl, (cell_heap q 1).trans rfl, (cell_heap q 2).trans rfl, (cell_heap q 3).trans rfl, (cell_heap q 4).trans rfl, (cell_heap q 5).trans rfl⟩, (f6.below hb).more hb.size⟩
          have D6 : Below V3.heap.size V3 V6 := D6'.trans (d6.mono D6'.size)
          clear h6 d6 qV6 f6 b6 D6'
          go_upto_region 12 with (fail)
          rw [← eV6]
          clear eV6
          clear y5
          obtain ⟨⟨y0, y1, y2, y3, y4, y5⟩, yf⟩ := Y3.out V6 D6
          obtain ⟨⟨z0, z1, z2, z3, z4, z5⟩, zf⟩ := Y6.out V6 (Below.refl _ _)
          by_cases hu3 : o.used = 1
          · have du3 : (o.used == 1) = true := by simpa using hu3
            clear hu3
            go_wp2_with (first | (go_at_call 29; (with_reducible refine (rsame6_any o.kind o.err o.used (bs o.need) (bs o.text) o.files A3 A6 c3 c6 _ yf zf OL.out).mono ?_); rintro e wsn ⟨rfl, bsm⟩; have hV7 : Below W1.heap.size W1 wsn := hV6.trans (bsm.mono hV6.size); have D7 : Below V3.heap.size V3 wsn := D6.trans (bsm.mono D6.size); clear y0 y1 y2 y3 y4 y5 yf z0 z1 z2 z3 z4 z5 zf bsm; obtain ⟨⟨y0, y1, y2, y3, y4, y5⟩, yf⟩ := Y3.out wsn D7; obtain ⟨x0, x1, x2, x3⟩ := X1.out wsn hV7; have hA := HB.out _ hV7) | (go_at_call 26; (with_reducible refine (AW.out _ hA).mono ?_); rintro e wz ⟨rfl, bz⟩))
            go_ret
            exact ⟨rfl, hA.trans (bz.mono hA.size)⟩
          · have du3 : (o.used == 1) = false := by simpa using hu3
            obtain ⟨ew1, ew2⟩ := EW.out hu2 hu3
            have EW1 := Lib.hid ew1
            have EW2 := Lib.hid ew2
            clear ew1 ew2
            go_upto_region 16 with ((go_at_call 29; (with_reducible refine (rsame6_any o.kind o.err o.used (bs o.need) (bs o.text) o.files A3 A6 c3 c6 _ yf zf OL.out).mono ?_); rintro e wsn ⟨rfl, bsm⟩; have hV7 : Below W1.heap.size W1 wsn := hV6.trans (bsm.mono hV6.size); have D7 : Below V3.heap.size V3 wsn := D6.trans (bsm.mono D6.size); clear y0 y1 y2 y3 y4 y5 yf z0 z1 z2 z3 z4 z5 zf bsm; obtain ⟨⟨y0, y1, y2, y3, y4, y5⟩, yf⟩ := Y3.out wsn D7; obtain ⟨x0, x1, x2, x3⟩ := X1.out wsn hV7; have hA := HB.out _ hV7))
            clear y0 y1 y2 y3 y4 hA x0 x1 x2 x3
            obtain ⟨x0, x1, x2, x3⟩ := X1.out wsn hV7
            go_wp2_with (fail)
            refine (R4.out _ hV7).mono ?_
            rintro e w8 ho
            obtain ⟨A8, c8, rfl, f8, hc8, b8⟩ := ho.open_
            clear ho hc8 x0 x1 x2 x3
            have D8' : Below V3.heap.size V3 w8 := D7.trans (b8.mono D7.size)
            have h8 : Below W1.heap.size W1 w8 := hV7.trans (b8.mono hV7.size)
            obtain ⟨V8, eV8⟩ : ∃ V, V = w8.alloc (.cells #[.int .i64 q.kind, .slice A8 q.files.length c8, .string (bs q.need), .int .i64 q.err, .string (bs q.text), .int .i64 q.used] 50) := ⟨_, rfl⟩
            have hV8 : Below W1.heap.size W1 V8 := by rw [eV8]; exact h8.alloc h8.size _
            have d8 : Below w8.heap.size w8 V8 := by rw [eV8]; exact (Below.refl _ _).alloc (Nat.le_refl _) _
            have qV8 : V8.heap[w8.heap.size]? = some (.cells #[.int .i64 q.kind, .slice A8 q.files.length c8, .string (bs q.need), .int .i64 q.err, .string (bs q.text), .int .i64 q.used] 50 (0, 0)) := by rw [eV8]; exact heap_alloc_new w8 _
            have Y8 : Hid (∀ W, Below V8.heap.size V8 W → (W.cell? ⟨w8.heap.size, 0, none⟩ = some (.int .i64 q.kind) ∧ W.cell? ⟨w8.heap.size, 1, none⟩ = some (.slice A8 q.files.length c8) ∧ W.cell? ⟨w8.heap.size, 2, none⟩ = some (.string (bs q.need)) ∧ W.cell? ⟨w8.heap.size, 3, none⟩ = some (.int .i64 q.err) ∧ W.cell? ⟨w8.heap.size, 4, none⟩ = some (.string (bs q.text)) ∧ W.cell? ⟨w8.heap.size, 5, none⟩ = some (.int .i64 q.used)) ∧ Fls W A8 q.files) := Lib.hid fun W hW => by
              have q := heap_below hW (lt_heap qV8) qV8
              have hb := d8.trans (hW.mono d8.size)
              exact ⟨⟨(cell_heap q 0).trans rfl, (cell_heap q 1).trans rfl, (cell_heap q 2).trans rfl, (cell_heap q 3).trans rfl, (cell_heap q 4).trans rfl, (cell_heap q 5).trans rfl⟩, (f8.below hb).more hb.size⟩
            have D8 : Below V3.heap.size V3 V8 := D8'.trans (d8.mono D8'.size)
            clear h8 d8 qV8 f8 b8 D8'
            go_upto_region 17 with (fail)
            rw [← eV8]
            clear eV8
            clear y5
            obtain ⟨⟨y0, y1, y2, y3, y4, y5⟩, yf⟩ := Y3.out V8 D8
            obtain ⟨⟨z0, z1, z2, z3, z4, z5⟩, zf⟩ := Y8.out V8 (Below.refl _ _)
            rw [EW1.out] at z3
            rw [EW2.out] at z5
            have hA := HB.out _ hV8
            clear EW
            go_wp2_with (go_at_call 26; (with_reducible refine (AW.out _ hA).mono ?_); rintro e wz ⟨rfl, bz⟩)
            go_ret
            exact ⟨rfl, hA.trans (bz.mono hA.size)⟩
    · have hA := HB.out _ b2
      by_cases j1 : fuel < 1
      · have k1 : decide (fuel < 1) = true := decide_eq_true j1
        go_wp2_with (go_at_call 26; (with_reducible refine (AW.out _ hA).mono ?_); rintro e wz ⟨rfl, bz⟩)
        go_ret
        exact ⟨rfl, hA.trans (bz.mono hA.size)⟩
      · have k1 : decide (fuel < 1) = false := decide_eq_false j1
        by_cases j2 : more < fuel
        · have k2 : decide (more < fuel) = true := decide_eq_true j2
          go_wp2_with (go_at_call 26; (with_reducible refine (AW.out _ hA).mono ?_); rintro e wz ⟨rfl, bz⟩)
          go_ret
          exact ⟨rfl, hA.trans (bz.mono hA.size)⟩
        · have k2 : decide (more < fuel) = false := decide_eq_false j2
          have j3 : (2000 : Int) < more := by omega
          have k3 : decide ((2000 : Int) < more) = true := decide_eq_true j3
          clear hg
          go_wp2_with (go_at_call 26; (with_reducible refine (AW.out _ hA).mono ?_); rintro e wz ⟨rfl, bz⟩)
          go_ret
          exact ⟨rfl, hA.trans (bz.mono hA.size)⟩
end Go.Proofs.YtnheahologecfaaGreatDoor.Bx
