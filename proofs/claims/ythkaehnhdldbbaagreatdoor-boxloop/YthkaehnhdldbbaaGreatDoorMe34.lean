/- Joined by mkmerged.py: BxLaw6, BxSortP, BxLaw7. -/
import Derived.Test.YthkaehnhdldbbaaGreatDoorMe33
import Derived.Deep.Cut
import Derived.Test.YthkaehnhdldbbaaGreatDoorMe29
/- BxLaw6, what a claim needs of it (prune.py). -/
namespace Go.Proofs.YthkaehnhdldbbaaGreatDoor.Bx
open Go.RowKit
open Lg (BelowX Lies strV StepsAt RowAt Stp numL rightE print parse)
open Fs (fc fc_len fc_cell Fls B checkE)
set_option linter.unusedVariables false
set_option maxRecDepth 100000
set_option maxHeartbeats 8000000 in
theorem upper_walk (s : ByteArray) (hzs : s.size ≤ maxLen) (w : World) (hE : Lg.Env w) : Calls Tryz.prog 4 #[.string s] w fun e w' => e = .returned (.bool true) ∧ Below w.heap.size w w' := by
  have EV := Lib.hid (fun W (h : Below w.heap.size w W) => hE.below h)
  have AW := Lib.hid (fun W (h : Below w.heap.size w W) => awake_any W (hE.below h))
  have hA := Below.refl w.heap.size w
  by_cases hl : 2048 < s.size
  · have hI : (2048 : Int) < (s.size : Int) := by omega
    go_enter Tryz.func4, Tryz.ntmps4
    go_wp2_with (go_at_call 12; (with_reducible refine (AW.out _ hA).mono ?_); rintro e wz ⟨rfl, bz⟩)
    go_ret
    exact ⟨rfl, bz⟩
  · have hI : ¬ (2048 : Int) < (s.size : Int) := by omega
    clear hzs
    obtain ⟨d, rfl⟩ : ∃ d : B, s = bs d := ⟨Lg.tl s, rfl⟩
    have hd : d.length ≤ 2048 := by have := Lg.tl_len (bs d); have e : (Lg.tl (bs d)).length = d.length := rfl; omega
    have HD := Lib.hid hd
    go_enter Tryz.func4, Tryz.ntmps4
    go_wp2_with (fail)
    refine (one_is 4 _ 1 1 _).mono ?_
    rintro e w1 ⟨rfl, rfl⟩
    go_wp2_with (fail)
    have z1 : (w.alloc (.cells #[.string (bs outf), .string (bs d)] 37)).heap.size = w.heap.size + 1 := by simp
    have b1 : Below w.heap.size w (w.alloc (.cells #[.string (bs outf), .string (bs d)] 37)) := (Below.refl _ _).alloc (Nat.le_refl _) _
    have F1 : Fls (w.alloc (.cells #[.string (bs outf), .string (bs d)] 37)) (some ⟨w.heap.size, 0, none⟩) [⟨bs outf, bs d⟩] := fls_new w ⟨bs outf, bs d⟩
    have L1 := lies_new (w.alloc (.cells #[.string (bs outf), .string (bs d)] 37)) #[.string (bs outf)] [outf] 1 (w.heap.size + 1) z1 rfl rfl
    have S1 := step_new 4 [outf] _ 1 1 (w.heap.size + 2) _ (by simp) L1 rfl (Nat.le_refl _)
    have b2 := (b1.alloc b1.size (.cells #[.string (bs outf)] 9)).alloc (by simp <;> omega) (.cells #[.int .i64 4, .slice (some ⟨w.heap.size + 1, 0, none⟩) 1 1, .int .i64 0, .slice none 0 0] 42)
    obtain ⟨u, hu⟩ := out_upper d hd
    have R1 := Lib.hid (run_line pu1 (by decide) (check_out d hd) (by decide) (by decide) hu _ 1 1 (some ⟨w.heap.size, 0, none⟩) 1 1 none 0 0 _ _ (EV.out _ b2) S1 ((F1.below (((Below.refl _ _).alloc (Nat.le_refl _) _).alloc (by simp) _)).more (by simp <;> omega)) rfl (Nat.le_refl _) Reads.none_ rfl (by decide))
    refine (R1.out).mono ?_
    rintro e w4 ⟨A4, c4, he, f4, hc4, b4⟩
    have he' : e = .returned (.agg #[.int .i64 1, .slice A4 1 c4, .string (bs []), .int .i64 0, .string (bs []), .int .i64 u]) := he
    subst he'
    clear he
    have h4 := b2.trans (b4.mono b2.size)
    have FF : Hid (∀ W, Below w4.heap.size w4 W → Fls W A4 [⟨bs [102], bs (upB d)⟩]) := Lib.hid fun W hW => (f4.below hW).more hW.size
    have F0 : Hid (∀ W, Below w4.heap.size w4 W → Fls W (some ⟨w.heap.size, 0, none⟩) [⟨bs outf, bs d⟩]) := Lib.hid fun W hW => by
      have h := (Below.refl _ _).alloc (Nat.le_refl _) (w := w.alloc (.cells #[.string (bs outf), .string (bs d)] 37)) (.cells #[.string (bs outf)] 9)
      have h2 := h.alloc (by simp) (.cells #[.int .i64 4, .slice (some ⟨w.heap.size + 1, 0, none⟩) 1 1, .int .i64 0, .slice none 0 0] 42)
      have h3 := h2.trans (b4.mono h2.size)
      have h4 := h3.trans (hW.mono h3.size)
      exact (F1.below h4).more h4.size
    have H4 := Lib.hid h4
    clear R1 S1 L1 F1 b1 b2 z1 f4 b4 hu
    go_wp2_with (fail)
    obtain ⟨W5, eW5⟩ : ∃ W5, W5 = w4.alloc (.cells #[.int .i64 1, .slice A4 1 c4, .string (bs []), .int .i64 0, .string (bs []), .int .i64 u] 31) := ⟨_, rfl⟩
    have b5 : Below w4.heap.size w4 W5 := by rw [eW5]; exact (Below.refl _ _).alloc (Nat.le_refl _) _
    have q5 : W5.heap[w4.heap.size]? = some (.cells #[.int .i64 1, .slice A4 1 c4, .string (bs []), .int .i64 0, .string (bs []), .int .i64 u] 31 (0, 0)) := by rw [eW5]; exact heap_alloc_new w4 _
    refine (one_is 4 _ 1 1 _).mono ?_
    rintro e w6 ⟨rfl, rfl⟩
    go_wp2_with (fail)
    refine (one_is 4 _ 1 1 _).mono ?_
    rintro e w7 ⟨rfl, rfl⟩
    clear hA hE
    go_wp2_with (fail)
    generalize (Question.appendCap 2 1 42).cut (w4.tape w4.drawn (Question.appendCap 2 1 42)) = cap at *
    rw [← eW5]
    have z5 : W5.heap.size = w4.heap.size + 1 := by rw [eW5]; simp
    have h5 := H4.out.trans (b5.mono H4.out.size)
    have La := lies_new W5 #[.string (bs outf)] [outf] 1 (w4.heap.size + 1) z5 rfl rfl
    have Lb := lies_new ((W5.alloc (.cells #[.string (bs outf)] 9)).alloc (.cells #[.int .i64 4, .slice (some ⟨w4.heap.size + 1, 0, none⟩) 1 1, .int .i64 0, .slice none 0 0] 42)) #[.string (bs outf)] [outf] 1 (w4.heap.size + 1 + 1 + 1) (by simp; omega) rfl rfl
    have Lc : Lies ((((W5.alloc (.cells #[.string (bs outf)] 9)).alloc (.cells #[.int .i64 4, .slice (some ⟨w4.heap.size + 1, 0, none⟩) 1 1, .int .i64 0, .slice none 0 0] 42)).alloc (.cells #[.string (bs outf)] 9)).alloc (.cells #[.int .i64 4, .slice (some ⟨w4.heap.size + 1 + 1 + 1, 0, none⟩) 1 1, .int .i64 0, .slice none 0 0] 42)) (fun _ => True) 1 (some ⟨w4.heap.size + 1, 0, none⟩) 1 (strV [outf]) := La.mono (by decide) fun b _ hs => ⟨trivial, (((Below.refl _ _).alloc (Nat.le_refl _) _).alloc (by simp) _).alloc (by simp) _ |>.block b hs⟩
    have Ld := Lb.mono (w' := (((W5.alloc (.cells #[.string (bs outf)] 9)).alloc (.cells #[.int .i64 4, .slice (some ⟨w4.heap.size + 1, 0, none⟩) 1 1, .int .i64 0, .slice none 0 0] 42)).alloc (.cells #[.string (bs outf)] 9)).alloc (.cells #[.int .i64 4, .slice (some ⟨w4.heap.size + 1 + 1 + 1, 0, none⟩) 1 1, .int .i64 0, .slice none 0 0] 42)) (ok' := fun _ => True) (by decide) fun b _ hs => ⟨trivial, Below.heap_alloc _ _ _ hs⟩
    have S2 := two_new 4 4 [outf] [outf] _ _ 1 1 1 1 (w4.heap.size + 1 + 1 + 1 + 1 + 1) (Builtin.zeroCells #[.int .i64 0, .slice none 0 0, .int .i64 0, .slice none 0 0] (cap - 2)) _ (by simp; omega) Lc rfl (Nat.le_refl _) Ld rfl (Nat.le_refl _)
    have S3 := S2.dn 1
    have b6 := ((((((h5.alloc h5.size (.cells #[.string (bs outf)] 9)).alloc (by have := h5.size; simp; omega) (.cells #[.int .i64 4, .slice (some ⟨w4.heap.size + 1, 0, none⟩) 1 1, .int .i64 0, .slice none 0 0] 42)).alloc (by have := h5.size; simp; omega) (.cells #[.string (bs outf)] 9)).alloc (by have := h5.size; simp; omega) (.cells #[.int .i64 4, .slice (some ⟨w4.heap.size + 1 + 1 + 1, 0, none⟩) 1 1, .int .i64 0, .slice none 0 0] 42)).alloc (by have := h5.size; simp; omega) (.cells (#[.int .i64 4, .slice (some ⟨w4.heap.size + 1, 0, none⟩) 1 1, .int .i64 0, .slice none 0 0] ++ (#[.int .i64 4, .slice (some ⟨w4.heap.size + 1 + 1 + 1, 0, none⟩) 1 1, .int .i64 0, .slice none 0 0] ++ Builtin.zeroCells #[.int .i64 0, .slice none 0 0, .int .i64 0, .slice none 0 0] (cap - 2))) 42))).drew
    have d6 := ((((((b5.alloc b5.size (.cells #[.string (bs outf)] 9)).alloc (by have := b5.size; simp; omega) (.cells #[.int .i64 4, .slice (some ⟨w4.heap.size + 1, 0, none⟩) 1 1, .int .i64 0, .slice none 0 0] 42)).alloc (by have := b5.size; simp; omega) (.cells #[.string (bs outf)] 9)).alloc (by have := b5.size; simp; omega) (.cells #[.int .i64 4, .slice (some ⟨w4.heap.size + 1 + 1 + 1, 0, none⟩) 1 1, .int .i64 0, .slice none 0 0] 42)).alloc (by have := b5.size; simp; omega) (.cells (#[.int .i64 4, .slice (some ⟨w4.heap.size + 1, 0, none⟩) 1 1, .int .i64 0, .slice none 0 0] ++ (#[.int .i64 4, .slice (some ⟨w4.heap.size + 1 + 1 + 1, 0, none⟩) 1 1, .int .i64 0, .slice none 0 0] ++ Builtin.zeroCells #[.int .i64 0, .slice none 0 0, .int .i64 0, .slice none 0 0] (cap - 2))) 42))).drew
    obtain ⟨u2, hu2⟩ := out_upper2 d HD.out
    have R2 := Lib.hid (run_line pu2 (by decide) (check_out d HD.out) (by decide) (by decide) hu2 _ 2 cap (some ⟨w.heap.size, 0, none⟩) 1 1 none 0 0 _ _ (EV.out _ b6) S3 ((F0.out _ d6).more (Nat.le_refl _)) rfl (Nat.le_refl _) Reads.none_ rfl (by decide))
    refine (R2.out).mono ?_
    rintro e w8 ⟨A8, c8, he, f8, hc8, b8⟩
    have he' : e = .returned (.agg #[.int .i64 1, .slice A8 1 c8, .string (bs []), .int .i64 0, .string (bs []), .int .i64 u2]) := he
    subst he'
    have D8 : Below W5.heap.size W5 w8 := by
      have h := (((((Below.refl W5.heap.size W5).alloc (Nat.le_refl _) (.cells #[.string (bs outf)] 9)).alloc (by simp) (.cells #[.int .i64 4, .slice (some ⟨w4.heap.size + 1, 0, none⟩) 1 1, .int .i64 0, .slice none 0 0] 42)).alloc (by simp; omega) (.cells #[.string (bs outf)] 9)).alloc (by simp; omega) (.cells #[.int .i64 4, .slice (some ⟨w4.heap.size + 1 + 1 + 1, 0, none⟩) 1 1, .int .i64 0, .slice none 0 0] 42)).alloc (by simp; omega) (.cells (#[.int .i64 4, .slice (some ⟨w4.heap.size + 1, 0, none⟩) 1 1, .int .i64 0, .slice none 0 0] ++ (#[.int .i64 4, .slice (some ⟨w4.heap.size + 1 + 1 + 1, 0, none⟩) 1 1, .int .i64 0, .slice none 0 0] ++ Builtin.zeroCells #[.int .i64 0, .slice none 0 0, .int .i64 0, .slice none 0 0] (cap - 2))) 42) |>.drew
      exact h.trans (b8.mono h.size)
    have b48 : Below w4.heap.size w4 w8 := b5.trans (D8.mono b5.size)
    have h8 := H4.out.trans (b48.mono H4.out.size)
    have F8 : Hid (∀ W, Below w8.heap.size w8 W → Fls W A8 [⟨bs [102], bs (upB d)⟩]) := Lib.hid fun W hW => (f8.below hW).more hW.size
    have Q5 : Hid (∀ W, Below w8.heap.size w8 W → W.cell? ⟨w4.heap.size, 0, none⟩ = some (.int .i64 1) ∧ W.cell? ⟨w4.heap.size, 1, none⟩ = some (.slice A4 1 c4)) := Lib.hid fun W hW => by
      have hb := D8.trans (hW.mono D8.size)
      have q := heap_below hb (lt_heap q5) q5
      exact ⟨(cell_heap q 0).trans rfl, (cell_heap q 1).trans rfl⟩
    have G4 : Hid (∀ W, Below w8.heap.size w8 W → Fls W A4 [⟨bs [102], bs (upB d)⟩]) := Lib.hid fun W hW => FF.out W (b48.trans (hW.mono b48.size))
    have H8 := Lib.hid h8
    clear R2 S3 S2 La Lb Lc Ld b6 d6 h5 z5 f8 b8 hu2 D8 b48 q5 b5 F0 FF h8
    obtain ⟨W9, eW9⟩ : ∃ W9, W9 = w8.alloc (.cells #[.int .i64 1, .slice A8 1 c8, .string (bs []), .int .i64 0, .string (bs []), .int .i64 u2] 31) := ⟨_, rfl⟩
    have d9 : Below w8.heap.size w8 W9 := by rw [eW9]; exact (Below.refl _ _).alloc (Nat.le_refl _) _
    have q9 : W9.heap[w8.heap.size]? = some (.cells #[.int .i64 1, .slice A8 1 c8, .string (bs []), .int .i64 0, .string (bs []), .int .i64 u2] 31 (0, 0)) := by rw [eW9]; exact heap_alloc_new w8 _
    have y0 : W9.cell? ⟨w8.heap.size, 0, none⟩ = some (.int .i64 1) := (cell_heap q9 0).trans rfl
    have y1 : W9.cell? ⟨w8.heap.size, 1, none⟩ = some (.slice A8 1 c8) := (cell_heap q9 1).trans rfl
    obtain ⟨x0, x1⟩ := Q5.out W9 d9
    have HB := Lib.hid (fun W (h : Below W9.heap.size W9 W) => (d9.trans (h.mono d9.size) : Below w8.heap.size w8 W))
    have SM : Hid (Calls Tryz.prog 16 #[.slice A4 1 c4, .slice A8 1 c8] W9 fun e w' => e = .returned (.bool true) ∧ Below W9.heap.size W9 w') := Lib.hid (by
      have := Fs.rsameF_any A4 A8 [⟨bs [102], bs (upB d)⟩] [⟨bs [102], bs (upB d)⟩] c4 c8 W9 (by simp) (by simp) (G4.out W9 d9) (F8.out W9 d9)
      rw [decide_eq_true rfl] at this
      exact this)
    obtain ⟨ad, eA, had, hc⟩ := (G4.out W9 d9).2 (by simp)
    have g1 : W9.cell? (ad.add 1) = some (.string (bs (upB d))) := hc 1 _ rfl
    have AD := Lib.hid hc
    have g2 : W9.cell? ⟨ad.block, ad.off + 1, none⟩ = some (.string (bs (upB d))) := hc 1 _ rfl
    have e1 : ((bs (upB d)).size : Int) = ((bs d).size : Int) := by have h1 := Lg.tl_len (bs (upB d)); have h2 := Lg.tl_len (bs d); have h3 := upB_len d; have h4 : (Lg.tl (bs (upB d))).length = (upB d).length := rfl; have h5 : (Lg.tl (bs d)).length = d.length := rfl; omega
    subst eA
    go_upto_region 6 with (fail)
    rw [← eW9]
    have e2 : ((bs (upB d)).size : Int) = (bs d).size := e1
    have e3 : (((bs (upB d)).size : Int) != ((bs d).size : Int)) = false := by rw [e1]; simp
    clear e1 e2 eW9
    go_upto_region 8 with (go_at_call 16; (with_reducible refine (SM.out).mono ?_); rintro e wS ⟨rfl, bS⟩)
    have LC : Hid (∀ V, Below W9.heap.size W9 V → V.cell? ⟨w4.heap.size, 1, none⟩ = some (.slice (some ad) 1 c4) ∧ V.cell? ⟨ad.block, ad.off + 1, none⟩ = some (.string (bs (upB d)))) := Lib.hid fun V hV => by
      have h1 := d9.trans (hV.mono d9.size)
      refine ⟨(Q5.out V h1).2, ?_⟩
      obtain ⟨ad', e', had', hc'⟩ := (G4.out V h1).2 (by simp)
      injection e' with e'
      subst e'
      exact hc' 1 _ rfl
    have hsz : (bs (upB d)).size = (bs d).size := by have h1 := Lg.tl_len (bs (upB d)); have h2 := Lg.tl_len (bs d); have h3 := upB_len d; have h4 : (Lg.tl (bs (upB d))).length = (upB d).length := rfl; have h5 : (Lg.tl (bs d)).length = d.length := rfl; omega
    have UP : Hid (∀ k (h1 : k < (bs d).size) (h2 : k < (bs (upB d)).size), (bs (upB d))[k]'h2 = upC ((bs d)[k]'h1)) := Lib.hid fun k h1 h2 => by
      have k1 : k < d.length := by have h3 := Lg.tl_len (bs d); have h5 : (Lg.tl (bs d)).length = d.length := rfl; omega
      have k2 : k < (upB d).length := by rw [upB_len]; exact k1
      show (upB d)[k]'k2 = upC (d[k]'k1)
      exact List.getElem_map upC
    have HS := Lib.hid hsz
    have HB9 := Lib.hid (fun V (hV : Below W9.heap.size W9 V) => H8.out.trans ((HB.out V hV).mono H8.out.size))
    clear x0 x1 y0 y1 g1 g2 e3 hc hsz G4 F8 Q5 AD SM H4 H8 HB d9
    generalize bs (upB d) = t at *
    generalize bs d = s at *
    go_wp2_with (fail)
    go_loopw [6] (fun i V => ∃ k : Nat, i = .int .i64 k ∧ k ≤ s.size ∧ Below W9.heap.size W9 V) (fun i _ => s.size - (intOf i).toNat)
    case atStart => exact ⟨0, rfl, by omega, bS⟩
    case round =>
      obtain ⟨k, rfl, hk, hbx⟩ := hrel
      by_cases hlt : k < s.size
      · have hkI : (k : Int) < (s.size : Int) := by omega
        have hlt2 : k < t.size := by have := HS.out; omega
        have hkT : (k : Int) < (t.size : Int) := by omega
        obtain ⟨x1, x2⟩ := LC.out _ hbx
        have U := UP.out k hlt hlt2
        by_cases h1 : 97 ≤ (s[k]'hlt).toNat ∧ (s[k]'hlt).toNat ≤ 122
        · have g1 : (97 : Int) ≤ ((s[k]'hlt).toNat : Int) := by omega
          have g2 : ((s[k]'hlt).toNat : Int) ≤ 122 := by omega
          have e : ((t[k]'hlt2).toNat : Int) = ((s[k]'hlt).toNat : Int) - 32 := by
            rw [U]; unfold upC; rw [if_pos h1, UInt8.toNat_sub_of_le _ _ (by rw [UInt8.le_iff_toNat_le]; show 32 ≤ (s[k]'hlt).toNat; omega)]
            show (((s[k]'hlt).toNat - 32 : Nat) : Int) = _
            omega
          clear U h1
          go_wp2_with (fail)
          go_roundw
          case rel => exact ⟨k + 1, by go_num, by omega, hbx⟩
          case measure => simp [intOf]; omega
        · have e : ((t[k]'hlt2).toNat : Int) = ((s[k]'hlt).toNat : Int) := by
            rw [U]; unfold upC; rw [if_neg h1]
          clear U
          by_cases h97 : 97 ≤ (s[k]'hlt).toNat
          · have g1 : (97 : Int) ≤ ((s[k]'hlt).toNat : Int) := by omega
            have g2 : ¬ ((s[k]'hlt).toNat : Int) ≤ 122 := by omega
            clear h1 h97
            go_wp2_with (fail)
            go_roundw
            case rel => exact ⟨k + 1, by go_num, by omega, hbx⟩
            case measure => simp [intOf]; omega
          · have g1 : ¬ (97 : Int) ≤ ((s[k]'hlt).toNat : Int) := by omega
            clear h1 h97
            go_wp2_with (fail)
            go_roundw
            case rel => exact ⟨k + 1, by go_num, by omega, hbx⟩
            case measure => simp [intOf]; omega
      · obtain rfl : k = s.size := by omega
        have hA := HB9.out _ hbx
        go_wp2_with (go_at_call 12; (with_reducible refine (AW.out _ hA).mono ?_); rintro e wz ⟨rfl, bz⟩)
        go_ret
        exact ⟨rfl, hA.trans (bz.mono hA.size)⟩
end Go.Proofs.YthkaehnhdldbbaaGreatDoor.Bx
/- BxSortP, what a claim needs of it (prune.py). -/
namespace Go.Proofs.YthkaehnhdldbbaaGreatDoor.Bx
open Fs (B)
set_option linter.unusedVariables false
def occ (l : B) (k : Nat) (c : UInt8) : Int := ((l.take k).count c : Nat)
theorem occ_next {l : B} {k : Nat} (hk : k < l.length) (c : UInt8) : occ l (k + 1) c = occ l k c + (if l[k] = c then 1 else 0) := by
  unfold occ
  rw [List.take_succ_eq_append_getElem hk, List.count_append, List.count_singleton]
  by_cases h : l[k] = c
  · simp [h]
  · simp [h]
theorem occ_end {l : B} {k : Nat} (hk : l.length ≤ k) (c : UInt8) : occ l k c = (l.count c : Nat) := by
  unfold occ
  rw [List.take_of_length_le hk]
def lacks (d : B) : Nat := if d ≠ [] ∧ d.getLast? ≠ some 10 then 1 else 0
theorem full_lacks (d : B) : full d = d ++ List.replicate (lacks d) 10 := by
  rw [full_eq]
  unfold lacks
  by_cases h : d = []
  · rw [if_pos h, if_neg (by simp [h]), h]; rfl
  · rw [if_neg h]
    by_cases h2 : d.getLast? = some 10
    · rw [if_pos h2, if_neg (by simp [h2])]; simp
    · rw [if_neg h2, if_pos ⟨h, h2⟩]; rfl
theorem so_size (d : B) : (soB d).length = d.length + lacks d := by
  rw [so_len, full_lacks, List.length_append, List.length_replicate]
theorem so_count (d : B) (c : UInt8) : ((soB d).count c : Int) - (d.count c : Nat) = if c = 10 then (lacks d : Int) else 0 := by
  rw [(so_perm d).count_eq, full_lacks, List.count_append, List.count_replicate]
  by_cases h : c = 10
  · subst h; simp; omega
  · have h2 : (10 : UInt8) ≠ c := fun e => h e.symm
    simp [h, h2]
def offs (L : List B) (j : Nat) : Nat := ((L.take j).flatten).length
theorem offs_next {L : List B} {j : Nat} (hj : j < L.length) : offs L (j + 1) = offs L j + L[j].length := by
  unfold offs
  rw [List.take_succ_eq_append_getElem hj, List.flatten_append, List.length_append]
  simp
theorem offs_all (L : List B) : offs L L.length = L.flatten.length := by rw [offs, List.take_length]
theorem offs_mono (L : List B) {i j : Nat} (h : i ≤ j) : offs L i ≤ offs L j := by
  unfold offs
  obtain ⟨k, rfl⟩ := Nat.le.dest h
  rw [List.take_add, List.flatten_append, List.length_append]
  omega
theorem flat_split {L : List B} {j : Nat} (hj : j < L.length) : L.flatten = (L.take j).flatten ++ (L[j] ++ (L.drop (j + 1)).flatten) := by
  conv => lhs; rw [← List.take_append_drop j L, List.flatten_append, List.drop_eq_getElem_cons hj, List.flatten_cons]
theorem flat_at {L : List B} {j i : Nat} (hj : j < L.length) (h1 : offs L j ≤ i) (h2 : i < offs L (j + 1)) : L.flatten[i]? = L[j][i - offs L j]? := by
  rw [offs_next hj] at h2
  rw [flat_split hj, List.getElem?_append_right h1, List.getElem?_append_left (by unfold offs at h1 h2; omega)]
  rfl
theorem flat_line {L : List B} {j : Nat} (hj : j < L.length) : (L.flatten.drop (offs L j)).take (L[j].length) = L[j] := by
  rw [flat_split hj]
  unfold offs
  rw [List.drop_left, List.take_left]
def LinesL (L : List B) : Prop := ∀ x ∈ L, ∃ p, x = p ++ [10] ∧ (10 : UInt8) ∉ p
theorem line_nl {L : List B} (h : LinesL L) {j i : Nat} (hj : j < L.length) (h1 : offs L j ≤ i) (h2 : i < offs L (j + 1)) (hi : i < L.flatten.length) : L.flatten[i] = 10 ↔ i + 1 = offs L (j + 1) := by
  have e := flat_at hj h1 h2
  rw [List.getElem?_eq_getElem hi] at e
  obtain ⟨p, hp, hn⟩ := h _ (List.getElem_mem hj)
  rw [offs_next hj] at h2 ⊢
  have hl : L[j].length = p.length + 1 := by rw [hp]; simp
  rw [hp] at e
  by_cases hx : i - offs L j < p.length
  · rw [List.getElem?_append_left hx, List.getElem?_eq_getElem hx] at e
    have e := Option.some.inj e
    constructor
    · intro h10
      exact absurd (by rw [← h10, e]; exact List.getElem_mem hx) hn
    · intro h; omega
  · have : i - offs L j = p.length := by omega
    rw [this] at e
    simp at e
    exact ⟨fun _ => by omega, fun _ => e⟩
theorem so_lines (d : B) : LinesL (sortL (linesB d)) := by
  obtain ⟨ps, h1, h2⟩ := sort_parts d
  rw [h1]
  intro x hx
  obtain ⟨p, hp, rfl⟩ := List.mem_map.1 hx
  exact ⟨p, rfl, h2 p hp⟩
def lastL (L : List B) (j : Nat) : B := if h : 0 < j ∧ j ≤ L.length then L[j - 1]'(by omega) else []
theorem last_zero (L : List B) : lastL L 0 = [] := by unfold lastL; rw [dif_neg (by omega)]
theorem last_next {L : List B} {j : Nat} (hj : j < L.length) : lastL L (j + 1) = L[j] := by unfold lastL; rw [dif_pos (by omega)]; rfl
theorem last_le {L : List B} (h : L.Pairwise (· ≤ ·)) {j : Nat} (hj : j < L.length) : ¬ L[j] < lastL L j := by
  rcases j with _ | j
  · rw [last_zero]; exact List.not_lt_nil _
  · rw [last_next (by omega)]
    exact List.not_lt.2 (List.pairwise_iff_getElem.1 h j (j + 1) (by omega) hj (by omega))
end Go.Proofs.YthkaehnhdldbbaaGreatDoor.Bx
/- BxLaw7, what a claim needs of it (prune.py). -/
namespace Go.Proofs.YthkaehnhdldbbaaGreatDoor.Bx
open Go.RowKit
open Lg (BelowX Lies strV StepsAt RowAt Stp numL rightE print parse)
open Fs (fc fc_len fc_cell Fls B checkE)
set_option linter.unusedVariables false
set_option maxRecDepth 100000
theorem ps1 : parse [115, 111, 114, 116, 32, 111, 117, 116, 47, 102, 10] = ([⟨5, [outf], 0, []⟩], 0) := by kernel_rfl
theorem ps2 : parse [115, 111, 114, 116, 32, 111, 117, 116, 47, 102, 10, 115, 111, 114, 116, 32, 111, 117, 116, 47, 102, 10] = ([⟨5, [outf], 0, []⟩, ⟨5, [outf], 0, []⟩], 0) := by kernel_rfl
theorem out_sort (d : B) (hd : d.length ≤ 2000) : ∃ u : Int, ended (run withF withoutF [] upB soB 99 [⟨5, [outf], 0, []⟩] [⟨bs outf, bs d⟩]) = ⟨1, [⟨bs [102], bs (soB d)⟩], [], 0, [], u⟩ := by
  obtain ⟨u, h⟩ := run_sort (names := []) (up := upB) d hd
  rw [h]
  exact ⟨u, by unfold ended; rw [if_neg (by simp [over])]; show Out.mk 1 (Fs.under [⟨bs outf, bs (soB d)⟩] outB) [] 0 [] u = _; rw [show outB = [111, 117, 116] from rfl, under_out]⟩
theorem out_sort2 (d : B) (hd : d.length ≤ 2000) : ∃ u : Int, ended (run withF withoutF [] upB soB 99 [⟨5, [outf], 0, []⟩, ⟨5, [outf], 0, []⟩] [⟨bs outf, bs d⟩]) = ⟨1, [⟨bs [102], bs (soB d)⟩], [], 0, [], u⟩ := by
  obtain ⟨u, h⟩ := run_sort2 (names := []) (up := upB) d hd
  rw [h]
  exact ⟨u, by unfold ended; rw [if_neg (by simp [over])]; show Out.mk 1 (Fs.under [⟨bs outf, bs (soB d)⟩] outB) [] 0 [] u = _; rw [show outB = [111, 117, 116] from rfl, under_out]⟩
theorem out_loop (n : Nat) (hn : n ≤ 40) : ∃ u : Int, ended (run withF withoutF [] upB soB 2000 (looped n) [⟨bs outf, ⟨#[]⟩⟩]) = ⟨1, [⟨bs [102], bs (xs n)⟩], [], 0, [], u⟩ := by
  obtain ⟨u, h⟩ := run_loop (names := []) (up := upB) (so := soB) n hn
  rw [h]
  exact ⟨u, by unfold ended; rw [if_neg (by simp [over])]; show Out.mk 1 (Fs.under (rnd n) outB) [] 0 [] u = _; rw [show outB = [111, 117, 116] from rfl, under_rnd]⟩
end Go.Proofs.YthkaehnhdldbbaaGreatDoor.Bx
