/- Joined by mkmerged.py: BxAwakeW, BxCame, BxOutL, BxLaw3. -/
import Derived.Test.YtdidnlkilleljaaGreatDoorMf27
import Derived.Deep.Cut
import Derived.Test.YtdidnlkilleljaaGreatDoorMf25
/- BxAwakeW, what a claim needs of it (prune.py). -/
namespace Go.Proofs.YtdidnlkilleljaaGreatDoor.Bx
open Go.RowKit
open Lg (BelowX Lies strV StepsAt RowAt Stp numL rightE print parse)
open Fs (fc fc_len fc_cell fc_one Fls B under checkE)
set_option linter.unusedVariables false
set_option maxRecDepth 100000
def RunIs (k : Int) (n : Nat) (fs : List Fl) (need : ByteArray) (er : Int) (text : ByteArray) (us : Int) (w : World) (e : Ending) (w' : World) : Prop :=
  ∃ A c, e = .returned (.agg #[.int .i64 k, .slice A n c, .string need, .int .i64 er, .string text, .int .i64 us]) ∧ Fls w' A fs ∧ Below w.heap.size w w'
theorem run1 (W : World) (L : Option Addr) (hE : Lg.Env W) (hst : StepsAt W (fun _ => True) L 1 l1) : Calls Tryz.prog 10 #[.slice L 1 1, .slice none 0 0, .slice none 0 0, .int .i64 9] W (RunIs 1 1 [⟨bs [97], bs [120, 10]⟩] ⟨#[]⟩ 0 ⟨#[]⟩ 2 W) :=
  (run_line p1 (by decide) check_nil (by decide) (by decide) r1 L 1 1 none 0 0 none 0 0 W _ hE hst Reads.none_ rfl (Nat.le_refl _) Reads.none_ rfl (by decide)).mono fun e w' ⟨A, c, h1, h2, _, h3⟩ => ⟨A, c, h1, h2, h3⟩
theorem run2 (W : World) (L : Option Addr) (hE : Lg.Env W) (hst : StepsAt W (fun _ => True) L 1 l2) : Calls Tryz.prog 10 #[.slice L 1 1, .slice none 0 0, .slice none 0 0, .int .i64 9] W (RunIs 2 0 [] ⟨#[116]⟩ 0 ⟨#[]⟩ 1 W) :=
  (run_line p2 (by decide) check_nil (by decide) (by decide) r2 L 1 1 none 0 0 none 0 0 W _ hE hst Reads.none_ rfl (Nat.le_refl _) Reads.none_ rfl (by decide)).mono fun e w' ⟨A, c, h1, h2, _, h3⟩ => ⟨A, c, h1, h2, h3⟩
theorem run3 (W : World) (L N : Option Addr) (hE : Lg.Env W) (hst : StepsAt W (fun _ => True) L 1 l2) (hn : Reads W W.heap.size 1 N 1 (strV [[116]])) : Calls Tryz.prog 10 #[.slice L 1 1, .slice none 0 0, .slice N 1 1, .int .i64 9] W (RunIs 1 0 [] ⟨#[]⟩ 0 ⟨#[]⟩ 1 W) :=
  (run_line p2 (by decide) check_nil (by decide) (by decide) r3 L 1 1 none 0 0 N 1 1 W _ hE hst Reads.none_ rfl (Nat.le_refl _) hn rfl (by decide)).mono fun e w' ⟨A, c, h1, h2, _, h3⟩ => ⟨A, c, h1, h2, h3⟩
theorem run4 (W : World) (L : Option Addr) (hE : Lg.Env W) (hst : StepsAt W (fun _ => True) L 1 l4) : Calls Tryz.prog 10 #[.slice L 1 1, .slice none 0 0, .slice none 0 0, .int .i64 50] W (RunIs 3 0 [] ⟨#[]⟩ 34 ⟨#[]⟩ 50 W) :=
  (run_line p4 (by decide) check_nil (by decide) (by decide) r4 L 1 1 none 0 0 none 0 0 W _ hE hst Reads.none_ rfl (Nat.le_refl _) Reads.none_ rfl (by decide)).mono fun e w' ⟨A, c, h1, h2, _, h3⟩ => ⟨A, c, h1, h2, h3⟩
theorem run5 (W : World) (L : Option Addr) (hE : Lg.Env W) (hst : StepsAt W (fun _ => True) L 1 l5) : Calls Tryz.prog 10 #[.slice L 1 1, .slice none 0 0, .slice none 0 0, .int .i64 9] W (RunIs 3 0 [] ⟨#[]⟩ 17 ⟨#[97]⟩ 1 W) :=
  (run_line p5 (by decide) check_nil (by decide) (by decide) r5 L 1 1 none 0 0 none 0 0 W _ hE hst Reads.none_ rfl (Nat.le_refl _) Reads.none_ rfl (by decide)).mono fun e w' ⟨A, c, h1, h2, _, h3⟩ => ⟨A, c, h1, h2, h3⟩
theorem loop_new (w : World) (n : Int) (b : List Stp) (L : Option Addr) (m c g : Nat) (hg : w.heap.size = g) (h : StepsAt w (fun _ => True) L m b) (hc : m ≤ c) :
    StepsAt (w.alloc (.cells #[.int .i64 9, .slice none 0 0, .int .i64 n, .slice L m c] 61)) (fun _ => True) (some ⟨g, 0, none⟩) 1 [⟨9, [], n, b⟩] := by
  subst hg
  have q := heap_alloc_new w (.cells #[.int .i64 9, .slice none 0 0, .int .i64 n, .slice L m c] 61)
  obtain ⟨h1, cells, h2, h3⟩ := h
  have keep : ∀ b, True → b < w.heap.size → True ∧ (w.alloc (.cells #[.int .i64 9, .slice none 0 0, .int .i64 n, .slice L m c] 61)).heap[b]? = w.heap[b]? := fun b _ hs => ⟨trivial, Below.heap_alloc _ _ _ hs⟩
  refine ⟨rfl, [.int .i64 9, .slice none 0 0, .int .i64 n, .slice L m c], ⟨rfl, fun _ => ⟨_, rfl, trivial, fun j u hu => ?_⟩⟩, ?_⟩
  · rw [Lg.add_eq, cell_heap q]
    simpa using hu
  · exact .cons rfl (Nat.le_refl _) Lies.none_ h1 hc (h2.mono (by decide) keep) (h3.mono keep) .nil
set_option maxHeartbeats 8000000 in
theorem awake_any (w : World) (hE : Lg.Env w) : Calls Tryz.prog 9 #[] w fun e w' => e = .returned (.bool true) ∧ Below w.heap.size w w' := by
  have EV := Lib.hid (fun W (h : Below w.heap.size w W) => hE.below h)
  have ONE := Lib.hid one_any
  clear hE
  go_enter Tryz.func9, Tryz.ntmps9
  go_wp2_with (fail)
  refine (ONE.out 1 [[111, 117, 116, 47, 97], [120]] _ 2 2 (w.heap.size + 1) _ (by simp) (lies_new w _ _ 2 _ rfl rfl rfl) rfl (Nat.le_refl _)).mono ?_
  rintro e w1 ⟨rfl, st1, b1, z1⟩
  have h1 := ((Below.refl _ _).alloc (Nat.le_refl _) _).trans (b1.mono (by simp))
  have ST1 := Lib.hid st1
  have H1 := Lib.hid h1
  clear st1 b1 z1 h1
  go_wp2_with (fail)
  refine (run1 w1 _ (EV.out _ H1.out) ST1.out).mono ?_
  rintro e w2 ⟨A2, c2, rfl, f2, b2⟩
  have F2 := Lib.hid f2
  have H2 := Lib.hid (H1.out.trans (b2.mono H1.out.size))
  clear f2 b2 ST1
  go_wp2_with (fail)
  refine (ONE.out 7 [[116]] _ 1 1 (w2.heap.size + 2) _ (by simp) (lies_new _ _ _ 1 (w2.heap.size + 1) (by simp) rfl rfl) rfl (Nat.le_refl _)).mono ?_
  rintro e w3 ⟨rfl, st3, b3, z3⟩
  have ST3 := Lib.hid st3
  have H3 := Lib.hid (((H2.out.alloc H2.out.size _).alloc (by simp; have := H2.out.size; omega) _).trans (b3.mono (by simp; have := H2.out.size; omega)))
  have K2x3 := Lib.hid (heap_below b3 (by simp; omega) (heap_alloc_lt (heap_alloc_new w2 _)))
  have D3 : Hid (Below w2.heap.size w2 w3) := Lib.hid ((((Below.refl _ _).alloc (Nat.le_refl _) _).alloc (by simp) _).trans (b3.mono (by simp; omega)))
  clear st3 b3 z3
  go_wp2_with (fail)
  refine (run2 w3 _ (EV.out _ H3.out) ST3.out).mono ?_
  rintro e w4 ⟨A4, c4, rfl, f4, b4⟩
  have H4 := Lib.hid (H3.out.trans (b4.mono H3.out.size))
  have K2x4 := Lib.hid (heap_below b4 (lt_heap K2x3.out) K2x3.out)
  have D4 : Hid (Below w3.heap.size w3 w4) := Lib.hid b4
  clear f4 b4 ST3 K2x3
  go_wp2_with (fail)
  refine (ONE.out 7 [[116]] _ 1 1 (w4.heap.size + 2) _ (by simp) (lies_new _ _ _ 1 (w4.heap.size + 1) (by simp) rfl rfl) rfl (Nat.le_refl _)).mono ?_
  rintro e w5 ⟨rfl, st5, b5, z5⟩
  have ST5 := Lib.hid st5
  have D5 : Hid (Below w4.heap.size w4 w5) := Lib.hid ((((Below.refl _ _).alloc (Nat.le_refl _) _).alloc (by simp) _).trans (b5.mono (by simp; omega)))
  have H5 := Lib.hid (H4.out.trans (D5.out.mono H4.out.size))
  have K4x5 := Lib.hid (heap_below b5 (by simp; omega) (heap_alloc_lt (heap_alloc_new w4 _)))
  have K2x5 := Lib.hid (heap_below D5.out (lt_heap K2x4.out) K2x4.out)
  clear K2x4
  clear st5 b5 z5
  go_wp2_with (fail)
  refine (run3 _ _ _ (EV.out _ (H5.out.alloc H5.out.size _)) (ST5.out.mono fun k _ hs => ⟨trivial, Below.heap_alloc _ _ _ hs⟩) ((lies_new w5 _ [[116]] 1 _ rfl rfl rfl).reads (by decide))).mono ?_
  rintro e w6 ⟨A6, c6, rfl, f6, b6⟩
  have D6 : Hid (Below w5.heap.size w5 w6) := Lib.hid (((Below.refl _ _).alloc (Nat.le_refl _) _).trans (b6.mono (by simp)))
  have H6 := Lib.hid (H5.out.trans (D6.out.mono H5.out.size))
  have K2x6 := Lib.hid (heap_below D6.out (lt_heap K2x5.out) K2x5.out)
  clear K2x5
  have K4x6 := Lib.hid (heap_below D6.out (lt_heap K4x5.out) K4x5.out)
  clear K4x5
  clear f6 b6 ST5
  go_wp2_with (fail)
  refine (ONE.out 6 [[97]] _ 1 1 (w6.heap.size + 2) _ (by simp) (lies_new _ _ _ 1 (w6.heap.size + 1) (by simp) rfl rfl) rfl (Nat.le_refl _)).mono ?_
  rintro e w7 ⟨rfl, st7, b7, z7⟩
  have ST7 := Lib.hid st7
  have D7 : Hid (Below w6.heap.size w6 w7) := Lib.hid ((((Below.refl _ _).alloc (Nat.le_refl _) _).alloc (by simp) _).trans (b7.mono (by simp; omega)))
  have H7 := Lib.hid (H6.out.trans (D7.out.mono H6.out.size))
  have K6x7 := Lib.hid (heap_below b7 (by simp; omega) (heap_alloc_lt (heap_alloc_new w6 _)))
  have K2x7 := Lib.hid (heap_below D7.out (lt_heap K2x6.out) K2x6.out)
  clear K2x6
  have K4x7 := Lib.hid (heap_below D7.out (lt_heap K4x6.out) K4x6.out)
  clear K4x6
  clear st7 b7 z7
  go_wp2_with (fail)
  refine (run4 _ _ (EV.out _ (H7.out.alloc H7.out.size _)) (loop_new w7 99 _ _ 1 1 w7.heap.size rfl ST7.out (Nat.le_refl _))).mono ?_
  rintro e w8 ⟨A8, c8, rfl, f8, b8⟩
  have D8 : Hid (Below w7.heap.size w7 w8) := Lib.hid (((Below.refl _ _).alloc (Nat.le_refl _) _).trans (b8.mono (by simp)))
  have H8 := Lib.hid (H7.out.trans (D8.out.mono H7.out.size))
  have K2x8 := Lib.hid (heap_below D8.out (lt_heap K2x7.out) K2x7.out)
  clear K2x7
  have K4x8 := Lib.hid (heap_below D8.out (lt_heap K4x7.out) K4x7.out)
  clear K4x7
  have K6x8 := Lib.hid (heap_below D8.out (lt_heap K6x7.out) K6x7.out)
  clear K6x7
  clear f8 b8 ST7
  go_wp2_with (fail)
  refine (ONE.out 2 [[97], [98]] _ 2 2 (w8.heap.size + 2) _ (by simp) (lies_new _ _ _ 2 (w8.heap.size + 1) (by simp) rfl rfl) rfl (Nat.le_refl _)).mono ?_
  rintro e w9 ⟨rfl, st9, b9, z9⟩
  have ST9 := Lib.hid st9
  have D9 : Hid (Below w8.heap.size w8 w9) := Lib.hid ((((Below.refl _ _).alloc (Nat.le_refl _) _).alloc (by simp) _).trans (b9.mono (by simp; omega)))
  have H9 := Lib.hid (H8.out.trans (D9.out.mono H8.out.size))
  have K8x9 := Lib.hid (heap_below b9 (by simp; omega) (heap_alloc_lt (heap_alloc_new w8 _)))
  have K2x9 := Lib.hid (heap_below D9.out (lt_heap K2x8.out) K2x8.out)
  clear K2x8
  have K4x9 := Lib.hid (heap_below D9.out (lt_heap K4x8.out) K4x8.out)
  clear K4x8
  have K6x9 := Lib.hid (heap_below D9.out (lt_heap K6x8.out) K6x8.out)
  clear K6x8
  clear st9 b9 z9
  go_wp2_with (fail)
  refine (run5 w9 _ (EV.out _ H9.out) ST9.out).mono ?_
  rintro e w10 ⟨A10, c10, rfl, f10, b10⟩
  have D10 : Hid (Below w9.heap.size w9 w10) := Lib.hid (b10)
  have H10 := Lib.hid (H9.out.trans (D10.out.mono H9.out.size))
  have K2x10 := Lib.hid (heap_below D10.out (lt_heap K2x9.out) K2x9.out)
  clear K2x9
  have K4x10 := Lib.hid (heap_below D10.out (lt_heap K4x9.out) K4x9.out)
  clear K4x9
  have K6x10 := Lib.hid (heap_below D10.out (lt_heap K6x9.out) K6x9.out)
  clear K6x9
  have K8x10 := Lib.hid (heap_below D10.out (lt_heap K8x9.out) K8x9.out)
  clear K8x9
  clear f10 b10 ST9
  go_upto_region 6 with (fail)
  obtain ⟨V, eV⟩ : ∃ V, V = w10.alloc (.cells #[.int .i64 3, .slice A10 0 c10, .string ⟨#[]⟩, .int .i64 17, .string ⟨#[97]⟩, .int .i64 1] 31) := ⟨_, rfl⟩
  rw [← eV]
  have dV : Below w10.heap.size w10 V := by rw [eV]; exact (Below.refl _ _).alloc (Nat.le_refl _) _
  have k10 : V.heap[w10.heap.size]? = some (.cells #[.int .i64 3, .slice A10 0 c10, .string ⟨#[]⟩, .int .i64 17, .string ⟨#[97]⟩, .int .i64 1] 31 (0, 0)) := by rw [eV]; exact heap_alloc_new w10 _
  have HV := Lib.hid (H10.out.trans (dV.mono H10.out.size))
  have s3 := D3.out.size
  have s4 := D4.out.size
  have s5 := D5.out.size
  have s6 := D6.out.size
  have s7 := D7.out.size
  have s8 := D8.out.size
  have s9 := D9.out.size
  have s10 := D10.out.size
  have sV := dV.size
  have E2 : Below w2.heap.size w2 V := D3.out.trans ((D4.out.mono s3).trans ((D5.out.mono (by omega)).trans ((D6.out.mono (by omega)).trans ((D7.out.mono (by omega)).trans ((D8.out.mono (by omega)).trans ((D9.out.mono (by omega)).trans ((D10.out.mono (by omega)).trans (dV.mono (by omega)))))))))
  have k2 := heap_below dV (lt_heap K2x10.out) K2x10.out
  have k4 := heap_below dV (lt_heap K4x10.out) K4x10.out
  have k6 := heap_below dV (lt_heap K6x10.out) K6x10.out
  have k8 := heap_below dV (lt_heap K8x10.out) K8x10.out
  have CF : Hid (∀ W, Below V.heap.size V W → (W.cell? ⟨w2.heap.size, 0, none⟩ = some (.int .i64 1) ∧ W.cell? ⟨w2.heap.size, 5, none⟩ = some (.int .i64 2) ∧ W.cell? ⟨w2.heap.size, 1, none⟩ = some (.slice A2 1 c2)) ∧
      (W.cell? ⟨w4.heap.size, 0, none⟩ = some (.int .i64 2) ∧ W.cell? ⟨w4.heap.size, 2, none⟩ = some (.string ⟨#[116]⟩) ∧ W.cell? ⟨w4.heap.size, 5, none⟩ = some (.int .i64 1)) ∧
      (W.cell? ⟨w6.heap.size, 0, none⟩ = some (.int .i64 1) ∧ W.cell? ⟨w6.heap.size, 5, none⟩ = some (.int .i64 1)) ∧ (W.cell? ⟨w8.heap.size, 3, none⟩ = some (.int .i64 34) ∧ W.cell? ⟨w8.heap.size, 5, none⟩ = some (.int .i64 50)) ∧
      (W.cell? ⟨w10.heap.size, 3, none⟩ = some (.int .i64 17) ∧ W.cell? ⟨w10.heap.size, 4, none⟩ = some (.string ⟨#[97]⟩))) := Lib.hid fun W hW => by
    have q2 := heap_below hW (lt_heap k2) k2
    have q4 := heap_below hW (lt_heap k4) k4
    have q6 := heap_below hW (lt_heap k6) k6
    have q8 := heap_below hW (lt_heap k8) k8
    have q10 := heap_below hW (lt_heap k10) k10
    exact ⟨⟨(cell_heap q2 0).trans rfl, (cell_heap q2 5).trans rfl, (cell_heap q2 1).trans rfl⟩, ⟨(cell_heap q4 0).trans rfl, (cell_heap q4 2).trans rfl, (cell_heap q4 5).trans rfl⟩, ⟨(cell_heap q6 0).trans rfl, (cell_heap q6 5).trans rfl⟩, ⟨(cell_heap q8 3).trans rfl, (cell_heap q8 5).trans rfl⟩, (cell_heap q10 3).trans rfl, (cell_heap q10 4).trans rfl⟩
  have SM : Hid (Calls Tryz.prog 13 #[.slice A2 1 c2, .slice (some ⟨V.heap.size, 0, none⟩) 1 1] (V.alloc (.cells #[.string ⟨#[97]⟩, .string ⟨#[120, 10]⟩] 49)) fun e w' => e = .returned (.bool true) ∧ Below (V.alloc (.cells #[.string ⟨#[97]⟩, .string ⟨#[120, 10]⟩] 49)).heap.size (V.alloc (.cells #[.string ⟨#[97]⟩, .string ⟨#[120, 10]⟩] 49)) w') := Lib.hid (by
    have e2 : Below w2.heap.size w2 (V.alloc (.cells #[.string ⟨#[97]⟩, .string ⟨#[120, 10]⟩] 49)) := E2.alloc (by omega) _
    have := Fs.rsameF_any A2 (some ⟨V.heap.size, 0, none⟩) [⟨bs [97], bs [120, 10]⟩] [⟨bs [97], bs [120, 10]⟩] c2 1 (V.alloc (.cells #[.string ⟨#[97]⟩, .string ⟨#[120, 10]⟩] 49)) (by decide) (by decide) ((F2.out.below e2).more e2.size)
      ⟨rfl, fun _ => ⟨_, rfl, by simp, fun j u hu => by rw [Lg.add_eq, cell_heap (heap_alloc_new V _)]; rw [fc_one] at hu; simpa [bs] using hu⟩⟩
    rw [decide_eq_true rfl] at this
    exact this)
  clear eV k10 k2 k4 k6 k8 E2 s3 s4 s5 s6 s7 s8 s9 s10 sV dV
  obtain ⟨⟨a0, a1, a2⟩, ⟨a3, a4, a5⟩, ⟨a6, a7⟩, ⟨a8, a9⟩, a10, a11⟩ := CF.out V (Below.refl _ _)
  go_wp2_with (go_at_call 13; (with_reducible refine (SM.out).mono ?_); rintro e w11 ⟨rfl, b11⟩; have h11 : Below V.heap.size V w11 := ((Below.refl _ _).alloc (Nat.le_refl _) _).trans (b11.mono (by simp)); clear a0 a1 a2 a3 a4 a5 a6 a7 a8 a9 a10 a11; obtain ⟨⟨a0, a1, a2⟩, ⟨a3, a4, a5⟩, ⟨a6, a7⟩, ⟨a8, a9⟩, a10, a11⟩ := CF.out w11 h11)
  go_ret
  exact ⟨rfl, HV.out.trans (h11.mono HV.out.size)⟩
end Go.Proofs.YtdidnlkilleljaaGreatDoor.Bx
/- BxCame, what a claim needs of it (prune.py). -/
namespace Go.Proofs.YtdidnlkilleljaaGreatDoor.Bx
open Go.RowKit
open Lg (BelowX Lies strV StepsAt Stp numL smallL weight rightE)
open Fs (fc fc_len fc_cell Fls B checkE)
set_option linter.unusedVariables false
set_option maxRecDepth 100000
structure Came (w : World) (l : List Stp) (L : Option Addr) (m mc : Nat) (fs : List Fl) (F : Option Addr) (fcc : Nat) (names : List B) (N : Option Addr) (nn nc : Nat) (ok : Nat → Prop) : Prop where
  env : Lg.Env w
  steps : StepsAt w ok L m l
  num : numL l
  files : Fls w F fs
  fcap : fs.length ≤ fcc
  flen : fs.length ≤ maxLen
  fz : ∀ f ∈ fs, f.p.size ≤ maxLen ∧ f.d.size ≤ maxLen
  nms : Reads w w.heap.size 1 N nn (strV names)
  nml : nn = names.length
  nlen : nn ≤ maxLen
theorem Came.below {w W : World} {l : List Stp} {L : Option Addr} {m mc : Nat} {fs : List Fl} {F : Option Addr} {fcc : Nat} {names : List B} {N : Option Addr} {nn nc : Nat} {ok : Nat → Prop} (h : Came w l L m mc fs F fcc names N nn nc ok) (hb : Below w.heap.size w W) : Came W l L m mc fs F fcc names N nn nc ok :=
  ⟨h.env.below hb, h.steps.mono fun k hk hs => ⟨hk, hb.block k hs⟩, h.num, (h.files.below hb).more hb.size, h.fcap, h.flen, h.fz, (h.nms.below hb).more hb.size, h.nml, h.nlen⟩
theorem Came.few {w : World} {l : List Stp} {L : Option Addr} {m mc : Nat} {fs : List Fl} {F : Option Addr} {fcc : Nat} {names : List B} {N : Option Addr} {nn nc : Nat} {ok : Nat → Prop} (h : Came w l L m mc fs F fcc names N nn nc ok) : Calls Tryz.prog 8 #[.slice L m mc, .slice F fs.length fcc, .slice N nn nc] w (FewSays l fs nn w) :=
  few_any l L m mc fs F fcc N nn nc w ok h.steps h.files h.flen h.nlen h.fz
theorem Came.run {w : World} {l : List Stp} {L : Option Addr} {m mc : Nat} {fs : List Fl} {F : Option Addr} {fcc : Nat} {names : List B} {N : Option Addr} {nn nc : Nat} {ok : Nat → Prop} (h : Came w l L m mc fs F fcc names N nn nc ok) {k : Nat} (hf : FewB l fs k) (hk : nn ≤ 1000000) (fuel : Int) :
    Calls Tryz.prog 10 #[.slice L m mc, .slice F fs.length fcc, .slice N nn nc, .int .i64 fuel] w (RunSays (outcome l fs names fuel) w) :=
  run_any l L m mc fs F fcc names N nn nc fuel w ok h.env h.steps h.num (by have := Lg.print_small hf.s h.num; have := hf.w; omega) h.files (by have := hf.fl; omega) h.fcap h.fz h.nms h.nml (by have := h.nml; omega)
theorem RunSays.open_ {o : Out} {w : World} {e : Ending} {w' : World} (h : RunSays o w e w') : ∃ A c, e = .returned (.agg #[.int .i64 o.kind, .slice A o.files.length c, .string (bs o.need), .int .i64 o.err, .string (bs o.text), .int .i64 o.used]) ∧ Fls w' A o.files ∧ o.files.length ≤ c ∧ Below w.heap.size w w' := h
theorem reads1_new (w : World) (T : TypeId) (u : Value) : Reads (w.alloc (.cells #[u] T)) (w.heap.size + 1) 1 (some ⟨w.heap.size, 0, none⟩) 1 [u] :=
  ⟨rfl, fun _ => ⟨_, rfl, Nat.lt_succ_self _, fun j v hv => by
    rw [Lg.add_eq, cell_heap (heap_alloc_new w _)]
    simpa using hv⟩⟩
end Go.Proofs.YtdidnlkilleljaaGreatDoor.Bx
/- BxOutL, what a claim needs of it (prune.py). -/
namespace Go.Proofs.YtdidnlkilleljaaGreatDoor.Bx
open Go.RowKit
open Lg (BelowX Lies strV StepsAt Stp numL smallL weight rightE)
open Fs (fc fc_len fc_cell Fls B checkE)
set_option linter.unusedVariables false
set_option maxRecDepth 100000
theorem ended_used (s : St) : (ended s).used = s.used := by unfold ended; split <;> rfl
theorem outcome_good {l : List Stp} {fs : List Fl} {names : List B} {f : Int} (h1 : rightE l = 0) (h2 : checkE fs = 0) (hf : 1 ≤ f ∧ f ≤ 2000) : outcome l fs names f = ended (run withF withoutF names upB soB f.toNat l fs) := by
  unfold outcome
  rw [if_neg (by simp [h1]), if_neg (by omega)]
theorem run_used (l : List Stp) (fs : List Fl) (names : List B) (fu : Nat) : (run withF withoutF names upB soB fu l fs).used ≤ fu := ((all_fair fu l).used (start fs) (Nat.zero_le _)).2
end Go.Proofs.YtdidnlkilleljaaGreatDoor.Bx
/- BxLaw3, what a claim needs of it (prune.py). -/
namespace Go.Proofs.YtdidnlkilleljaaGreatDoor.Bx
open Go.RowKit
open Lg (StepsAt Stp numL rightE nameOk nameE)
open Fs (fc fc_len fc_cell Fls B checkE)
set_option linter.unusedVariables false
def GoodO (o : Out) (names : List B) : Prop :=
  (o.kind = 1 ∧ o.err = 0 ∧ o.need = [] ∧ o.text = [] ∧ checkE o.files = 0) ∨ (o.kind = 2 ∧ (∀ x ∈ names, x ≠ o.need) ∧ o.err = 0 ∧ nameE o.need = 0 ∧ o.files = [] ∧ 1 ≤ o.used) ∨ (o.kind = 3 ∧ o.err ≠ 0 ∧ o.need = [] ∧ o.files = [] ∧ 1 ≤ o.used)
theorem right_good {l : List Stp} {fs : List Fl} {names : List B} {f : Int} (h1 : rightE l = 0) (h2 : checkE fs = 0) (h3 : 1 ≤ f) (h4 : f ≤ 2000) :
    0 ≤ (outcome l fs names f).used ∧ (outcome l fs names f).used ≤ f ∧ GoodO (outcome l fs names f) names := by
  have hu := run_used l fs names f.toNat
  have hq : needsQ (fun s => nameOk s = true) l := by
    have := parse_right (cmd := Lg.print l)
    rw [Lg.right_ok h1] at this
    exact rightS_needs this
  have hf := run_fine (names := names) (up := upB) (so := soB) (fu := f.toNat) (by omega) hq (right_iff.1 h2)
  have hl : Lack names (run withF withoutF names upB soB f.toNat l fs) := all_lacks l (start fs) rfl
  rw [outcome_good h1 h2 ⟨h3, h4⟩]
  generalize run withF withoutF names upB soB f.toNat l fs = s at *
  refine ⟨by rw [ended_used]; omega, by rw [ended_used]; omega, ?_⟩
  unfold ended
  by_cases ho : over s = true
  · rw [if_pos ho]
    rcases hf.shape with h | h | h
    · exact absurd (show over s = false by unfold over; rw [h.1]; rfl) (by rw [ho]; decide)
    · refine .inr (.inl ⟨by show (s.kind : Int) = 2; omega, fun x hx e => hl h.1 (by have e : x = s.need := e; rw [← e]; exact hx), h.2.1, by show nameE s.need = 0; rw [nameE, if_pos h.2.2.2.2], rfl, by show (1 : Int) ≤ s.used; omega⟩)
    · exact .inr (.inr ⟨by show (s.kind : Int) = 3; omega, h.2.1, h.2.2.1, rfl, by show (1 : Int) ≤ s.used; omega⟩)
  · rw [if_neg ho]
    have hz := hf.zero (by simpa using ho)
    exact .inl ⟨rfl, hz.2.1, hz.2.2.1, hz.2.2.2, under_right (right_iff.2 hf.files) _⟩
end Go.Proofs.YtdidnlkilleljaaGreatDoor.Bx
