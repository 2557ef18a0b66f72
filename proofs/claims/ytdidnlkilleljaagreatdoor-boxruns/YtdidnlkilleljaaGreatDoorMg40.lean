/- Joined by mkmerged.py: BxAwakeW, BxCame, BxOutL, BxLaw3, RxLaw. -/
import Derived.Test.YtdidnlkilleljaaGreatDoorMg39
import Derived.Deep.Cut
import Derived.Test.YtdidnlkilleljaaGreatDoorMg30
import Derived.Deep.RegionHeld3
/- BxAwakeW, what a claim needs of it (prune.py). -/
namespace Go.Proofs.YtdidnlkilleljaaGreatDoor.Bx
open Go.RowKit
open Lg (BelowX Lies strV StepsAt RowAt Stp numL rightE print parse)
open Fs (fc fc_len fc_cell fc_one Fls B under checkE)
set_option linter.unusedVariables false
set_option maxRecDepth 100000
def RunIs (k : Int) (n : Nat) (fs : List Fl) (need : ByteArray) (er : Int) (text : ByteArray) (us : Int) (w : World) (e : Ending) (w' : World) : Prop :=
  ∃ A c, e = .returned (.agg #[.int .i64 k, .slice A n c, .string need, .int .i64 er, .string text, .int .i64 us]) ∧ Fls w' A fs ∧ Below w.heap.size w w'
theorem run1 (W : World) (L : Option Addr) (hE : Lg.Env W) (hst : StepsAt W (fun _ => True) L 1 l1) : Calls Tryz.prog 10 #[.slice L 1 1, .slice none 0 0, .slice none 0 0, .int .i64 9] W (RunIs 1 1 [⟨bs [97], bs [120, 10]⟩] ⟨#[]⟩ 0 ⟨#[]⟩ 2 W) :=
  (run_line p1 (by decide) check_nil (by decide) (by decide) r1 L 1 1 none 0 0 none 0 0 W _ hE hst Reads.none_ rfl (Nat.le_refl _) Reads.none_ rfl (by decide)).mono fun e w' ⟨A, c, h1, h2, _, h3⟩ => ⟨A, c, h1, h2, h3⟩
theorem run2 (W : World) (L : Option Addr) (hE : Lg.Env W) (hst : StepsAt W (fun _ => True) L 1 l2) : Calls Tryz.prog 10 #[.slice L 1 1, .slice none 0 0, .slice none 0 0, .int .i64 9] W (RunIs 2 0 [] ⟨#[116]⟩ 0 ⟨#[]⟩ 1 W) :=
  (run_line p2 (by decide) check_nil (by decide) (by decide) r2 L 1 1 none 0 0 none 0 0 W _ hE hst Reads.none_ rfl (Nat.le_refl _) Reads.none_ rfl (by decide)).mono fun e w' ⟨A, c, h1, h2, _, h3⟩ => ⟨A, c, h1, h2, h3⟩
theorem run3 (W : World) (L N : Option Addr) (hE : Lg.Env W) (hst : StepsAt W (fun _ => True) L 1 l2) (hn : Reads W W.heap.size 1 N 1 (strV [[116]])) : Calls Tryz.prog 10 #[.slice L 1 1, .slice none 0 0, .slice N 1 1, .int .i64 9] W (RunIs 1 0 [] ⟨#[]⟩ 0 ⟨#[]⟩ 1 W) :=
  (run_line p2 (by decide) check_nil (by decide) (by decide) r3 L 1 1 none 0 0 N 1 1 W _ hE hst Reads.none_ rfl (Nat.le_refl _) hn rfl (by decide)).mono fun e w' ⟨A, c, h1, h2, _, h3⟩ => ⟨A, c, h1, h2, h3⟩
theorem run4 (W : World) (L : Option Addr) (hE : Lg.Env W) (hst : StepsAt W (fun _ => True) L 1 l4) : Calls Tryz.prog 10 #[.slice L 1 1, .slice none 0 0, .slice none 0 0, .int .i64 50] W (RunIs 3 0 [] ⟨#[]⟩ 34 ⟨#[]⟩ 50 W) :=
  (run_line p4 (by decide) check_nil (by decide) (by decide) r4 L 1 1 none 0 0 none 0 0 W _ hE hst Reads.none_ rfl (Nat.le_refl _) Reads.none_ rfl (by decide)).mono fun e w' ⟨A, c, h1, h2, _, h3⟩ => ⟨A, c, h1, h2, h3⟩
theorem run5 (W : World) (L : Option Addr) (hE : Lg.Env W) (hst : StepsAt W (fun _ => True) L 1 l5) : Calls Tryz.prog 10 #[.slice L 1 1, .slice none 0 0, .slice none 0 0, .int .i64 9] W (RunIs 3 0 [] ⟨#[]⟩ 17 ⟨#[97]⟩ 1 W) :=
  (run_line p5 (by decide) check_nil (by decide) (by decide) r5 L 1 1 none 0 0 none 0 0 W _ hE hst Reads.none_ rfl (Nat.le_refl _) Reads.none_ rfl (by decide)).mono fun e w' ⟨A, c, h1, h2, _, h3⟩ => ⟨A, c, h1, h2, h3⟩
theorem loop_new (w : World) (n : Int) (b : List Stp) (L : Option Addr) (m c g : Nat) (hg : w.heap.size = g) (h : StepsAt w (fun _ => True) L m b) (hc : m ≤ c) :
    StepsAt (w.alloc (.cells #[.int .i64 9, .slice none 0 0, .int .i64 n, .slice L m c] 61)) (fun _ => True) (some ⟨g, 0, none⟩) 1 [⟨9, [], n, b⟩] := by
  subst hg
  have q := heap_alloc_new w (.cells #[.int .i64 9, .slice none 0 0, .int .i64 n, .slice L m c] 61)
  obtain ⟨h1, cells, h2, h3⟩ := h
  have keep : ∀ b, True → b < w.heap.size → True ∧ (w.alloc (.cells #[.int .i64 9, .slice none 0 0, .int .i64 n, .slice L m c] 61)).heap[b]? = w.heap[b]? := fun b _ hs => ⟨trivial, Below.heap_alloc _ _ _ hs⟩
  refine ⟨rfl, [.int .i64 9, .slice none 0 0, .int .i64 n, .slice L m c], ⟨rfl, fun _ => ⟨_, rfl, trivial, fun j u hu => ?_⟩⟩, ?_⟩
  · rw [Lg.add_eq, cell_heap q]
    simpa using hu
  · exact .cons rfl (Nat.le_refl _) Lies.none_ h1 hc (h2.mono (by decide) keep) (h3.mono keep) .nil
set_option maxHeartbeats 8000000 in
theorem awake_any (w : World) (hE : Lg.Env w) : Calls Tryz.prog 9 #[] w fun e w' => e = .returned (.bool true) ∧ Below w.heap.size w w' := by
  have EV := Lib.hid (fun W (h : Below w.heap.size w W) => hE.below h)
  have ONE := Lib.hid one_any
  clear hE
  go_enter Tryz.func9, Tryz.ntmps9
  go_wp2_with (fail)
  refine (ONE.out 1 [[111, 117, 116, 47, 97], [120]] _ 2 2 (w.heap.size + 1) _ (by simp) (lies_new w _ _ 2 _ rfl rfl rfl) rfl (Nat.le_refl _)).mono ?_
  rintro e w1 ⟨rfl, st1, b1, z1⟩
  have h1 := ((Below.refl _ _).alloc (Nat.le_refl _) _).trans (b1.mono (by simp))
  have ST1 := Lib.hid st1
  have H1 := Lib.hid h1
  clear st1 b1 z1 h1
  go_wp2_with (fail)
  refine (run1 w1 _ (EV.out _ H1.out) ST1.out).mono ?_
  rintro e w2 ⟨A2, c2, rfl, f2, b2⟩
  have F2 := Lib.hid f2
  have H2 := Lib.hid (H1.out.trans (b2.mono H1.out.size))
  clear f2 b2 ST1
  go_wp2_with (fail)
  refine (ONE.out 7 [[116]] _ 1 1 (w2.heap.size + 2) _ (by simp) (lies_new _ _ _ 1 (w2.heap.size + 1) (by simp) rfl rfl) rfl (Nat.le_refl _)).mono ?_
  rintro e w3 ⟨rfl, st3, b3, z3⟩
  have ST3 := Lib.hid st3
  have H3 := Lib.hid (((H2.out.alloc H2.out.size _).alloc (by simp; have := H2.out.size; omega) _).trans (b3.mono (by simp; have := H2.out.size; omega)))
  have K2x3 := Lib.hid (heap_below b3 (by simp; omega) (heap_alloc_lt (heap_alloc_new w2 _)))
  have D3 : Hid (Below w2.heap.size w2 w3) := Lib.hid ((((Below.refl _ _).alloc (Nat.le_refl _) _).alloc (by simp) _).trans (b3.mono (by simp; omega)))
  clear st3 b3 z3
  go_wp2_with (fail)
  refine (run2 w3 _ (EV.out _ H3.out) ST3.out).mono ?_
  rintro e w4 ⟨A4, c4, rfl, f4, b4⟩
  have H4 := Lib.hid (H3.out.trans (b4.mono H3.out.size))
  have K2x4 := Lib.hid (heap_below b4 (lt_heap K2x3.out) K2x3.out)
  have D4 : Hid (Below w3.heap.size w3 w4) := Lib.hid b4
  clear f4 b4 ST3 K2x3
  go_wp2_with (fail)
  refine (ONE.out 7 [[116]] _ 1 1 (w4.heap.size + 2) _ (by simp) (lies_new _ _ _ 1 (w4.heap.size + 1) (by simp) rfl rfl) rfl (Nat.le_refl _)).mono ?_
  rintro e w5 ⟨rfl, st5, b5, z5⟩
  have ST5 := Lib.hid st5
  have D5 : Hid (Below w4.heap.size w4 w5) := Lib.hid ((((Below.refl _ _).alloc (Nat.le_refl _) _).alloc (by simp) _).trans (b5.mono (by simp; omega)))
  have H5 := Lib.hid (H4.out.trans (D5.out.mono H4.out.size))
  have K4x5 := Lib.hid (heap_below b5 (by simp; omega) (heap_alloc_lt (heap_alloc_new w4 _)))
  have K2x5 := Lib.hid (heap_below D5.out (lt_heap K2x4.out) K2x4.out)
  clear K2x4
  clear st5 b5 z5
  go_wp2_with (fail)
  refine (run3 _ _ _ (EV.out _ (H5.out.alloc H5.out.size _)) (ST5.out.mono fun k _ hs => ⟨trivial, Below.heap_alloc _ _ _ hs⟩) ((lies_new w5 _ [[116]] 1 _ rfl rfl rfl).reads (by decide))).mono ?_
  rintro e w6 ⟨A6, c6, rfl, f6, b6⟩
  have D6 : Hid (Below w5.heap.size w5 w6) := Lib.hid (((Below.refl _ _).alloc (Nat.le_refl _) _).trans (b6.mono (by simp)))
  have H6 := Lib.hid (H5.out.trans (D6.out.mono H5.out.size))
  have K2x6 := Lib.hid (heap_below D6.out (lt_heap K2x5.out) K2x5.out)
  clear K2x5
  have K4x6 := Lib.hid (heap_below D6.out (lt_heap K4x5.out) K4x5.out)
  clear K4x5
  clear f6 b6 ST5
  go_wp2_with (fail)
  refine (ONE.out 6 [[97]] _ 1 1 (w6.heap.size + 2) _ (by simp) (lies_new _ _ _ 1 (w6.heap.size + 1) (by simp) rfl rfl) rfl (Nat.le_refl _)).mono ?_
  rintro e w7 ⟨rfl, st7, b7, z7⟩
  have ST7 := Lib.hid st7
  have D7 : Hid (Below w6.heap.size w6 w7) := Lib.hid ((((Below.refl _ _).alloc (Nat.le_refl _) _).alloc (by simp) _).trans (b7.mono (by simp; omega)))
  have H7 := Lib.hid (H6.out.trans (D7.out.mono H6.out.size))
  have K6x7 := Lib.hid (heap_below b7 (by simp; omega) (heap_alloc_lt (heap_alloc_new w6 _)))
  have K2x7 := Lib.hid (heap_below D7.out (lt_heap K2x6.out) K2x6.out)
  clear K2x6
  have K4x7 := Lib.hid (heap_below D7.out (lt_heap K4x6.out) K4x6.out)
  clear K4x6
  clear st7 b7 z7
  go_wp2_with (fail)
  refine (run4 _ _ (EV.out _ (H7.out.alloc H7.out.size _)) (loop_new w7 99 _ _ 1 1 w7.heap.size rfl ST7.out (Nat.le_refl _))).mono ?_
  rintro e w8 ⟨A8, c8, rfl, f8, b8⟩
  have D8 : Hid (Below w7.heap.size w7 w8) := Lib.hid (((Below.refl _ _).alloc (Nat.le_refl _) _).trans (b8.mono (by simp)))
  have H8 := Lib.hid (H7.out.trans (D8.out.mono H7.out.size))
  have K2x8 := Lib.hid (heap_below D8.out (lt_heap K2x7.out) K2x7.out)
  clear K2x7
  have K4x8 := Lib.hid (heap_below D8.out (lt_heap K4x7.out) K4x7.out)
  clear K4x7
  have K6x8 := Lib.hid (heap_below D8.out (lt_heap K6x7.out) K6x7.out)
  clear K6x7
  clear f8 b8 ST7
  go_wp2_with (fail)
  refine (ONE.out 2 [[97], [98]] _ 2 2 (w8.heap.size + 2) _ (by simp) (lies_new _ _ _ 2 (w8.heap.size + 1) (by simp) rfl rfl) rfl (Nat.le_refl _)).mono ?_
  rintro e w9 ⟨rfl, st9, b9, z9⟩
  have ST9 := Lib.hid st9
  have D9 : Hid (Below w8.heap.size w8 w9) := Lib.hid ((((Below.refl _ _).alloc (Nat.le_refl _) _).alloc (by simp) _).trans (b9.mono (by simp; omega)))
  have H9 := Lib.hid (H8.out.trans (D9.out.mono H8.out.size))
  have K8x9 := Lib.hid (heap_below b9 (by simp; omega) (heap_alloc_lt (heap_alloc_new w8 _)))
  have K2x9 := Lib.hid (heap_below D9.out (lt_heap K2x8.out) K2x8.out)
  clear K2x8
  have K4x9 := Lib.hid (heap_below D9.out (lt_heap K4x8.out) K4x8.out)
  clear K4x8
  have K6x9 := Lib.hid (heap_below D9.out (lt_heap K6x8.out) K6x8.out)
  clear K6x8
  clear st9 b9 z9
  go_wp2_with (fail)
  refine (run5 w9 _ (EV.out _ H9.out) ST9.out).mono ?_
  rintro e w10 ⟨A10, c10, rfl, f10, b10⟩
  have D10 : Hid (Below w9.heap.size w9 w10) := Lib.hid (b10)
  have H10 := Lib.hid (H9.out.trans (D10.out.mono H9.out.size))
  have K2x10 := Lib.hid (heap_below D10.out (lt_heap K2x9.out) K2x9.out)
  clear K2x9
  have K4x10 := Lib.hid (heap_below D10.out (lt_heap K4x9.out) K4x9.out)
  clear K4x9
  have K6x10 := Lib.hid (heap_below D10.out (lt_heap K6x9.out) K6x9.out)
  clear K6x9
  have K8x10 := Lib.hid (heap_below D10.out (lt_heap K8x9.out) K8x9.out)
  clear K8x9
  clear f10 b10 ST9
  go_upto_region 6 with (fail)
  obtain ⟨V, eV⟩ : ∃ V, V = w10.alloc (.cells #[.int .i64 3, .slice A10 0 c10, .string ⟨#[]⟩, .int .i64 17, .string ⟨#[97]⟩, .int .i64 1] 31) := ⟨_, rfl⟩
  rw [← eV]
  have dV : Below w10.heap.size w10 V := by rw [eV]; exact (Below.refl _ _).alloc (Nat.le_refl _) _
  have k10 : V.heap[w10.heap.size]? = some (.cells #[.int .i64 3, .slice A10 0 c10, .string ⟨#[]⟩, .int .i64 17, .string ⟨#[97]⟩, .int .i64 1] 31 (0, 0)) := by rw [eV]; exact heap_alloc_new w10 _
  have HV := Lib.hid (H10.out.trans (dV.mono H10.out.size))
  have s3 := D3.out.size
  have s4 := D4.out.size
  have s5 := D5.out.size
  have s6 := D6.out.size
  have s7 := D7.out.size
  have s8 := D8.out.size
  have s9 := D9.out.size
  have s10 := D10.out.size
  have sV := dV.size
  have E2 : Below w2.heap.size w2 V := D3.out.trans ((D4.out.mono s3).trans ((D5.out.mono (by omega)).trans ((D6.out.mono (by omega)).trans ((D7.out.mono (by omega)).trans ((D8.out.mono (by omega)).trans ((D9.out.mono (by omega)).trans ((D10.out.mono (by omega)).trans (dV.mono (by omega)))))))))
  have k2 := heap_below dV (lt_heap K2x10.out) K2x10.out
  have k4 := heap_below dV (lt_heap K4x10.out) K4x10.out
  have k6 := heap_below dV (lt_heap K6x10.out) K6x10.out
  have k8 := heap_below dV (lt_heap K8x10.out) K8x10.out
  have CF : Hid (∀ W, Below V.heap.size V W → (W.cell? ⟨w2.heap.size, 0, none⟩ = some (.int .i64 1) ∧ W.cell? ⟨w2.heap.size, 5, none⟩ = some (.int .i64 2) ∧ W.cell? ⟨w2.heap.size, 1, none⟩ = some (.slice A2 1 c2)) ∧
      (W.cell? ⟨w4.heap.size, 0, none⟩ = some (.int .i64 2) ∧ W.cell? ⟨w4.heap.size, 2, none⟩ = some (.string ⟨#[116]⟩) ∧ W.cell? ⟨w4.heap.size, 5, none⟩ = some (.int .i64 1)) ∧
      (W.cell? ⟨w6.heap.size, 0, none⟩ = some (.int .i64 1) ∧ W.cell? ⟨w6.heap.size, 5, none⟩ = some (.int .i64 1)) ∧ (W.cell? ⟨w8.heap.size, 3, none⟩ = some (.int .i64 34) ∧ W.cell? ⟨w8.heap.size, 5, none⟩ = some (.int .i64 50)) ∧
      (W.cell? ⟨w10.heap.size, 3, none⟩ = some (.int .i64 17) ∧ W.cell? ⟨w10.heap.size, 4, none⟩ = some (.string ⟨#[97]⟩))) := Lib.hid fun W hW => by
    have q2 := heap_below hW (lt_heap k2) k2
    have q4 := heap_below hW (lt_heap k4) k4
    have q6 := heap_below hW (lt_heap k6) k6
    have q8 := heap_below hW (lt_heap k8) k8
    have q10 := heap_below hW (lt_heap k10) k10
    exact ⟨⟨(cell_heap q2 0).trans rfl, (cell_heap q2 5).trans rfl, (cell_heap q2 1).trans rfl⟩, ⟨(cell_heap q4 0).trans rfl, (cell_heap q4 2).trans rfl, (cell_heap q4 5).trans rfl⟩, ⟨(cell_heap q6 0).trans rfl, (cell_heap q6 5).trans rfl⟩, ⟨(cell_heap q8 3).trans rfl, (cell_heap q8 5).trans rfl⟩, (cell_heap q10 3).trans rfl, (cell_heap q10 4).trans rfl⟩
  have SM : Hid (Calls Tryz.prog 13 #[.slice A2 1 c2, .slice (some ⟨V.heap.size, 0, none⟩) 1 1] (V.alloc (.cells #[.string ⟨#[97]⟩, .string ⟨#[120, 10]⟩] 49)) fun e w' => e = .returned (.bool true) ∧ Below (V.alloc (.cells #[.string ⟨#[97]⟩, .string ⟨#[120, 10]⟩] 49)).heap.size (V.alloc (.cells #[.string ⟨#[97]⟩, .string ⟨#[120, 10]⟩] 49)) w') := Lib.hid (by
    have e2 : Below w2.heap.size w2 (V.alloc (.cells #[.string ⟨#[97]⟩, .string ⟨#[120, 10]⟩] 49)) := E2.alloc (by omega) _
    have := Fs.rsameF_any A2 (some ⟨V.heap.size, 0, none⟩) [⟨bs [97], bs [120, 10]⟩] [⟨bs [97], bs [120, 10]⟩] c2 1 (V.alloc (.cells #[.string ⟨#[97]⟩, .string ⟨#[120, 10]⟩] 49)) (by decide) (by decide) ((F2.out.below e2).more e2.size)
      ⟨rfl, fun _ => ⟨_, rfl, by simp, fun j u hu => by rw [Lg.add_eq, cell_heap (heap_alloc_new V _)]; rw [fc_one] at hu; simpa [bs] using hu⟩⟩
    rw [decide_eq_true rfl] at this
    exact this)
  clear eV k10 k2 k4 k6 k8 E2 s3 s4 s5 s6 s7 s8 s9 s10 sV dV
  obtain ⟨⟨a0, a1, a2⟩, ⟨a3, a4, a5⟩, ⟨a6, a7⟩, ⟨a8, a9⟩, a10, a11⟩ := CF.out V (Below.refl _ _)
  go_wp2_with (go_at_call 13; (with_reducible refine (SM.out).mono ?_); rintro e w11 ⟨rfl, b11⟩; have h11 : Below V.heap.size V w11 := ((Below.refl _ _).alloc (Nat.le_refl _) _).trans (b11.mono (by simp)); clear a0 a1 a2 a3 a4 a5 a6 a7 a8 a9 a10 a11; obtain ⟨⟨a0, a1, a2⟩, ⟨a3, a4, a5⟩, ⟨a6, a7⟩, ⟨a8, a9⟩, a10, a11⟩ := CF.out w11 h11)
  go_ret
  exact ⟨rfl, HV.out.trans (h11.mono HV.out.size)⟩
end Go.Proofs.YtdidnlkilleljaaGreatDoor.Bx
/- BxCame, what a claim needs of it (prune.py). -/
namespace Go.Proofs.YtdidnlkilleljaaGreatDoor.Bx
open Go.RowKit
open Lg (BelowX Lies strV StepsAt Stp numL smallL weight rightE)
open Fs (fc fc_len fc_cell Fls B checkE)
set_option linter.unusedVariables false
set_option maxRecDepth 100000
structure Came (w : World) (l : List Stp) (L : Option Addr) (m mc : Nat) (fs : List Fl) (F : Option Addr) (fcc : Nat) (names : List B) (N : Option Addr) (nn nc : Nat) (ok : Nat → Prop) : Prop where
  env : Lg.Env w
  steps : StepsAt w ok L m l
  num : numL l
  files : Fls w F fs
  fcap : fs.length ≤ fcc
  flen : fs.length ≤ maxLen
  fz : ∀ f ∈ fs, f.p.size ≤ maxLen ∧ f.d.size ≤ maxLen
  nms : Reads w w.heap.size 1 N nn (strV names)
  nml : nn = names.length
  nlen : nn ≤ maxLen
theorem Came.below {w W : World} {l : List Stp} {L : Option Addr} {m mc : Nat} {fs : List Fl} {F : Option Addr} {fcc : Nat} {names : List B} {N : Option Addr} {nn nc : Nat} {ok : Nat → Prop} (h : Came w l L m mc fs F fcc names N nn nc ok) (hb : Below w.heap.size w W) : Came W l L m mc fs F fcc names N nn nc ok :=
  ⟨h.env.below hb, h.steps.mono fun k hk hs => ⟨hk, hb.block k hs⟩, h.num, (h.files.below hb).more hb.size, h.fcap, h.flen, h.fz, (h.nms.below hb).more hb.size, h.nml, h.nlen⟩
theorem Came.few {w : World} {l : List Stp} {L : Option Addr} {m mc : Nat} {fs : List Fl} {F : Option Addr} {fcc : Nat} {names : List B} {N : Option Addr} {nn nc : Nat} {ok : Nat → Prop} (h : Came w l L m mc fs F fcc names N nn nc ok) : Calls Tryz.prog 8 #[.slice L m mc, .slice F fs.length fcc, .slice N nn nc] w (FewSays l fs nn w) :=
  few_any l L m mc fs F fcc N nn nc w ok h.steps h.files h.flen h.nlen h.fz
theorem Came.run {w : World} {l : List Stp} {L : Option Addr} {m mc : Nat} {fs : List Fl} {F : Option Addr} {fcc : Nat} {names : List B} {N : Option Addr} {nn nc : Nat} {ok : Nat → Prop} (h : Came w l L m mc fs F fcc names N nn nc ok) {k : Nat} (hf : FewB l fs k) (hk : nn ≤ 1000000) (fuel : Int) :
    Calls Tryz.prog 10 #[.slice L m mc, .slice F fs.length fcc, .slice N nn nc, .int .i64 fuel] w (RunSays (outcome l fs names fuel) w) :=
  run_any l L m mc fs F fcc names N nn nc fuel w ok h.env h.steps h.num (by have := Lg.print_small hf.s h.num; have := hf.w; omega) h.files (by have := hf.fl; omega) h.fcap h.fz h.nms h.nml (by have := h.nml; omega)
theorem RunSays.open_ {o : Out} {w : World} {e : Ending} {w' : World} (h : RunSays o w e w') : ∃ A c, e = .returned (.agg #[.int .i64 o.kind, .slice A o.files.length c, .string (bs o.need), .int .i64 o.err, .string (bs o.text), .int .i64 o.used]) ∧ Fls w' A o.files ∧ o.files.length ≤ c ∧ Below w.heap.size w w' := h
end Go.Proofs.YtdidnlkilleljaaGreatDoor.Bx
/- BxOutL, what a claim needs of it (prune.py). -/
namespace Go.Proofs.YtdidnlkilleljaaGreatDoor.Bx
open Go.RowKit
open Lg (BelowX Lies strV StepsAt Stp numL smallL weight rightE)
open Fs (fc fc_len fc_cell Fls B checkE)
set_option linter.unusedVariables false
set_option maxRecDepth 100000
theorem out_right (l : List Stp) (fs : List Fl) (names : List B) (f : Int) : (outcome l fs names f).files.length ≤ 32 := by
  unfold outcome
  split
  · exact Nat.zero_le _
  split
  · exact Nat.zero_le _
  · rename_i h1 h2
    have hc : checkE fs = 0 := by omega
    have hf := (run_fine (Q := fun _ => True) (names := names) (up := upB) (so := soB) (fu := f.toNat) (by omega) (needs_true l) (right_iff.1 hc)).files
    unfold ended
    split
    · exact Nat.zero_le _
    · show (Fs.under _ _).length ≤ 32
      have := Fs.under_len (run withF withoutF names upB soB f.toNat l fs).files outB
      have := hf.len
      omega
theorem out_len (l : List Stp) (fs : List Fl) (names : List B) (f : Int) : (outcome l fs names f).files.length ≤ 1000000000 := by have := out_right l fs names f; omega
end Go.Proofs.YtdidnlkilleljaaGreatDoor.Bx
/- BxLaw3, what a claim needs of it (prune.py). -/
namespace Go.Proofs.YtdidnlkilleljaaGreatDoor.Bx
open Go.RowKit
open Lg (StepsAt Stp numL rightE nameOk nameE)
open Fs (fc fc_len fc_cell Fls B checkE)
set_option linter.unusedVariables false
theorem right_bad {l : List Stp} {fs : List Fl} {names : List B} {f : Int} (h : rightE l ≠ 0 ∨ checkE fs ≠ 0 ∨ f < 1 ∨ 2000 < f) : (outcome l fs names f).kind = 3 ∧ (outcome l fs names f).err ≠ 0 ∧ (outcome l fs names f).used = 0 := by
  unfold outcome
  by_cases h1 : rightE l ≠ 0
  · rw [if_pos h1]
    exact ⟨rfl, by show (rightE l : Int) ≠ 0; omega, rfl⟩
  · rw [if_neg h1, if_pos (by omega)]
    exact ⟨rfl, by show (1 : Int) ≠ 0; decide, rfl⟩
end Go.Proofs.YtdidnlkilleljaaGreatDoor.Bx
/- RxLaw, what a claim needs of it (prune.py). -/
namespace Go.Proofs.YtdidnlkilleljaaGreatDoor.Bx
open Go.RowKit
open Lg (BelowX Lies strV StepsAt Stp numL smallL weight rightE)
open Fs (fc fc_len fc_cell Fls B checkE infoF)
set_option linter.unusedVariables false
set_option maxRecDepth 100000
theorem Came.runs {w : World} {l : List Stp} {L : Option Addr} {m mc : Nat} {fs : List Fl} {F : Option Addr} {fcc : Nat} {names : List B} {N : Option Addr} {nn nc : Nat} {ok : Nat → Prop} (h : Came w l L m mc fs F fcc names N nn nc ok) {k : Nat} (hf : FewB l fs k) (hk : nn ≤ 1000000) (fuel : Int) {A : Option Addr} {c : Nat} (hA : Fls w A fs) (hc : fs.length ≤ c) :
    Calls Tryz.prog 10 #[.slice L m mc, .slice A fs.length c, .slice N nn nc, .int .i64 fuel] w (RunSays (outcome l fs names fuel) w) :=
  run_any l L m mc fs A c names N nn nc fuel w ok h.env h.steps h.num (by have := Lg.print_small hf.s h.num; have := hf.w; omega) hA (by have := hf.fl; omega) hc h.fz h.nms h.nml (by have := h.nml; omega)
theorem Came.rruns {w : World} {l : List Stp} {L : Option Addr} {m mc : Nat} {fs : List Fl} {F : Option Addr} {fcc : Nat} {names : List B} {N : Option Addr} {nn nc : Nat} {ok : Nat → Prop} (h : Came w l L m mc fs F fcc names N nn nc ok) {k : Nat} (hf : FewB l fs k) (hk : nn ≤ 1000000) (fuel : Int) :
    Calls Tryz.prog 11 #[.slice L m mc, .slice F fs.length fcc, .slice N nn nc, .int .i64 fuel] w (RunSays (outcome l fs names fuel) w) :=
  (rrun_own l L m mc fs F fcc names N nn nc fuel w ok h.env h.steps h.num (by have := Lg.print_small hf.s h.num; have := hf.w; omega) (by have := hf.w; have := Lg.wide_small hf.s; omega) h.files (by have := hf.fl; omega) h.fcap (fun f hff => ⟨by have := (hf.fz f hff).1; omega, (h.fz f hff).2⟩) h.nms h.nml (by have := h.nml; omega)).mono fun _ _ h => h.says
set_option maxHeartbeats 8000000 in
theorem runs_walk (l : List Stp) (L : Option Addr) (m mc : Nat) (fs : List Fl) (F : Option Addr) (fcc : Nat) (names : List B) (N : Option Addr) (nn nc : Nat) (fuel : Int) (w : World) (ok : Nat → Prop) (hC : Came w l L m mc fs F fcc names N nn nc ok) :
    Calls Tryz.prog 3 #[.agg #[.slice L m mc, .slice F fs.length fcc, .slice N nn nc, .int .i64 fuel]] w fun e w' => e = .returned (.bool true) ∧ Below w.heap.size w w' := by
  have CB := Lib.hid (fun W (h : Below w.heap.size w W) => hC.below h)
  have AW := Lib.hid (fun W (h : Below w.heap.size w W) => awake_any W (hC.below h).env)
  obtain ⟨zf, hzi, hzs⟩ := infoF
  obtain ⟨i0, hi, hz0, hz1, hz2⟩ := Lg.info_parts hzi
  clear hzi
  obtain ⟨W1, eW⟩ : ∃ W1, W1 = w.alloc (.cells #[.slice L m mc, .slice F fs.length fcc, .slice N nn nc, .int .i64 fuel] 26) := ⟨_, rfl⟩
  have hb1 : Below w.heap.size w W1 := by rw [eW]; exact (Below.refl _ _).alloc (Nat.le_refl _) _
  have q1 : W1.heap[w.heap.size]? = some (.cells #[.slice L m mc, .slice F fs.length fcc, .slice N nn nc, .int .i64 fuel] 26 (0, 0)) := by rw [eW]; exact heap_alloc_new w _
  have X1 : Hid (∀ W, Below W1.heap.size W1 W → W.cell? ⟨w.heap.size, 0, none⟩ = some (.slice L m mc) ∧ W.cell? ⟨w.heap.size, 1, none⟩ = some (.slice F fs.length fcc) ∧ W.cell? ⟨w.heap.size, 2, none⟩ = some (.slice N nn nc) ∧ W.cell? ⟨w.heap.size, 3, none⟩ = some (.int .i64 fuel)) := Lib.hid fun W hW => by
    have q := heap_below hW (lt_heap q1) q1
    exact ⟨(cell_heap q 0).trans rfl, (cell_heap q 1).trans rfl, (cell_heap q 2).trans rfl, (cell_heap q 3).trans rfl⟩
  have FE := Lib.hid (hC.below hb1).few
  have hw1 := hb1.size
  have hlt := lt_heap q1
  have HB := Lib.hid (fun W (hW : Below W1.heap.size W1 W) => hb1.trans (hW.mono hw1))
  clear hC q1 hb1
  go_enter Tryz.func3, Tryz.ntmps3
  go_wp2_with (fail)
  rw [← eW]
  clear eW
  refine (FE.out).mono ?_
  rintro e w2 ⟨bv, rfl, b2, hfw⟩
  have FW := Lib.hid hfw
  clear hfw FE
  rcases bv with _ | _
  · go_wp2_with (go_at_call 9; (with_reducible refine (AW.out _ (HB.out _ b2)).mono ?_); rintro e w3 ⟨rfl, b3⟩)
    go_ret
    have h2 := HB.out _ b2
    exact ⟨rfl, h2.trans (b3.mono h2.size)⟩
  have FB := Lib.hid (FW.out rfl)
  clear FW
  have hfl60 : fs.length ≤ 60 := FB.out.fl
  have RB : Hid (∀ W A c, Below W1.heap.size W1 W → Fls W A fs → fs.length ≤ c → Calls Tryz.prog 10 #[.slice L m mc, .slice A fs.length c, .slice N nn nc, .int .i64 fuel] W (RunSays (outcome l fs names fuel) W)) := Lib.hid fun W A c hW h1 h2 => (CB.out _ (HB.out _ hW)).runs FB.out (by have := FB.out.nl; omega) fuel h1 h2
  have RR : Hid (∀ W, Below W1.heap.size W1 W → Calls Tryz.prog 11 #[.slice L m mc, .slice F fs.length fcc, .slice N nn nc, .int .i64 fuel] W (RunSays (outcome l fs names fuel) W)) := Lib.hid fun W hW => (CB.out _ (HB.out _ hW)).rruns FB.out (by have := FB.out.nl; omega) fuel
  have OL : Hid ((outcome l fs names fuel).files.length ≤ 1000000000) := Lib.hid (out_len l fs names fuel)
  have FF : Hid (∀ W, Below W1.heap.size W1 W → Fls W F fs) := Lib.hid fun W hW => (CB.out _ (HB.out _ hW)).files
  generalize outcome l fs names fuel = o at *
  obtain ⟨x0, x1, x2, x3⟩ := X1.out w2 b2
  have h2 : Below W1.heap.size W1 w2 := b2
  have hlt2 : w.heap.size < w2.heap.size := Nat.lt_of_lt_of_le hlt b2.size
  obtain ⟨V2, eV2⟩ : ∃ V, V = w2.alloc (.cells #[] 49) := ⟨_, rfl⟩
  have hV2 : Below W1.heap.size W1 V2 := by rw [eV2]; exact h2.alloc h2.size _
  have own0 : V2.ownsRow W1.heap.size 49 2 (.slice (some ⟨w2.heap.size, 0, none⟩) 0 0) 0 [] := by rw [eV2]; exact World.ownsRow_made w2 #[] 0 b2.size (Nat.zero_le _) rfl
  have O0 := Lib.hid own0
  have RD := Lib.hid (FF.out V2 hV2)
  have HC := Lib.hid (fc_cell fs)
  have h0w : W1.heap.size ≤ w2.heap.size := b2.size
  clear own0
  go_upto_region 4 with (at_builtin; rw [← eV2]; refine wpList_append_any _ rfl (.tmp 15) (.tmp 17) 23 rfl W1.heap.size 49 i0 zf 2 32 Tryz.underlying23 hi hz0 hz1 hz2 hzs (by decide) (.slice (some ⟨w2.heap.size, 0, none⟩) 0 0) 0 [] rfl O0.out V2.heap.size F fs.length fcc (fc fs) rfl RD.out HC.out (by unfold maxLen; omega) (by omega) hV2.size ?_; intro v3 w3 hown hg hat; have HO := Lib.hid hown; have h3 : Below W1.heap.size W1 w3 := hV2.grown hg hV2.size (fun k hk => by simp [Value.ownBlock] at hk; omega); clear hown hg hat)
  have ho3 := HO.out
  rw [Nat.zero_add, List.nil_append] at ho3
  obtain ⟨A3, c3, rfl, f3, hc3⟩ : ∃ A c, v3 = .slice A fs.length c ∧ Fls w3 A fs ∧ fs.length ≤ c := by
    obtain ⟨⟨A, c, e1, f1, h1⟩, _⟩ := Fs.own_fls ho3 rfl h3
    injection e1 with e1
    exact ⟨A, c, e1, f1, h1⟩
  have F3 : Hid (∀ W, Below w3.heap.size w3 W → Fls W A3 fs) := Lib.hid fun W hW => (f3.below hW).more hW.size
  have R3 := Lib.hid (RB.out w3 A3 c3 h3 f3 hc3)
  clear x0 x1 x2 x3 HO ho3 hc3 f3 h0w hlt2 eV2 hV2 O0 RD HC hzs hi hz0 hz1 hz2 RB
  obtain ⟨x0, x1, x2, x3⟩ := X1.out w3 h3
  have lt3 : w.heap.size < w3.heap.size := Nat.lt_of_lt_of_le hlt h3.size
  go_upto_region 5 with (go_at_call 10; (with_reducible refine (R3.out).mono ?_); rintro e w4 ho; obtain ⟨A4, c4, rfl, f4, hc4, b4⟩ := ho.open_; have F4 := Lib.hid f4; have h4 : Below W1.heap.size W1 w4 := h3.trans (b4.mono h3.size); have lt4 : w.heap.size < w4.heap.size := Nat.lt_of_lt_of_le hlt h4.size; clear ho hc4 f4)
  obtain ⟨V4, eV4⟩ : ∃ V, V = w4.alloc (.cells #[.int .i64 o.kind, .slice A4 o.files.length c4, .string (bs o.need), .int .i64 o.err, .string (bs o.text), .int .i64 o.used] 31) := ⟨_, rfl⟩
  have hV4 : Below W1.heap.size W1 V4 := by rw [eV4]; exact h4.alloc h4.size _
  have d4 : Below w4.heap.size w4 V4 := by rw [eV4]; exact (Below.refl _ _).alloc (Nat.le_refl _) _
  have qV4 : V4.heap[w4.heap.size]? = some (.cells #[.int .i64 o.kind, .slice A4 o.files.length c4, .string (bs o.need), .int .i64 o.err, .string (bs o.text), .int .i64 o.used] 31 (0, 0)) := by rw [eV4]; exact heap_alloc_new w4 _
  have Y4 : Hid (∀ W, Below V4.heap.size V4 W → (W.cell? ⟨w4.heap.size, 0, none⟩ = some (.int .i64 o.kind) ∧ W.cell? ⟨w4.heap.size, 1, none⟩ = some (.slice A4 o.files.length c4) ∧ W.cell? ⟨w4.heap.size, 2, none⟩ = some (.string (bs o.need)) ∧ W.cell? ⟨w4.heap.size, 3, none⟩ = some (.int .i64 o.err) ∧ W.cell? ⟨w4.heap.size, 4, none⟩ = some (.string (bs o.text)) ∧ W.cell? ⟨w4.heap.size, 5, none⟩ = some (.int .i64 o.used)) ∧ Fls W A4 o.files) := Lib.hid fun W hW => by
    have q := heap_below hW (lt_heap qV4) qV4
    have hb := d4.trans (hW.mono d4.size)
    exact ⟨⟨(cell_heap q 0).trans rfl, (cell_heap q 1).trans rfl, (cell_heap q 2).trans rfl, (cell_heap q 3).trans rfl, (cell_heap q 4).trans rfl, (cell_heap q 5).trans rfl⟩, (F4.out.below hb).more hb.size⟩
  have l4 : w4.heap.size < V4.heap.size := lt_heap qV4
  clear x0 x1 x2 x3 qV4 R3 lt3
  obtain ⟨x0, x1, x2, x3⟩ := X1.out V4 hV4
  have R4 := Lib.hid (RR.out V4 hV4)
  rw [← eV4]
  clear eV4
  go_upto_region 6 with (go_at_call 11; (with_reducible refine (R4.out).mono ?_); rintro e w5 ho; obtain ⟨A5, c5, rfl, f5, hc5, b5⟩ := ho.open_; have F5 := Lib.hid f5; have h5 : Below W1.heap.size W1 w5 := hV4.trans (b5.mono hV4.size); clear ho hc5 f5)
  obtain ⟨V5, eV5⟩ : ∃ V, V = w5.alloc (.cells #[.int .i64 o.kind, .slice A5 o.files.length c5, .string (bs o.need), .int .i64 o.err, .string (bs o.text), .int .i64 o.used] 31) := ⟨_, rfl⟩
  have hV5 : Below W1.heap.size W1 V5 := by rw [eV5]; exact h5.alloc h5.size _
  have d5 : Below w5.heap.size w5 V5 := by rw [eV5]; exact (Below.refl _ _).alloc (Nat.le_refl _) _
  have qV5 : V5.heap[w5.heap.size]? = some (.cells #[.int .i64 o.kind, .slice A5 o.files.length c5, .string (bs o.need), .int .i64 o.err, .string (bs o.text), .int .i64 o.used] 31 (0, 0)) := by rw [eV5]; exact heap_alloc_new w5 _
  have Y5 : Hid (∀ W, Below V5.heap.size V5 W → (W.cell? ⟨w5.heap.size, 0, none⟩ = some (.int .i64 o.kind) ∧ W.cell? ⟨w5.heap.size, 1, none⟩ = some (.slice A5 o.files.length c5) ∧ W.cell? ⟨w5.heap.size, 2, none⟩ = some (.string (bs o.need)) ∧ W.cell? ⟨w5.heap.size, 3, none⟩ = some (.int .i64 o.err) ∧ W.cell? ⟨w5.heap.size, 4, none⟩ = some (.string (bs o.text)) ∧ W.cell? ⟨w5.heap.size, 5, none⟩ = some (.int .i64 o.used)) ∧ Fls W A5 o.files) := Lib.hid fun W hW => by
    have q := heap_below hW (lt_heap qV5) qV5
    have hb := d5.trans (hW.mono d5.size)
    exact ⟨⟨(cell_heap q 0).trans rfl, (cell_heap q 1).trans rfl, (cell_heap q 2).trans rfl, (cell_heap q 3).trans rfl, (cell_heap q 4).trans rfl, (cell_heap q 5).trans rfl⟩, (F5.out.below hb).more hb.size⟩
  have l5 : w5.heap.size < V5.heap.size := lt_heap qV5
  have D5 : Below V4.heap.size V4 V5 := b5.trans (d5.mono b5.size)
  have D3 : Below w3.heap.size w3 V5 := (b4.trans (d4.mono b4.size)).trans (D5.mono (b4.trans (d4.mono b4.size)).size)
  clear x0 x1 x2 x3 qV5 R4
  rw [← eV5]
  clear eV5
  obtain ⟨x0, x1, x2, x3⟩ := X1.out V5 hV5
  obtain ⟨⟨y0, y1, y2, y3, y4, y5⟩, g4⟩ := Y4.out V5 D5
  obtain ⟨⟨z0, z1, z2, z3, z4, z5⟩, g5⟩ := Y5.out V5 (Below.refl _ _)
  have G4 := Lib.hid g4
  have G5 := Lib.hid g5
  clear g4 g5
  go_wp2_with (first | (go_at_call 12; (with_reducible refine (rsame6_any o.kind o.err o.used (bs o.need) (bs o.text) o.files A4 A5 c4 c5 _ G4.out G5.out OL.out).mono ?_); rintro e w6 ⟨rfl, b6⟩; have h6 : Below W1.heap.size W1 w6 := hV5.trans (b6.mono hV5.size); have K3 := Lib.hid (F3.out _ (D3.trans (b6.mono D3.size))); have K4 := Lib.hid (FF.out _ h6); clear x0 x1 x2 x3 y0 y1 y2 y3 y4 y5 z0 z1 z2 z3 z4 z5; obtain ⟨x0, x1, x2, x3⟩ := X1.out _ h6) | (go_at_call 13; (with_reducible refine (Fs.rsameF_any A3 F fs fs c3 fcc _ (by omega) (by omega) K3.out K4.out).mono ?_); rintro e w7 ⟨rfl, b7⟩; have h7 : Below W1.heap.size W1 w7 := h6.trans (b7.mono h6.size); have hA := HB.out _ h7; rw [decide_eq_true (Eq.refl fs)]) | (go_at_call 9; (with_reducible refine (AW.out _ hA).mono ?_); rintro e w8 ⟨rfl, b8⟩))
  go_ret
  exact ⟨rfl, hA.trans (b8.mono hA.size)⟩
end Go.Proofs.YtdidnlkilleljaaGreatDoor.Bx
