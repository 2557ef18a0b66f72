/- The walk of GraphFinds. -/
import Derived.Test.YtoofflnaebkigaaDoorGrLaws
namespace Go.Proofs.YtoofflnaebkigaaDoor.Gr
open Go.RowKit
open Lg (Strs tl)
set_option linter.unusedVariables false
set_option maxRecDepth 100000
abbrev boxT (t : Tg) (Ad As : Option Addr) (cd cs : Nat) : Obj := .cells #[.string t.n, .string t.c, .slice Ad t.ds.length cd, .slice As t.ss.length cs] 35
theorem below_le (l : List Tg) (x : ByteArray) : (below l x).length ≤ l.length := by
  have := pick_le (S := fun d => @decide (Reach l x d) (Classical.propDecidable _)) l []
  unfold below
  simp at this
  omega
set_option maxHeartbeats 2000000 in
theorem finds_walk (A : Option Addr) (l : List Tg) (c : Nat) (x : ByteArray) (hx : x.size ≤ maxLen) (w : World) (hE : Lg.Env w) (hr : Came w A l c) :
    Calls Tryd.prog 6 #[.slice A l.length c, .string x] w fun e w' => e = .returned (.bool true) ∧ Below w.heap.size w w' := by
  have AW := Lib.hid awake_any
  have EV := Lib.hid (fun W (h : Below w.heap.size w W) => hE.below h)
  have FW := Lib.hid (few_any A l c w hr.big hr.at_ hr.fit)
  have HR := Lib.hid hr
  unfold maxLen at hx
  clear hE hr
  by_cases h200 : 200 < x.size
  · have g : (200 : Int) < (x.size : Int) := by omega
    go_enter Tryd.func6, Tryd.ntmps6
    go_wp2_with (fail)
    refine (FW.out).mono ?_
    rintro e w' ⟨b, rfl, rfl, hb⟩
    clear hb
    cases b
    all_goals
      go_wp2_with (go_at_call 12; (with_reducible refine (AW.out _ (EV.out _ (Below.refl _ _))).mono ?_); rintro e w1 ⟨rfl, b1⟩)
      go_ret
      exact ⟨rfl, b1⟩
  · have g : ¬ (200 : Int) < (x.size : Int) := by omega
    go_enter Tryd.func6, Tryd.ntmps6
    go_wp2_with (fail)
    refine (FW.out).mono ?_
    rintro e w' ⟨b, rfl, rfl, hb⟩
    cases b
    · clear hb
      go_wp2_with (go_at_call 12; (with_reducible refine (AW.out _ (EV.out _ (Below.refl _ _))).mono ?_); rintro e w1 ⟨rfl, b1⟩)
      go_ret
      exact ⟨rfl, b1⟩
    · obtain ⟨h1, h2⟩ := hb rfl
      have FT := fun t ht => (h2 t ht).fits
      have ZF : Hid (∀ t, t = (find l x).getD zeroT → Fits t) := Lib.hid fun t ht => fits_find ht FT
      have F1 := Lib.hid (find_any A l c x w w HR.out.at_ (Below.refl _ _) (by omega))
      have F2 : Hid (∀ W, Below w.heap.size w W → Calls Tryd.prog 17 #[.slice A l.length c, .string x] W (FindSays l x w W)) := Lib.hid fun W hW => rfind_any A l c x w W HR.out.at_ hW (by omega)
      have PC : Hid (∀ W, Below w.heap.size w W → Calls Tryd.prog 18 #[.slice A l.length c, .string x] W (ListSays (below l x) W)) := Lib.hid fun W hW => below_any A l c x W (HR.out.at_.below hW) (by omega) FT
      have RC : Hid (∀ W, Below w.heap.size w W → Calls Tryd.prog 19 #[.slice A l.length c, .string x] W (ListSays (below l x) W)) := Lib.hid fun W hW => rbelow_any A l c x W (HR.out.at_.below hW) (by omega) FT
      have OL : (below l x).length ≤ 1000000000 := by have := below_le l x; omega
      clear hb h2 FT
      unfold ListSays at PC RC
      unfold FindSays at F1 F2
      generalize below l x = o at *
      generalize isT l x = q at *
      go_wp2_with (fail)
      refine (F1.out).mono ?_
      rintro e w1 ⟨⟨t, Ad, As, cd, cs, rfl, ht, hd, hs⟩, hb1⟩
      have HT := Lib.hid ht
      have HD := Lib.hid hd
      have HS := Lib.hid hs
      have ZT := ZF.out t ht
      have hdl := ZT.dl
      have hsl := ZT.sl
      have hA1 : Below w.heap.size w (w1.alloc (boxT t Ad As cd cs)) := hb1.alloc hb1.size _
      have HA1 := Lib.hid hA1
      clear ht hd hs ZT hA1
      go_wp2_with (fail)
      refine (F2.out _ HA1.out).mono ?_
      rintro e w2 ⟨⟨t2, Ad2, As2, cd2, cs2, rfl, ht2, hd2, hs2⟩, hb2⟩
      obtain rfl : t2 = t := ht2.trans HT.out.symm
      have HD2 := Lib.hid hd2
      have HS2 := Lib.hid hs2
      clear ht2 hd2 hs2
      obtain ⟨wB, eB⟩ : ∃ wB, wB = w2.alloc (boxT t2 Ad2 As2 cd2 cs2) := ⟨_, rfl⟩
      have hB : Below w.heap.size w wB := by rw [eB]; exact (below_a hb1 hb2).alloc (below_a hb1 hb2).size _
      have k1 : wB.heap[w1.heap.size]? = some (boxT t2 Ad As cd cs) := by rw [eB]; exact (Below.heap_alloc _ _ _ (by have := hb2.size; simp at this; omega)).trans (heap_keep hb2)
      have k2 : wB.heap[w2.heap.size]? = some (boxT t2 Ad2 As2 cd2 cs2) := by rw [eB]; exact heap_alloc_new _ _
      have BX : Hid (∀ V, Below wB.heap.size wB V → V.heap[w1.heap.size]? = some (boxT t2 Ad As cd cs) ∧ V.heap[w2.heap.size]? = some (boxT t2 Ad2 As2 cd2 cs2)) := Lib.hid fun V hV => ⟨(hV.block _ (Lg.lt_heap k1)).trans k1, (hV.block _ (Lg.lt_heap k2)).trans k2⟩
      obtain ⟨x0, x1, x2, x3, _, _, _, _⟩ := Lg.four k1
      obtain ⟨y0, y1, y2, y3, _, _, _, _⟩ := Lg.four k2
      have HB := Lib.hid hB
      have T1 := Lib.hid (txt_same (c := cd) (d := cd2) (HD.out.below hB) (HD2.out.below hB) (by omega))
      have T2 : Hid (∀ V, Below w.heap.size w V → Calls Tryd.prog 15 #[.slice As t2.ss.length cs, .slice As2 t2.ss.length cs2] V fun e w' => e = .returned (.bool true) ∧ Below V.heap.size V w') := Lib.hid fun V hV => txt_same (HS.out.below hV) (HS2.out.below hV) (by omega)
      clear k1 k2 hb1 hb2 hB
      go_upto_region 5 with (fail)
      rw [← eB]
      clear eB
      go_wp2_with (first
        | (go_at_call 15; (with_reducible refine (T1.out).mono ?_); rintro e w3 ⟨rfl, hb3⟩; have hw3 := HB.out.trans (hb3.mono HB.out.size); obtain ⟨_, _, x6, x7, _, _, _, _⟩ := Lg.four (BX.out _ hb3).1; obtain ⟨_, _, y6, y7, _, _, _, _⟩ := Lg.four (BX.out _ hb3).2; have T3 := Lib.hid (T2.out _ hw3))
        | (go_at_call 15; (with_reducible refine (T3.out).mono ?_); rintro e w4 ⟨rfl, hb4⟩; have hw4 := hw3.trans (hb4.mono hw3.size); have P4 := Lib.hid (PC.out _ hw4))
        | (go_at_call 18; (with_reducible refine (P4.out).mono ?_); rintro e w5 ⟨⟨A5, c5, rfl, _, hs5⟩, hb5⟩; have hw5 := hw4.trans (hb5.mono hw4.size); have R5 := Lib.hid (RC.out _ hw5); have S5 := Lib.hid hs5; clear hs5)
        | (go_at_call 19; (with_reducible refine (R5.out).mono ?_); rintro e w6 ⟨⟨A6, c6, rfl, _, hs6⟩, hb6⟩; have hw6 := hw5.trans (hb6.mono hw5.size); have T6 := Lib.hid (txt_same (c := c5) (d := c6) (S5.out.below hb6) hs6 OL); clear hs6)
        | (go_at_call 15; (with_reducible refine (T6.out).mono ?_); rintro e w7 ⟨rfl, hb7⟩; have hw7 := hw6.trans (hb7.mono hw6.size); have E7 := EV.out _ hw7)
        | (go_at_call 12; (with_reducible refine (AW.out _ E7).mono ?_); rintro e w8 ⟨rfl, b8⟩))
      go_ret
      exact ⟨rfl, hw7.trans (b8.mono hw7.size)⟩
end Go.Proofs.YtoofflnaebkigaaDoor.Gr
