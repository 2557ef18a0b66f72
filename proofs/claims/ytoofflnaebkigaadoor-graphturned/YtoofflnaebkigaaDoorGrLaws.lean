/- The walks of GraphChecks, GraphOrders, GraphBelow. -/
import Derived.Test.YtoofflnaebkigaaDoorGrAwake
import Derived.Test.YtoofflnaebkigaaDoorGrMem
import Derived.Test.YtoofflnaebkigaaDoorGrDown
namespace Go.Proofs.YtoofflnaebkigaaDoor.Gr
open Go.RowKit
open Lg (Strs tl)
set_option linter.unusedVariables false
set_option maxRecDepth 100000
/-- targets that came in -/
structure Came (w : World) (A : Option Addr) (l : List Tg) (c : Nat) : Prop where
  at_ : Tgs w A l
  cap : TgCap w A l
  len : l.length ≤ c
  big : l.length ≤ 9223372036854775807
  fit : ∀ t ∈ l, t.n.size ≤ maxLen ∧ t.c.size ≤ maxLen ∧ t.ds.length ≤ maxLen ∧ t.ss.length ≤ maxLen
theorem TgCap.below {w w' : World} {A : Option Addr} {l : List Tg} (h : TgCap w A l) (hr : Tgs w A l) (hb : Below w.heap.size w w') : TgCap w' A l := fun ad e k hk => by
  obtain ⟨ad', e', had, _⟩ := hr (by omega)
  rw [e] at e'; injection e' with e'; subst e'
  have hc : ∀ j, w'.cell? ((ad.add (k * 4)).add j) = w.cell? ((ad.add (k * 4)).add j) := fun j => hb.cell (by rw [block_of_add, block_of_add]; exact had)
  obtain ⟨g2, g3⟩ := h ad e k hk
  exact ⟨fun A' n c h => g2 A' n c ((hc 2).symm.trans h), fun A' n c h => g3 A' n c ((hc 3).symm.trans h)⟩
theorem same_self (a : List ByteArray) : same a a = true := decide_eq_true rfl
theorem txt_same {W : World} {A F : Option Addr} {a : List ByteArray} {c d : Nat} (h1 : Strs W A a) (h2 : Strs W F a) (hl : a.length ≤ 1000000000) :
    Calls Tryd.prog 15 #[.slice A a.length c, .slice F a.length d] W fun e w' => e = .returned (.bool true) ∧ Below W.heap.size W w' := by
  refine (texts_any A F a a c d W h1 h2 hl hl).mono ?_
  rintro e w' ⟨h3, h4⟩
  rw [same_self] at h3
  exact ⟨h3, h4.below⟩
set_option maxHeartbeats 1000000 in
theorem checks_walk (A : Option Addr) (l : List Tg) (c : Nat) (w : World) (hE : Lg.Env w) (hr : Came w A l c) :
    Calls Tryd.prog 3 #[.slice A l.length c] w fun e w' => e = .returned (.bool true) ∧ Below w.heap.size w w' := by
  have AW := Lib.hid awake_any
  have EV := Lib.hid (fun W (h : Below w.heap.size w W) => hE.below h)
  have FW := Lib.hid (few_any A l c w hr.big hr.at_ hr.fit)
  have HR := Lib.hid hr
  clear hE hr
  go_enter Tryd.func3, Tryd.ntmps3
  go_wp2_with (fail)
  refine (FW.out).mono ?_
  rintro e w' ⟨b, rfl, rfl, hb⟩
  cases b
  · clear hb
    go_wp2_with (go_at_call 12; (with_reducible refine (AW.out _ (EV.out _ (Below.refl _ _))).mono ?_); rintro e w1 ⟨rfl, b1⟩)
    go_ret
    exact ⟨rfl, b1⟩
  · obtain ⟨h1, h2⟩ := hb rfl
    have FT := fun t ht => (h2 t ht).fits
    have PC := Lib.hid (pcheck_any A l c w (EV.out _ (Below.refl _ _)) HR.out.at_ (by omega) HR.out.len FT)
    have RC : Hid (∀ W, Below w.heap.size w W → Calls Tryd.prog 11 #[.slice A l.length c] W fun e w' => e = .returned (.int .i64 (checkF l)) ∧ Below W.heap.size W w') := Lib.hid fun W hW => rcheck_any A l c W (HR.out.at_.below hW) (HR.out.cap.below HR.out.at_ hW) (by omega) HR.out.len FT
    clear hb h2 FT
    generalize checkF l = E at *
    go_wp2_with (first
      | (go_at_call 10; (with_reducible refine (PC.out).mono ?_); rintro e w1 ⟨rfl, hb1⟩; have R1 := Lib.hid (RC.out _ hb1))
      | (go_at_call 11; (with_reducible refine (R1.out).mono ?_); rintro e w2 ⟨rfl, hb2'⟩; have hb2 := hb1.trans (hb2'.mono hb1.size); have E2 := EV.out _ hb2)
      | (go_at_call 12; (with_reducible refine (AW.out _ E2).mono ?_); rintro e w3 ⟨rfl, b3⟩))
    go_ret
    exact ⟨rfl, hb2.trans (b3.mono hb2.size)⟩
set_option maxHeartbeats 1000000 in
theorem orders_walk (A : Option Addr) (l : List Tg) (c : Nat) (w : World) (hE : Lg.Env w) (hr : Came w A l c) :
    Calls Tryd.prog 4 #[.slice A l.length c] w fun e w' => e = .returned (.bool true) ∧ Below w.heap.size w w' := by
  have AW := Lib.hid awake_any
  have EV := Lib.hid (fun W (h : Below w.heap.size w W) => hE.below h)
  have FW := Lib.hid (few_any A l c w hr.big hr.at_ hr.fit)
  have HR := Lib.hid hr
  clear hE hr
  go_enter Tryd.func4, Tryd.ntmps4
  go_wp2_with (fail)
  refine (FW.out).mono ?_
  rintro e w' ⟨b, rfl, rfl, hb⟩
  cases b
  · clear hb
    go_wp2_with (go_at_call 12; (with_reducible refine (AW.out _ (EV.out _ (Below.refl _ _))).mono ?_); rintro e w1 ⟨rfl, b1⟩)
    go_ret
    exact ⟨rfl, b1⟩
  · obtain ⟨h1, h2⟩ := hb rfl
    have FT := fun t ht => (h2 t ht).fits
    have PC := Lib.hid (porder_any A l c w (EV.out _ (Below.refl _ _)) HR.out.at_ (by omega) HR.out.len FT)
    have RC : Hid (∀ W, Below w.heap.size w W → Calls Tryd.prog 14 #[.slice A l.length c] W (OrderSays l W)) := Lib.hid fun W hW => rorder_any A l c W (HR.out.at_.below hW) (HR.out.cap.below HR.out.at_ hW) (by omega) HR.out.len FT
    have OL : (ordF l).length ≤ 1000000000 := by
      have := order_le l
      unfold ordF
      split <;> simp <;> omega
    clear hb h2 FT
    unfold OrderSays at PC RC
    generalize checkF l = E at *
    generalize ordF l = o at *
    go_wp2_with (first
      | (go_at_call 13; (with_reducible refine (PC.out).mono ?_); rintro e w1 ⟨⟨A1, c1, rfl, hs1⟩, hb1⟩; have R1 := Lib.hid (RC.out _ hb1); have S1 := Lib.hid hs1; clear hs1)
      | (go_at_call 14; (with_reducible refine (R1.out).mono ?_); rintro e w2 ⟨⟨A2, c2, rfl, hs2⟩, hb2'⟩; have hb2 := hb1.trans (hb2'.mono hb1.size); have TX := Lib.hid (txt_same (c := c1) (d := c2) (S1.out.below hb2') hs2 OL); clear hs2)
      | (go_at_call 15; (with_reducible refine (TX.out).mono ?_); rintro e w3 ⟨rfl, hb3'⟩; have hb3 := hb2.trans (hb3'.mono hb2.size); have E3 := EV.out _ hb3)
      | (go_at_call 12; (with_reducible refine (AW.out _ E3).mono ?_); rintro e w4 ⟨rfl, b4⟩))
    go_ret
    exact ⟨rfl, hb3.trans (b4.mono hb3.size)⟩
set_option maxHeartbeats 1000000 in
theorem below_walk (A : Option Addr) (l : List Tg) (c : Nat) (x : ByteArray) (hx : x.size ≤ maxLen) (w : World) (hE : Lg.Env w) (hr : Came w A l c) :
    Calls Tryd.prog 8 #[.slice A l.length c, .string x] w fun e w' => e = .returned (.bool true) ∧ Below w.heap.size w w' := by
  have AW := Lib.hid awake_any
  have EV := Lib.hid (fun W (h : Below w.heap.size w W) => hE.below h)
  have FW := Lib.hid (few_any A l c w hr.big hr.at_ hr.fit)
  have HR := Lib.hid hr
  unfold maxLen at hx
  clear hE hr
  by_cases h200 : 200 < x.size
  · have g : (200 : Int) < (x.size : Int) := by omega
    go_enter Tryd.func8, Tryd.ntmps8
    go_wp2_with (fail)
    refine (FW.out).mono ?_
    rintro e w' ⟨b, rfl, rfl, hb⟩
    clear hb
    cases b
    all_goals
      go_wp2_with (go_at_call 12; (with_reducible refine (AW.out _ (EV.out _ (Below.refl _ _))).mono ?_); rintro e w1 ⟨rfl, b1⟩)
      go_ret
      exact ⟨rfl, b1⟩
  · have g : ¬ (200 : Int) < (x.size : Int) := by omega
    go_enter Tryd.func8, Tryd.ntmps8
    go_wp2_with (fail)
    refine (FW.out).mono ?_
    rintro e w' ⟨b, rfl, rfl, hb⟩
    cases b
    · clear hb
      go_wp2_with (go_at_call 12; (with_reducible refine (AW.out _ (EV.out _ (Below.refl _ _))).mono ?_); rintro e w1 ⟨rfl, b1⟩)
      go_ret
      exact ⟨rfl, b1⟩
    · obtain ⟨h1, h2⟩ := hb rfl
      have FT := fun t ht => (h2 t ht).fits
      have PC := Lib.hid (below_any A l c x w HR.out.at_ (by omega) FT)
      have RC : Hid (∀ W, Below w.heap.size w W → Calls Tryd.prog 19 #[.slice A l.length c, .string x] W (ListSays (below l x) W)) := Lib.hid fun W hW => rbelow_any A l c x W (HR.out.at_.below hW) (by omega) FT
      have OL : (below l x).length ≤ 1000000000 := by
        have := pick_le (S := fun d => @decide (Reach l x d) (Classical.propDecidable _)) l []
        unfold below
        simp at this
        omega
      clear hb h2 FT
      unfold ListSays at PC RC
      generalize below l x = o at *
      go_wp2_with (first
        | (go_at_call 18; (with_reducible refine (PC.out).mono ?_); rintro e w1 ⟨⟨A1, c1, rfl, _, hs1⟩, hb1⟩; have R1 := Lib.hid (RC.out _ hb1); have S1 := Lib.hid hs1; clear hs1)
        | (go_at_call 19; (with_reducible refine (R1.out).mono ?_); rintro e w2 ⟨⟨A2, c2, rfl, _, hs2⟩, hb2'⟩; have hb2 := hb1.trans (hb2'.mono hb1.size); have TX := Lib.hid (txt_same (c := c1) (d := c2) (S1.out.below hb2') hs2 OL); clear hs2)
        | (go_at_call 15; (with_reducible refine (TX.out).mono ?_); rintro e w3 ⟨rfl, hb3'⟩; have hb3 := hb2.trans (hb3'.mono hb2.size); have E3 := EV.out _ hb3)
        | (go_at_call 12; (with_reducible refine (AW.out _ E3).mono ?_); rintro e w4 ⟨rfl, b4⟩))
      go_ret
      exact ⟨rfl, hb3.trans (b4.mono hb3.size)⟩
end Go.Proofs.YtoofflnaebkigaaDoor.Gr
