/- The walks of OpsFind and OpsFinds; printed by mkoplaws2.py. -/
import Derived.Test.YtcpkhaebcmgehaaGreatDoorMa32
namespace Go.Proofs.YtcpkhaebcmgehaaGreatDoor.Ops
open Go.RowKit
set_option linter.unusedVariables false
set_option maxRecDepth 100000
theorem rfind_in (A : Option Addr) (l : List Op) (c : Nat) (s : ByteArray) (w : World) (hr : Ops w A l) (hl : l.length ≤ 1000000000) {b : Bool} {x : Op} (hb : (find l s).isSome = b) (hx : (find l s).getD zeroO = x) :
    Calls Tryz.prog 25 #[.slice A l.length c, .string s] w fun e w' => (∃ (Og : Option Addr) (og : Nat) (Of : Option Addr) (of : Nat) (Or : Option Addr) (or_ : Nat), e = .returned (.tuple #[.agg #[.string x.n, .slice Og x.gr.length og, .slice Of x.sn.length of, .string x.go, .int .i64 x.st, .int .i64 x.r.e, .string x.r.at_, .string x.r.tx, .slice Or x.r.fs.length or_], .bool b]) ∧ Parts w x Og og Of of Or or_) ∧ Below w.heap.size w w' := by
  refine (rfind_any A l c s w w hr (Below.refl _ _) hl).mono ?_
  rintro e w' ⟨⟨o, Ag, cg, Af, cf, Ar, cr, h1, h2, h3⟩, hw⟩
  obtain rfl : o = x := h2.trans hx
  rw [hb] at h1
  exact ⟨⟨Ag, cg, Af, cf, Ar, cr, h1, h3⟩, hw⟩
/-- two rows of one operation each, the same -/
theorem same_one {wB : World} {x : Op} {Og : Option Addr} {og : Nat} {Of : Option Addr} {of : Nat} {Or : Option Addr} {or_ : Nat} {Qg : Option Addr} {qg : Nat} {Qf : Option Addr} {qf : Nat} {Qr : Option Addr} {qr : Nat} (hx : OkO x) (hp : Parts wB x Og og Of of Or or_) (hq : Parts wB x Qg qg Qf qf Qr qr) :
    Calls Tryz.prog 23 #[.slice (some ⟨wB.heap.size, 0, none⟩) 1 1, .slice (some ⟨wB.heap.size + 1, 0, none⟩) 1 1] ((wB.alloc (.cells #[.string x.n, .slice Og x.gr.length og, .slice Of x.sn.length of, .string x.go, .int .i64 x.st, .int .i64 x.r.e, .string x.r.at_, .string x.r.tx, .slice Or x.r.fs.length or_] 38)).alloc (.cells #[.string x.n, .slice Qg x.gr.length qg, .slice Qf x.sn.length qf, .string x.go, .int .i64 x.st, .int .i64 x.r.e, .string x.r.at_, .string x.r.tx, .slice Qr x.r.fs.length qr] 38)) fun e w' => e = .returned (.bool true) ∧ Below ((wB.alloc (.cells #[.string x.n, .slice Og x.gr.length og, .slice Of x.sn.length of, .string x.go, .int .i64 x.st, .int .i64 x.r.e, .string x.r.at_, .string x.r.tx, .slice Or x.r.fs.length or_] 38)).alloc (.cells #[.string x.n, .slice Qg x.gr.length qg, .slice Qf x.sn.length qf, .string x.go, .int .i64 x.st, .int .i64 x.r.e, .string x.r.at_, .string x.r.tx, .slice Qr x.r.fs.length qr] 38)).heap.size ((wB.alloc (.cells #[.string x.n, .slice Og x.gr.length og, .slice Of x.sn.length of, .string x.go, .int .i64 x.st, .int .i64 x.r.e, .string x.r.at_, .string x.r.tx, .slice Or x.r.fs.length or_] 38)).alloc (.cells #[.string x.n, .slice Qg x.gr.length qg, .slice Qf x.sn.length qf, .string x.go, .int .i64 x.st, .int .i64 x.r.e, .string x.r.at_, .string x.r.tx, .slice Qr x.r.fs.length qr] 38)) w' := by
  have hb : Below wB.heap.size wB ((wB.alloc (.cells #[.string x.n, .slice Og x.gr.length og, .slice Of x.sn.length of, .string x.go, .int .i64 x.st, .int .i64 x.r.e, .string x.r.at_, .string x.r.tx, .slice Or x.r.fs.length or_] 38)).alloc (.cells #[.string x.n, .slice Qg x.gr.length qg, .slice Qf x.sn.length qf, .string x.go, .int .i64 x.st, .int .i64 x.r.e, .string x.r.at_, .string x.r.tx, .slice Qr x.r.fs.length qr] 38)) := ((Below.refl _ _).alloc (Nat.le_refl _) _).alloc (by simp) _
  have hm : ∀ y ∈ [x], MidO y := fun y hy => by rw [List.mem_singleton.1 hy]; exact hx.mid
  exact rosame_any _ _ [x] [x] 1 1 _ (by simp) (by simp) hm hm (ops_blk Lg.heap_two (hp.below hb)) (ops_blk (heap_alloc2_new wB _ _) (hq.below hb)) (by simp)
set_option maxHeartbeats 8000000 in
theorem find_walk (A : Option Addr) (l : List Op) (c : Nat) (s : ByteArray) (hs : s.size ≤ maxLen) (w : World) (hE : Lg.Env w) (hr : Ops w A l) (hm : l.length ≤ maxLen) (hz : ∀ x ∈ l, FitO x) (hc : l.length ≤ c) :
    Calls Tryz.prog 6 #[.slice A l.length c, .string s] w (Yes w) := by
  have AW : Hid (∀ W, Below w.heap.size w W → Calls Tryz.prog 20 #[] W fun e w' => e = .returned (.bool true) ∧ Below W.heap.size W w') := Lib.hid fun W hW => awake_any W (hE.below hW)
  have FA : Hid (∀ b : Bool, (b = true ↔ FewP l) → ∀ W, Below w.heap.size w W → Calls Tryz.prog 19 #[.slice A l.length c] W fun e w' => e = .returned (.bool b) ∧ Below W.heap.size W w') := Lib.hid fun b hb W hW => few_at c hr hm hz hW hb
  have FI : Hid (FewP l → ∀ W, Below w.heap.size w W → Calls Tryz.prog 24 #[.slice A l.length c, .string s] W _) := Lib.hid fun h1 W hW => find_in A l c s W (hr.below hW) (by have := h1.1; omega) rfl rfl
  have RI : Hid (FewP l → ∀ W, Below w.heap.size w W → Calls Tryz.prog 25 #[.slice A l.length c, .string s] W _) := Lib.hid fun h1 W hW => rfind_in A l c s W (hr.below hW) (by have := h1.1; omega) rfl rfl
  have OK : Hid (FewP l → OkO ((find l s).getD zeroO)) := Lib.hid fun h1 => found_ok h1.2
  unfold maxLen at hs
  clear hE hr hm hz hc
  generalize (find l s).isSome = b at *
  generalize (find l s).getD zeroO = x at *
  by_cases h1 : FewP l
  · by_cases h3 : s.size ≤ 100
    · have FA1 := Lib.hid (FA.out true (by simp [h1]))
      have i1 : ¬ (100 : Int) < (s.size : Int) := by omega
      have i2 : decide ((100 : Int) < (s.size : Int)) = false := decide_eq_false i1
      have FI1 := Lib.hid (FI.out h1)
      have RI1 := Lib.hid (RI.out h1)
      have OK1 := Lib.hid (OK.out h1)
      clear FA FI RI OK h1
      have eb : (b == b) = true := by simp
      go_enter Tryz.func6, Tryz.ntmps6
      go_upto_region 5 with (first | (go_at_call 19; (with_reducible refine (FA1.out _ (Below.refl _ _)).mono ?_); rintro e w1 ⟨rfl, b1⟩) | (go_at_call 24; (with_reducible refine (FI1.out _ b1).mono ?_); rintro e w3 ⟨⟨Og, og, Of, of, Or, or_, rfl, hp3⟩, b3'⟩; have b3 := b1.trans (b3'.mono b1.size); have P3 := Lib.hid (hp3.below b3'); clear hp3; have b3a := b3.alloc b3.size (.cells #[.string x.n, .slice Og x.gr.length og, .slice Of x.sn.length of, .string x.go, .int .i64 x.st, .int .i64 x.r.e, .string x.r.at_, .string x.r.tx, .slice Or x.r.fs.length or_] 38)) | (go_at_call 25; (with_reducible refine (RI1.out _ b3a).mono ?_); rintro e w4 ⟨⟨Qg, qg, Qf, qf, Qr, qr, rfl, hp4⟩, b4'⟩; have b4 := b3a.trans (b4'.mono b3a.size); have P4 := Lib.hid (hp4.below b4'); clear hp4))
      generalize eB : w4.alloc (.cells #[.string x.n, .slice Qg x.gr.length qg, .slice Qf x.sn.length qf, .string x.go, .int .i64 x.st, .int .i64 x.r.e, .string x.r.at_, .string x.r.tx, .slice Qr x.r.fs.length qr] 38) = wB
      have hB : Below w.heap.size w wB := by rw [← eB]; exact b4.alloc b4.size _
      have k1 : wB.heap[w3.heap.size]? = some (.cells #[.string x.n, .slice Og x.gr.length og, .slice Of x.sn.length of, .string x.go, .int .i64 x.st, .int .i64 x.r.e, .string x.r.at_, .string x.r.tx, .slice Or x.r.fs.length or_] 38 (0, 0)) := by rw [← eB]; exact (Below.heap_alloc _ _ _ (by have := b4'.size; simp at this; omega)).trans ((b4'.block _ (by simp)).trans (heap_alloc_new w3 _))
      have k2 : wB.heap[w4.heap.size]? = some (.cells #[.string x.n, .slice Qg x.gr.length qg, .slice Qf x.sn.length qf, .string x.go, .int .i64 x.st, .int .i64 x.r.e, .string x.r.at_, .string x.r.tx, .slice Qr x.r.fs.length qr] 38 (0, 0)) := by rw [← eB]; exact heap_alloc_new w4 _
      have hPO : Parts wB x Og og Of of Or or_ := by rw [← eB]; exact (P3.out.below ((((Below.refl _ _).alloc (Nat.le_refl _) _).trans (b4'.mono (by simp))).alloc (by have := b4'.size; simp at this; omega) _))
      have hPQ : Parts wB x Qg qg Qf qf Qr qr := by rw [← eB]; exact P4.out.below ((Below.refl _ _).alloc (Nat.le_refl _) _)
      have T1 := Lib.hid (same_one OK1.out hPO hPQ)
      obtain ⟨wC, eC⟩ : ∃ wC, wC = (wB.alloc (.cells #[.string x.n, .slice Og x.gr.length og, .slice Of x.sn.length of, .string x.go, .int .i64 x.st, .int .i64 x.r.e, .string x.r.at_, .string x.r.tx, .slice Or x.r.fs.length or_] 38)).alloc (.cells #[.string x.n, .slice Qg x.gr.length qg, .slice Qf x.sn.length qf, .string x.go, .int .i64 x.st, .int .i64 x.r.e, .string x.r.at_, .string x.r.tx, .slice Qr x.r.fs.length qr] 38) := ⟨_, rfl⟩
      have hC : Below w.heap.size w wC := by rw [eC]; exact (hB.alloc hB.size _).alloc (by have := hB.size; simp; omega) _
      rw [← eC] at T1
      have HB := Lib.hid hB
      obtain ⟨x0, x1, x2, x3, x4, x5, x6, x7, x8, _⟩ := nine k1
      obtain ⟨y0, y1, y2, y3, y4, y5, y6, y7, y8, _⟩ := nine k2
      have l2 := Lg.lt_heap k2
      have a0 : ∀ o, (wB.alloc o).cell? ⟨w4.heap.size, 0, none⟩ = some (.string x.n) := fun o => (World.cell?_alloc_lt wB o ⟨w4.heap.size, 0, none⟩ l2).trans y0
      have a1 : ∀ o, (wB.alloc o).cell? ⟨w4.heap.size, 1, none⟩ = some (.slice Qg x.gr.length qg) := fun o => (World.cell?_alloc_lt wB o ⟨w4.heap.size, 1, none⟩ l2).trans y1
      have a2 : ∀ o, (wB.alloc o).cell? ⟨w4.heap.size, 2, none⟩ = some (.slice Qf x.sn.length qf) := fun o => (World.cell?_alloc_lt wB o ⟨w4.heap.size, 2, none⟩ l2).trans y2
      have a3 : ∀ o, (wB.alloc o).cell? ⟨w4.heap.size, 3, none⟩ = some (.string x.go) := fun o => (World.cell?_alloc_lt wB o ⟨w4.heap.size, 3, none⟩ l2).trans y3
      have a4 : ∀ o, (wB.alloc o).cell? ⟨w4.heap.size, 4, none⟩ = some (.int .i64 x.st) := fun o => (World.cell?_alloc_lt wB o ⟨w4.heap.size, 4, none⟩ l2).trans y4
      have a5 : ∀ o, (wB.alloc o).cell? ⟨w4.heap.size, 5, none⟩ = some (.int .i64 x.r.e) := fun o => (World.cell?_alloc_lt wB o ⟨w4.heap.size, 5, none⟩ l2).trans y5
      have a6 : ∀ o, (wB.alloc o).cell? ⟨w4.heap.size, 6, none⟩ = some (.string x.r.at_) := fun o => (World.cell?_alloc_lt wB o ⟨w4.heap.size, 6, none⟩ l2).trans y6
      have a7 : ∀ o, (wB.alloc o).cell? ⟨w4.heap.size, 7, none⟩ = some (.string x.r.tx) := fun o => (World.cell?_alloc_lt wB o ⟨w4.heap.size, 7, none⟩ l2).trans y7
      have a8 : ∀ o, (wB.alloc o).cell? ⟨w4.heap.size, 8, none⟩ = some (.slice Qr x.r.fs.length qr) := fun o => (World.cell?_alloc_lt wB o ⟨w4.heap.size, 8, none⟩ l2).trans y8
      clear k1 k2 eB hPO hPQ b3a b3 b3' b4 b4' hB
      go_wp2_with (first | (go_at_call 23; rw [← eC]; clear eC; (with_reducible refine (T1.out).mono ?_); rintro e w5 ⟨rfl, b5'⟩; have b5 := hC.trans (b5'.mono hC.size)) | (go_at_call 20; (with_reducible refine (AW.out _ b5).mono ?_); rintro e w9 ⟨rfl, b9⟩))
      go_ret
      exact ⟨rfl, b5.trans (b9.mono b5.size)⟩
    · have FA1 := Lib.hid (FA.out true (by simp [h1]))
      have i1 : (100 : Int) < (s.size : Int) := by omega
      have i2 : decide ((100 : Int) < (s.size : Int)) = true := decide_eq_true i1
      clear FA FI RI OK h1
      go_enter Tryz.func6, Tryz.ntmps6
      go_wp2_with (first | (go_at_call 19; (with_reducible refine (FA1.out _ (Below.refl _ _)).mono ?_); rintro e w1 ⟨rfl, b1⟩) | (go_at_call 20; (with_reducible refine (AW.out _ b1).mono ?_); rintro e w9 ⟨rfl, b9⟩))
      go_ret
      exact ⟨rfl, b1.trans (b9.mono b1.size)⟩
  · have FA1 := Lib.hid (FA.out false (by simp [h1]))
    clear FA FI RI OK h1
    go_enter Tryz.func6, Tryz.ntmps6
    go_wp2_with (first | (go_at_call 19; (with_reducible refine (FA1.out _ (Below.refl _ _)).mono ?_); rintro e w1 ⟨rfl, b1⟩) | (go_at_call 20; (with_reducible refine (AW.out _ b1).mono ?_); rintro e w9 ⟨rfl, b9⟩))
    go_ret
    exact ⟨rfl, b1.trans (b9.mono b1.size)⟩
set_option maxHeartbeats 8000000 in
theorem finds_walk (A : Option Addr) (l : List Op) (c : Nat) (F : Option Addr) (m : List Op) (d : Nat) (s : ByteArray) (hs : s.size ≤ maxLen) (w : World) (hE : Lg.Env w) (hr : Ops w A l) (hm : l.length ≤ maxLen) (hz : ∀ x ∈ l, FitO x) (hc : l.length ≤ c) (hq : Ops w F m) (hm2 : m.length ≤ maxLen) (hz2 : ∀ x ∈ m, FitO x) (hc2 : m.length ≤ d) :
    Calls Tryz.prog 7 #[.slice A l.length c, .slice F m.length d, .string s] w (Yes w) := by
  have AW : Hid (∀ W, Below w.heap.size w W → Calls Tryz.prog 20 #[] W fun e w' => e = .returned (.bool true) ∧ Below W.heap.size W w') := Lib.hid fun W hW => awake_any W (hE.below hW)
  have FA : Hid (∀ b : Bool, (b = true ↔ FewP l) → ∀ W, Below w.heap.size w W → Calls Tryz.prog 19 #[.slice A l.length c] W fun e w' => e = .returned (.bool b) ∧ Below W.heap.size W w') := Lib.hid fun b hb W hW => few_at c hr hm hz hW hb
  have FB : Hid (∀ b : Bool, (b = true ↔ FewP m) → ∀ W, Below w.heap.size w W → Calls Tryz.prog 19 #[.slice F m.length d] W fun e w' => e = .returned (.bool b) ∧ Below W.heap.size W w') := Lib.hid fun b hb W hW => few_at d hq hm2 hz2 hW hb
  have PS : Hid (FewP l → FewP m → ∀ W, Below w.heap.size w W → Calls Tryz.prog 26 #[.slice A l.length c, .slice F m.length d] W fun e w' => e = .returned (.bool (decide (l = m))) ∧ Below W.heap.size W w') := Lib.hid fun h1 h2 W hW => osame_any A F l m c d W (hE.below hW).2.1 (by have := h1.1; omega) (by have := h2.1; omega) h1.2 h2.2 (hr.below hW) (hq.below hW) rfl
  have PA : Hid (FewP l → ∀ W, Below w.heap.size w W → Calls Tryz.prog 26 #[.slice A l.length c, .slice A l.length c] W fun e w' => e = .returned (.bool true) ∧ Below W.heap.size W w') := Lib.hid fun h1 W hW => osame_any A A l l c c W (hE.below hW).2.1 (by have := h1.1; omega) (by have := h1.1; omega) h1.2 h1.2 (hr.below hW) (hr.below hW) (by simp)
  have RS : Hid (FewP l → FewP m → ∀ W, Below w.heap.size w W → Calls Tryz.prog 23 #[.slice A l.length c, .slice F m.length d] W fun e w' => e = .returned (.bool (decide (l = m))) ∧ Below W.heap.size W w') := Lib.hid fun h1 h2 W hW => rosame_any A F l m c d W (by have := h1.1; omega) (by have := h2.1; omega) (fun x hx => (h1.2 x hx).mid) (fun x hx => (h2.2 x hx).mid) (hr.below hW) (hq.below hW) rfl
  have FI : Hid (FewP l → ∀ W, Below w.heap.size w W → Calls Tryz.prog 24 #[.slice A l.length c, .string s] W _) := Lib.hid fun h1 W hW => find_in A l c s W (hr.below hW) (by have := h1.1; omega) rfl rfl
  have RI : Hid (FewP l → ∀ W, Below w.heap.size w W → Calls Tryz.prog 25 #[.slice A l.length c, .string s] W _) := Lib.hid fun h1 W hW => rfind_in A l c s W (hr.below hW) (by have := h1.1; omega) rfl rfl
  have OK : Hid (FewP l → OkO ((find l s).getD zeroO)) := Lib.hid fun h1 => found_ok h1.2
  unfold maxLen at hs
  clear hE hr hm hz hc hq hm2 hz2 hc2
  generalize (find l s).isSome = b at *
  generalize (find l s).getD zeroO = x at *
  generalize decide (l = m) = v at *
  by_cases h1 : FewP l
  · by_cases h2 : FewP m
    · by_cases h3 : s.size ≤ 100
      · have FA1 := Lib.hid (FA.out true (by simp [h1]))
        have FB1 := Lib.hid (FB.out true (by simp [h2]))
        have i1 : ¬ (100 : Int) < (s.size : Int) := by omega
        have i2 : decide ((100 : Int) < (s.size : Int)) = false := decide_eq_false i1
        have FI1 := Lib.hid (FI.out h1)
        have RI1 := Lib.hid (RI.out h1)
        have OK1 := Lib.hid (OK.out h1)
        have PS1 := Lib.hid (PS.out h1 h2)
        have PA1 := Lib.hid (PA.out h1)
        have RS1 := Lib.hid (RS.out h1 h2)
        clear FA FI RI OK FB PS PA RS h1 h2
        have eb : (b == b) = true := by simp
        have ev : (v == v) = true := by simp
        go_enter Tryz.func7, Tryz.ntmps7
        go_upto_region 5 with (first | (go_at_call 19; (with_reducible refine (FA1.out _ (Below.refl _ _)).mono ?_); rintro e w1 ⟨rfl, b1⟩) | (go_at_call 19; (with_reducible refine (FB1.out _ b1).mono ?_); rintro e w2 ⟨rfl, b2'⟩; have b2 := b1.trans (b2'.mono b1.size)) | (go_at_call 24; (with_reducible refine (FI1.out _ b2).mono ?_); rintro e w3 ⟨⟨Og, og, Of, of, Or, or_, rfl, hp3⟩, b3'⟩; have b3 := b2.trans (b3'.mono b2.size); have P3 := Lib.hid (hp3.below b3'); clear hp3; have b3a := b3.alloc b3.size (.cells #[.string x.n, .slice Og x.gr.length og, .slice Of x.sn.length of, .string x.go, .int .i64 x.st, .int .i64 x.r.e, .string x.r.at_, .string x.r.tx, .slice Or x.r.fs.length or_] 38)) | (go_at_call 25; (with_reducible refine (RI1.out _ b3a).mono ?_); rintro e w4 ⟨⟨Qg, qg, Qf, qf, Qr, qr, rfl, hp4⟩, b4'⟩; have b4 := b3a.trans (b4'.mono b3a.size); have P4 := Lib.hid (hp4.below b4'); clear hp4))
        generalize eB : w4.alloc (.cells #[.string x.n, .slice Qg x.gr.length qg, .slice Qf x.sn.length qf, .string x.go, .int .i64 x.st, .int .i64 x.r.e, .string x.r.at_, .string x.r.tx, .slice Qr x.r.fs.length qr] 38) = wB
        have hB : Below w.heap.size w wB := by rw [← eB]; exact b4.alloc b4.size _
        have k1 : wB.heap[w3.heap.size]? = some (.cells #[.string x.n, .slice Og x.gr.length og, .slice Of x.sn.length of, .string x.go, .int .i64 x.st, .int .i64 x.r.e, .string x.r.at_, .string x.r.tx, .slice Or x.r.fs.length or_] 38 (0, 0)) := by rw [← eB]; exact (Below.heap_alloc _ _ _ (by have := b4'.size; simp at this; omega)).trans ((b4'.block _ (by simp)).trans (heap_alloc_new w3 _))
        have k2 : wB.heap[w4.heap.size]? = some (.cells #[.string x.n, .slice Qg x.gr.length qg, .slice Qf x.sn.length qf, .string x.go, .int .i64 x.st, .int .i64 x.r.e, .string x.r.at_, .string x.r.tx, .slice Qr x.r.fs.length qr] 38 (0, 0)) := by rw [← eB]; exact heap_alloc_new w4 _
        have hPO : Parts wB x Og og Of of Or or_ := by rw [← eB]; exact (P3.out.below ((((Below.refl _ _).alloc (Nat.le_refl _) _).trans (b4'.mono (by simp))).alloc (by have := b4'.size; simp at this; omega) _))
        have hPQ : Parts wB x Qg qg Qf qf Qr qr := by rw [← eB]; exact P4.out.below ((Below.refl _ _).alloc (Nat.le_refl _) _)
        have T1 := Lib.hid (same_one OK1.out hPO hPQ)
        obtain ⟨wC, eC⟩ : ∃ wC, wC = (wB.alloc (.cells #[.string x.n, .slice Og x.gr.length og, .slice Of x.sn.length of, .string x.go, .int .i64 x.st, .int .i64 x.r.e, .string x.r.at_, .string x.r.tx, .slice Or x.r.fs.length or_] 38)).alloc (.cells #[.string x.n, .slice Qg x.gr.length qg, .slice Qf x.sn.length qf, .string x.go, .int .i64 x.st, .int .i64 x.r.e, .string x.r.at_, .string x.r.tx, .slice Qr x.r.fs.length qr] 38) := ⟨_, rfl⟩
        have hC : Below w.heap.size w wC := by rw [eC]; exact (hB.alloc hB.size _).alloc (by have := hB.size; simp; omega) _
        rw [← eC] at T1
        have HB := Lib.hid hB
        obtain ⟨x0, x1, x2, x3, x4, x5, x6, x7, x8, _⟩ := nine k1
        obtain ⟨y0, y1, y2, y3, y4, y5, y6, y7, y8, _⟩ := nine k2
        have l2 := Lg.lt_heap k2
        have a0 : ∀ o, (wB.alloc o).cell? ⟨w4.heap.size, 0, none⟩ = some (.string x.n) := fun o => (World.cell?_alloc_lt wB o ⟨w4.heap.size, 0, none⟩ l2).trans y0
        have a1 : ∀ o, (wB.alloc o).cell? ⟨w4.heap.size, 1, none⟩ = some (.slice Qg x.gr.length qg) := fun o => (World.cell?_alloc_lt wB o ⟨w4.heap.size, 1, none⟩ l2).trans y1
        have a2 : ∀ o, (wB.alloc o).cell? ⟨w4.heap.size, 2, none⟩ = some (.slice Qf x.sn.length qf) := fun o => (World.cell?_alloc_lt wB o ⟨w4.heap.size, 2, none⟩ l2).trans y2
        have a3 : ∀ o, (wB.alloc o).cell? ⟨w4.heap.size, 3, none⟩ = some (.string x.go) := fun o => (World.cell?_alloc_lt wB o ⟨w4.heap.size, 3, none⟩ l2).trans y3
        have a4 : ∀ o, (wB.alloc o).cell? ⟨w4.heap.size, 4, none⟩ = some (.int .i64 x.st) := fun o => (World.cell?_alloc_lt wB o ⟨w4.heap.size, 4, none⟩ l2).trans y4
        have a5 : ∀ o, (wB.alloc o).cell? ⟨w4.heap.size, 5, none⟩ = some (.int .i64 x.r.e) := fun o => (World.cell?_alloc_lt wB o ⟨w4.heap.size, 5, none⟩ l2).trans y5
        have a6 : ∀ o, (wB.alloc o).cell? ⟨w4.heap.size, 6, none⟩ = some (.string x.r.at_) := fun o => (World.cell?_alloc_lt wB o ⟨w4.heap.size, 6, none⟩ l2).trans y6
        have a7 : ∀ o, (wB.alloc o).cell? ⟨w4.heap.size, 7, none⟩ = some (.string x.r.tx) := fun o => (World.cell?_alloc_lt wB o ⟨w4.heap.size, 7, none⟩ l2).trans y7
        have a8 : ∀ o, (wB.alloc o).cell? ⟨w4.heap.size, 8, none⟩ = some (.slice Qr x.r.fs.length qr) := fun o => (World.cell?_alloc_lt wB o ⟨w4.heap.size, 8, none⟩ l2).trans y8
        clear k1 k2 eB hPO hPQ b3a b3 b3' b4 b4' hB
        go_wp2_with (first | (go_at_call 23; rw [← eC]; clear eC; (with_reducible refine (T1.out).mono ?_); rintro e w5 ⟨rfl, b5'⟩; have b5 := hC.trans (b5'.mono hC.size)) | (go_at_call 26; (with_reducible refine (PS1.out _ b5).mono ?_); rintro e w6 ⟨rfl, b6'⟩; have b6 := b5.trans (b6'.mono b5.size)) | (go_at_call 23; (with_reducible refine (RS1.out _ b6).mono ?_); rintro e w7 ⟨rfl, b7'⟩; have b7 := b6.trans (b7'.mono b6.size)) | (go_at_call 26; (with_reducible refine (PA1.out _ b7).mono ?_); rintro e w8 ⟨rfl, b8'⟩; have b8 := b7.trans (b8'.mono b7.size)) | (go_at_call 20; (with_reducible refine (AW.out _ b8).mono ?_); rintro e w9 ⟨rfl, b9⟩))
        go_ret
        exact ⟨rfl, b8.trans (b9.mono b8.size)⟩
      · have FA1 := Lib.hid (FA.out true (by simp [h1]))
        have FB1 := Lib.hid (FB.out true (by simp [h2]))
        have i1 : (100 : Int) < (s.size : Int) := by omega
        have i2 : decide ((100 : Int) < (s.size : Int)) = true := decide_eq_true i1
        clear FA FI RI OK FB PS PA RS h1 h2
        go_enter Tryz.func7, Tryz.ntmps7
        go_wp2_with (first | (go_at_call 19; (with_reducible refine (FA1.out _ (Below.refl _ _)).mono ?_); rintro e w1 ⟨rfl, b1⟩) | (go_at_call 19; (with_reducible refine (FB1.out _ b1).mono ?_); rintro e w2 ⟨rfl, b2'⟩; have b2 := b1.trans (b2'.mono b1.size)) | (go_at_call 20; (with_reducible refine (AW.out _ b2).mono ?_); rintro e w9 ⟨rfl, b9⟩))
        go_ret
        exact ⟨rfl, b2.trans (b9.mono b2.size)⟩
    · have FA1 := Lib.hid (FA.out true (by simp [h1]))
      have FB1 := Lib.hid (FB.out false (by simp [h2]))
      clear FA FI RI OK FB PS PA RS h1 h2
      go_enter Tryz.func7, Tryz.ntmps7
      go_wp2_with (first | (go_at_call 19; (with_reducible refine (FA1.out _ (Below.refl _ _)).mono ?_); rintro e w1 ⟨rfl, b1⟩) | (go_at_call 19; (with_reducible refine (FB1.out _ b1).mono ?_); rintro e w2 ⟨rfl, b2'⟩; have b2 := b1.trans (b2'.mono b1.size)) | (go_at_call 20; (with_reducible refine (AW.out _ b2).mono ?_); rintro e w9 ⟨rfl, b9⟩))
      go_ret
      exact ⟨rfl, b2.trans (b9.mono b2.size)⟩
  · have FA1 := Lib.hid (FA.out false (by simp [h1]))
    clear FA FI RI OK FB PS PA RS h1
    go_enter Tryz.func7, Tryz.ntmps7
    go_wp2_with (first | (go_at_call 19; (with_reducible refine (FA1.out _ (Below.refl _ _)).mono ?_); rintro e w1 ⟨rfl, b1⟩) | (go_at_call 20; (with_reducible refine (AW.out _ b1).mono ?_); rintro e w9 ⟨rfl, b9⟩))
    go_ret
    exact ⟨rfl, b1.trans (b9.mono b1.size)⟩
end Go.Proofs.YtcpkhaebcmgehaaGreatDoor.Ops
