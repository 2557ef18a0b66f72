/- The contracts of the reference's cache that write. -/
import Derived.Test.YtcifjhhofefpjaaCrBase
import Derived.Test.YtcifjhhofefpjaaCaI
import Derived.StillTailTactics
import Derived.Deep.RegionHeld3
namespace Go.Proofs.Ytcifjhhofefpjaa.Cr
open Go.RowKit Go.Proofs.Ytcifjhhofefpjaa.Ca
set_option linter.unusedVariables false
set_option maxRecDepth 100000
def RSays (w : World) (B r most : Nat) (l : List (Th Int)) (v : Value) (e : Ending) (w' : World) : Prop := e = .returned v ∧ RefAt w' B r most l ∧ Below B w w' ∧ FrR w w'
theorem FrR.refl (w : World) : FrR w w := ⟨Nat.le_refl _, fun _ _ _ _ => rfl⟩
theorem FrR.trans {w w' w'' : World} (h : FrR w w') (k : FrR w' w'') : FrR w w'' :=
  ⟨Nat.le_trans h.1 k.1, fun b hb h1 h2 => by
    have e := h.2 b hb h1 h2
    exact (k.2 b (Nat.lt_of_lt_of_le hb h.1) (by rw [e]; exact h1) (by rw [e]; exact h2)).trans e⟩
theorem FrR.below {w w' : World} (h : Below w.heap.size w w') : FrR w w' := ⟨h.size, fun b hb _ _ => h.block b hb⟩
theorem FrR.updC {w w' : World} {b : Nat} {o : Obj} {cs : Array Value} (u : Upd w w' b o) (hs : w.heap.size ≤ w'.heap.size) (hb : w.heap[b]? = some (.cells cs 70 (0, 0))) : FrR w w' :=
  ⟨hs, fun j hj h1 _ => u.2 j hj (by rintro rfl; exact h1 cs hb)⟩
theorem FrR.updT {w w' : World} {b : Nat} {o : Obj} {cs : Array Value} (u : Upd w w' b o) (hs : w.heap.size ≤ w'.heap.size) (hb : w.heap[b]? = some (.cells cs 72 (0, 0))) : FrR w w' :=
  ⟨hs, fun j hj _ h2 => u.2 j hj (by rintro rfl; exact h2 cs hb)⟩
theorem FrR.grown {w w' : World} {v : Value} {B : Nat} {n size : Nat} {xs : List Value} (hg : w.grownBy w' v.ownBlock) (h : w.ownsRow B 72 size v n xs) : FrR w w' :=
  ⟨hg.size, fun j hj _ h2 => hg.block j hj (fun e => by
    rcases h.2 with ⟨rfl, _⟩ | ⟨g, cap, cur, rfl, _, hgb, _⟩
    · simp [Value.ownBlock] at e
    · have : j = g := by simpa [Value.ownBlock] using e
      subst this
      exact h2 _ hgb)⟩
/-- a cache of the reference's, its slice written out: one with something in it -/
theorem RefAt.open_ {w : World} {B r most : Nat} {l : List (Th Int)} (h : RefAt w B r most l) : ∃ A cap, w.heap[r]? = some (.cells #[.slice A l.length cap, .int .i64 most] 70 (0, 0)) ∧ w.ownsRow B 72 3 (.slice A l.length cap) l.length (cells3 l) := by
  obtain ⟨_, v, hr, hown⟩ := h
  obtain ⟨A, cap, rfl⟩ := own_slice hown
  exact ⟨A, cap, hr, hown⟩
theorem RefAt.below {w w' : World} {B r most : Nat} {l : List (Th Int)} (h : RefAt w B r most l) (hb : Below w.heap.size w w') : RefAt w' B r most l := by
  obtain ⟨h1, v, hr, hown⟩ := h
  refine ⟨h1, v, (hb.block r (heap_lt hr)).trans hr, hown.1, ?_⟩
  rcases hown.2 with h0 | ⟨g, cap, cur, hv, hg, hgb, h2⟩
  · exact .inl h0
  · exact .inr ⟨g, cap, cur, hv, hg, (hb.block g (heap_lt hgb)).trans hgb, h2⟩
theorem rnew_ok (most : Nat) (h1 : 1 ≤ most) (h2 : most ≤ 1000) (w : World) : Calls Try.prog 11 #[.int .i64 most] w fun e w' =>
    e = .returned (.tuple #[.pointer (some ⟨w.heap.size, 0, none⟩), .int .i64 0]) ∧ RefAt w' w.heap.size w.heap.size most [] ∧ Below w.heap.size w w' := by
  have i1 : decide ((most : Int) < 1) = false := decide_eq_false (by omega)
  have i2 : decide ((1000 : Int) < (most : Int)) = false := decide_eq_false (by omega)
  go_enter Try.func11, Try.ntmps11
  go_wp2
  go_ret2
  exact ⟨rfl, ⟨Nat.le_refl _, _, heap_alloc_new w _, World.ownsRow_nil _ _ _ _⟩, (Below.refl _ _).alloc (Nat.le_refl _) _⟩
theorem rnew_bad (most : Int) (h : most < 1 ∨ 1000 < most) (w : World) : Calls Try.prog 11 #[.int .i64 most] w fun e w' => e = .returned (.tuple #[.pointer none, .int .i64 1]) ∧ w = w' := by
  rcases h with h | h
  · have i1 : decide (most < 1) = true := decide_eq_true (by omega)
    go_enter Try.func11, Try.ntmps11
    go_wp2
    go_ret2
    exact ⟨rfl, rfl⟩
  · have i1 : decide (most < 1) = false := decide_eq_false (by omega)
    have i2 : decide (1000 < most) = true := decide_eq_true (by omega)
    go_enter Try.func11, Try.ntmps11
    go_wp2
    go_ret2
    exact ⟨rfl, rfl⟩
section
variable {w : World} {B r most : Nat} {l : List (Th Int)}
theorem idx_of {k : ByteArray} {a b : List (Th Int)} {x : Th Int} (h : at_ k l = some (a, x, b)) : idx k l = a.length := by unfold idx; rw [h]
theorem idx_no {k : ByteArray} (h : at_ k l = none) : idx k l = -1 := by unfold idx; rw [h]
theorem RefAt.lt (h : RefAt w B r most l) : r < w.heap.size := by
  obtain ⟨_, v, hr, _⟩ := h
  exact heap_lt hr
theorem hit_open {A : Option Addr} {cap : Nat} {a b : List (Th Int)} {x : Th Int} (hown : w.ownsRow B 72 3 (.slice A (a ++ x :: b).length cap) (a ++ x :: b).length (cells3 (a ++ x :: b))) :
    ∃ g cur, A = some ⟨g, 0, none⟩ ∧ B ≤ g ∧ g < w.heap.size ∧ w.heap[g]? = some (.cells cur 72 (0, 0)) ∧
      w.cell? ⟨g, a.length * 3, none⟩ = some (.string x.k) ∧ w.cell? ⟨g, a.length * 3 + 1, none⟩ = some (.int .i64 x.v) ∧ w.cell? ⟨g, a.length * 3 + 2, none⟩ = some (.int .i64 x.p) := by
  have hpos : 0 < (a ++ x :: b).length := by simp; omega
  rcases hown.2 with ⟨_, h1⟩ | ⟨g, cap', cur, hv, hgB, hgb, _⟩
  · omega
  · injection hv with hA _ _
    subst hA
    obtain ⟨h0, h1, h2⟩ := cells3_get (a ++ x :: b) a.length (by simp)
    have e0 := hown.cells (g := g) rfl _ _ h0
    have e1 := hown.cells (g := g) rfl _ _ h1
    have e2 := hown.cells (g := g) rfl _ _ h2
    rw [add_eq] at e0 e1 e2
    exact ⟨g, cur, rfl, hgB, heap_lt hgb, hgb, by simpa using e0, by simpa using e1, by simpa using e2⟩
theorem rpin_any (h : RefAt w B r most l) {k : ByteArray} (hl : l.length ≤ 1000000) (hp : ∀ x ∈ l, x.p ≤ 1000000) :
    Calls Try.prog 16 #[.pointer (some ⟨r, 0, none⟩), .string k] w (RSays w B r most (pin l k).1 (.int .i64 (pin l k).2)) := by
  obtain ⟨A, cap, hr, hown⟩ := h.open_
  have AT := at_any r most A cap l k w hl hr (Ths.of_own hown)
  cases hat : at_ k l with
  | none =>
    have hpn : pin l k = (l, 17) := by unfold pin; rw [hat]
    rw [idx_no hat] at AT
    rw [hpn]
    have FIN : Hid (RSays w B r most l (.int .i64 (17 : Nat)) (.returned (.int .i64 17)) w) := Lib.hid ⟨rfl, h, Below.refl _ _, FrR.refl _⟩
    have ATH := Lib.hid AT
    clear AT h hr hown hat hpn hp
    go_enter Try.func16, Try.ntmps16
    go_wp2_with (go_at_call 37; ((with_reducible refine (ATH.out).mono ?_); rintro e w' ⟨rfl, rfl⟩))
    go_ret
    exact FIN.out
  | some z =>
    obtain ⟨a, x, b⟩ := z
    obtain ⟨hl1, hxk, _⟩ := part_some hat
    have hpn : pin l k = (a ++ ⟨x.k, x.v, x.p + 1⟩ :: b, 0) := by unfold pin; rw [hat]
    rw [idx_of hat] at AT
    rw [hpn]
    clear hpn hat
    subst hl1
    obtain ⟨g, cur, rfl, hgB, hgl, hgb, _, _, c2⟩ := hit_open hown
    have f2 : w.frozen? ⟨g, a.length * 3 + 2, none⟩ = false := free_at hgb _
    have c0 : w.cell? ⟨r, 0, none⟩ = some (.slice (some ⟨g, 0, none⟩) (a ++ x :: b).length cap) := (cell_at hr 0).trans rfl
    have hx : x.p ≤ 1000000 := hp x (by simp)
    have hxI : (x.p : Int) ≤ 1000000 := by omega
    have u := Upd.setCell hgb (a.length * 3 + 2) (.int .i64 ((x.p : Int) + 1))
    have hrg : r ≠ g := by rintro rfl; rw [hr] at hgb; injection hgb with hgb; injection hgb with _ e; cases e
    have FIN : Hid (∀ n, RSays w B r most (a ++ ⟨x.k, x.v, x.p + 1⟩ :: b) (.int .i64 (0 : Nat)) (.returned (.int .i64 0)) ((w.setCell ⟨g, a.length * 3 + 2, none⟩ (.int .i64 ((x.p : Int) + 1))).drewN n)) := Lib.hid (fun n => by
      have ho := own_set hown (j := a.length * 3 + 2) (by simp; omega) (.int .i64 ((x.p + 1 : Nat) : Int))
      rw [cells3_set, show (a ++ x :: b).length = (a ++ ⟨x.k, x.v, x.p + 1⟩ :: b).length by simp] at ho
      refine ⟨rfl, ⟨h.1, _, (u.2 r (heap_lt hr) hrg).trans hr, ?_⟩, ?_, ?_⟩
      · rw [show (a ++ x :: b).length = (a ++ ⟨x.k, x.v, x.p + 1⟩ :: b).length by simp]
        exact ho
      · have := (Below.refl B w).setCell (p := ⟨g, a.length * 3 + 2, none⟩) hgB (.int .i64 ((x.p : Int) + 1))
        exact ⟨this.os, this.tape, this.output, this.size, this.block⟩
      · exact (FrR.updT u (by rw [size_setCell]; exact Nat.le_refl _) hgb : FrR w (w.setCell ⟨g, a.length * 3 + 2, none⟩ (.int .i64 ((x.p : Int) + 1)))))
    have i1 : (0 : Int) ≤ (a.length : Int) := by omega
    have i2 : (a.length : Int) < ((a ++ x :: b).length : Int) := by simp; omega
    have i3 : ¬ (a.length : Int) < 0 := by omega
    obtain ⟨n, en⟩ : ∃ n, n = (a ++ x :: b).length := ⟨_, rfl⟩
    rw [← en] at c0 i2
    have ATH := Lib.hid AT
    clear AT h hr hown hp u en hgb hrg
    go_enter Try.func16, Try.ntmps16
    go_wp2_with (go_at_call 37; ((with_reducible refine (ATH.out).mono ?_); rintro e w' ⟨rfl, rfl⟩))
    go_still_tail 16, (by kernel_rfl)
    go_wp2_with (fail)
    go_ret
    exact FIN.out _
theorem runpin_any (h : RefAt w B r most l) {k : ByteArray} (hl : l.length ≤ 1000000) (hp : ∀ x ∈ l, x.p ≤ 1000000) :
    Calls Try.prog 18 #[.pointer (some ⟨r, 0, none⟩), .string k] w (RSays w B r most (unpin l k).1 (.int .i64 (unpin l k).2)) := by
  obtain ⟨A, cap, hr, hown⟩ := h.open_
  have AT := at_any r most A cap l k w hl hr (Ths.of_own hown)
  cases hat : at_ k l with
  | none =>
    have hpn : unpin l k = (l, 17) := by unfold unpin; rw [hat]
    rw [idx_no hat] at AT
    rw [hpn]
    have FIN : Hid (RSays w B r most l (.int .i64 (17 : Nat)) (.returned (.int .i64 17)) w) := Lib.hid ⟨rfl, h, Below.refl _ _, FrR.refl _⟩
    have ATH := Lib.hid AT
    clear AT h hr hown hat hpn hp
    go_enter Try.func18, Try.ntmps18
    go_wp2_with (go_at_call 37; ((with_reducible refine (ATH.out).mono ?_); rintro e w' ⟨rfl, rfl⟩))
    go_ret
    exact FIN.out
  | some z =>
    obtain ⟨a, x, b⟩ := z
    obtain ⟨hl1, hxk, _⟩ := part_some hat
    have hpn : unpin l k = if x.p = 0 then (l, 43) else (a ++ ⟨x.k, x.v, x.p - 1⟩ :: b, 0) := by unfold unpin; rw [hat]
    rw [idx_of hat] at AT
    rw [hpn]
    clear hpn hat
    subst hl1
    obtain ⟨g, cur, rfl, hgB, hgl, hgb, _, _, c2⟩ := hit_open hown
    have f2 : w.frozen? ⟨g, a.length * 3 + 2, none⟩ = false := free_at hgb _
    have c0 : w.cell? ⟨r, 0, none⟩ = some (.slice (some ⟨g, 0, none⟩) (a ++ x :: b).length cap) := (cell_at hr 0).trans rfl
    have hx : x.p ≤ 1000000 := hp x (by simp)
    have hxI : (x.p : Int) ≤ 1000000 := by omega
    have i1 : (0 : Int) ≤ (a.length : Int) := by omega
    have i3 : ¬ (a.length : Int) < 0 := by omega
    by_cases hz : x.p = 0
    · rw [if_pos hz]
      have hb : ((x.p : Int) == 0) = true := by rw [hz]; rfl
      have FIN : Hid (RSays w B r most (a ++ x :: b) (.int .i64 (43 : Nat)) (.returned (.int .i64 43)) w) := Lib.hid ⟨rfl, h, Below.refl _ _, FrR.refl _⟩
      have i2 : (a.length : Int) < ((a ++ x :: b).length : Int) := by simp; omega
      obtain ⟨n, en⟩ : ∃ n, n = (a ++ x :: b).length := ⟨_, rfl⟩
      rw [← en] at c0 i2
      have ATH := Lib.hid AT
      clear AT h hr hown hp en hgb hz
      go_enter Try.func18, Try.ntmps18
      go_wp2_with (go_at_call 37; ((with_reducible refine (ATH.out).mono ?_); rintro e w' ⟨rfl, rfl⟩))
      go_ret
      exact FIN.out
    rw [if_neg hz]
    have hb : ((x.p : Int) == 0) = false := beq_eq_false_iff_ne.2 (by omega)
    have hx1 : (1 : Int) ≤ (x.p : Int) := by omega
    have ep : ((x.p - 1 : Nat) : Int) = (x.p : Int) - 1 := by omega
    have u := Upd.setCell hgb (a.length * 3 + 2) (.int .i64 ((x.p : Int) - 1))
    have hrg : r ≠ g := by rintro rfl; rw [hr] at hgb; injection hgb with hgb; injection hgb with _ e; cases e
    have FIN : Hid (∀ n, RSays w B r most (a ++ ⟨x.k, x.v, x.p - 1⟩ :: b) (.int .i64 (0 : Nat)) (.returned (.int .i64 0)) ((w.setCell ⟨g, a.length * 3 + 2, none⟩ (.int .i64 ((x.p : Int) - 1))).drewN n)) := Lib.hid (fun n => by
      have ho := own_set hown (j := a.length * 3 + 2) (by simp; omega) (.int .i64 ((x.p - 1 : Nat) : Int))
      rw [cells3_set, ep, show (a ++ x :: b).length = (a ++ ⟨x.k, x.v, x.p - 1⟩ :: b).length by simp] at ho
      refine ⟨rfl, ⟨h.1, _, (u.2 r (heap_lt hr) hrg).trans hr, ?_⟩, ?_, ?_⟩
      · rw [show (a ++ x :: b).length = (a ++ ⟨x.k, x.v, x.p - 1⟩ :: b).length by simp]
        exact ho
      · have := (Below.refl B w).setCell (p := ⟨g, a.length * 3 + 2, none⟩) hgB (.int .i64 ((x.p : Int) - 1))
        exact ⟨this.os, this.tape, this.output, this.size, this.block⟩
      · exact (FrR.updT u (by rw [size_setCell]; exact Nat.le_refl _) hgb : FrR w (w.setCell ⟨g, a.length * 3 + 2, none⟩ (.int .i64 ((x.p : Int) - 1)))))
    have i1 : (0 : Int) ≤ (a.length : Int) := by omega
    have i2 : (a.length : Int) < ((a ++ x :: b).length : Int) := by simp; omega
    have i3 : ¬ (a.length : Int) < 0 := by omega
    obtain ⟨n, en⟩ : ∃ n, n = (a ++ x :: b).length := ⟨_, rfl⟩
    rw [← en] at c0 i2
    have ATH := Lib.hid AT
    clear AT h hr hown hp u en hgb hrg hz ep
    go_enter Try.func18, Try.ntmps18
    go_wp2_with (go_at_call 37; ((with_reducible refine (ATH.out).mono ?_); rintro e w' ⟨rfl, rfl⟩))
    go_still_tail 16, (by kernel_rfl)
    go_wp2_with (fail)
    go_ret
    exact FIN.out _
theorem rdrop_any (h : RefAt w B r most l) {k : ByteArray} (hl : l.length ≤ 1000000) (hp : ∀ x ∈ l, x.p ≤ 1000000) :
    Calls Try.prog 20 #[.pointer (some ⟨r, 0, none⟩), .string k] w (RSays w B r most (drop l k).1 (.int .i64 (drop l k).2)) := by
  obtain ⟨A, cap, hr, hown⟩ := h.open_
  have AT := at_any r most A cap l k w hl hr (Ths.of_own hown)
  cases hat : at_ k l with
  | none =>
    have hpn : drop l k = (l, 17) := by unfold drop; rw [hat]
    rw [idx_no hat] at AT
    rw [hpn]
    have FIN : Hid (RSays w B r most l (.int .i64 (17 : Nat)) (.returned (.int .i64 17)) w) := Lib.hid ⟨rfl, h, Below.refl _ _, FrR.refl _⟩
    have ATH := Lib.hid AT
    clear AT h hr hown hat hpn hp
    go_enter Try.func20, Try.ntmps20
    go_wp2_with (go_at_call 37; ((with_reducible refine (ATH.out).mono ?_); rintro e w' ⟨rfl, rfl⟩))
    go_ret
    exact FIN.out
  | some z =>
    obtain ⟨a, x, b⟩ := z
    obtain ⟨hl1, hxk, _⟩ := part_some hat
    have hpn : drop l k = if x.p = 0 then (a ++ b, 0) else (l, 43) := by unfold drop; rw [hat]
    rw [idx_of hat] at AT
    rw [hpn]
    clear hpn hat
    subst hl1
    have WO := without_any r most B A cap a x b w hl hr hown
    obtain ⟨g, cur, rfl, hgB, hgl, hgb, _, _, c2⟩ := hit_open hown
    have c0 : w.cell? ⟨r, 0, none⟩ = some (.slice (some ⟨g, 0, none⟩) (a ++ x :: b).length cap) := (cell_at hr 0).trans rfl
    have hx : x.p ≤ 1000000 := hp x (by simp)
    have hxI : (x.p : Int) ≤ 1000000 := by omega
    have i1 : (0 : Int) ≤ (a.length : Int) := by omega
    have i3 : ¬ (a.length : Int) < 0 := by omega
    have i2 : (a.length : Int) < ((a ++ x :: b).length : Int) := by simp; omega
    by_cases hz : x.p = 0
    · rw [if_pos hz]
      have hb : decide (0 < x.p) = false := decide_eq_false (by omega)
      have FIN : Hid (∀ v w1, w1.ownsRow w.heap.size 72 3 v (a ++ b).length (cells3 (a ++ b)) → Below w.heap.size w w1 → RSays w B r most (a ++ b) (.int .i64 (0 : Nat)) (.returned (.int .i64 0)) (w1.setCell ⟨r, 0, none⟩ v)) := Lib.hid (fun v w1 ho hb1 => by
        have hr1 := (hb1.block r (heap_lt hr)).trans hr
        have u := Upd.setCell hr1 0 v
        have hBw : B ≤ w.heap.size := by have := h.1; have := heap_lt hr; omega
        refine ⟨rfl, ⟨h.1, v, u.1, ho.1, ?_⟩, (hb1.mono hBw).setCell h.1 _, (FrR.below hb1).trans (FrR.updC u (by rw [size_setCell]; exact Nat.le_refl _) hr1)⟩
        rcases ho.2 with h0 | ⟨g1, cap1, cur1, hv, hg, hgb1, h2⟩
        · exact .inl h0
        · refine .inr ⟨g1, cap1, cur1, hv, by omega, (u.2 g1 (heap_lt hgb1) ?_).trans hgb1, h2⟩
          have := heap_lt hr
          omega)
      have fr : ∀ w1, Below w.heap.size w w1 → w1.cell? ⟨r, 0, none⟩ = some (.slice (some ⟨g, 0, none⟩) (a ++ x :: b).length cap) ∧ w1.frozen? ⟨r, 0, none⟩ = false := fun w1 hb1 => ⟨(hb1.cell (p := ⟨r, 0, none⟩) (heap_lt hr)).trans c0, free_at ((hb1.block r (heap_lt hr)).trans hr) 0⟩
      have FR := Lib.hid fr
      have WH := Lib.hid WO
      obtain ⟨n, en⟩ : ∃ n, n = (a ++ x :: b).length := ⟨_, rfl⟩
      rw [← en] at c0 i2 FR
      have ATH := Lib.hid AT
      clear AT h hr hown hp en hgb hz WO fr
      go_enter Try.func20, Try.ntmps20
      go_wp2_with (first | (go_at_call 37; ((with_reducible refine (ATH.out).mono ?_); rintro e w' ⟨rfl, rfl⟩)) | (go_at_call 38; ((with_reducible refine (WH.out).mono ?_); rintro e w1 ⟨v1, rfl, ho1, hb1⟩; have q0 := (FR.out w1 hb1).1; have q1 := (FR.out w1 hb1).2; have HO := Lib.hid ho1; clear ho1; obtain ⟨A1, cap1, rfl⟩ := own_slice HO.out)))
      go_ret
      exact FIN.out _ _ (by rw [← List.length_append]; exact HO.out) hb1
    · rw [if_neg hz]
      have hb : decide (0 < x.p) = true := decide_eq_true (by omega)
      have FIN : Hid (RSays w B r most (a ++ x :: b) (.int .i64 (43 : Nat)) (.returned (.int .i64 43)) w) := Lib.hid ⟨rfl, h, Below.refl _ _, FrR.refl _⟩
      obtain ⟨n, en⟩ : ∃ n, n = (a ++ x :: b).length := ⟨_, rfl⟩
      rw [← en] at c0 i2
      have ATH := Lib.hid AT
      clear AT h hr hown hp en hgb hz WO
      go_enter Try.func20, Try.ntmps20
      go_wp2_with (go_at_call 37; ((with_reducible refine (ATH.out).mono ?_); rintro e w' ⟨rfl, rfl⟩))
      go_ret
      exact FIN.out
theorem reads_blk {w : World} {g : Nat} {u v x : Value} {T : TypeId} (h : w.heap[g]? = some (.cells #[u, v, x] T (0, 0))) : Reads w (g + 1) 3 (some ⟨g, 0, none⟩) 1 [u, v, x] := by
  refine ⟨rfl, fun _ => ⟨_, rfl, Nat.lt_succ_self _, fun j y hj => ?_⟩⟩
  rw [add_eq, cell_at h]
  simpa using hj
/-- the last things that Get and Put do with a cache that has the key: the world behind it -/
def Tail (w : World) (B r most : Nat) (l : List (Th Int)) (w' : World) : Prop := RefAt w' B r most l ∧ Below B w w' ∧ FrR w w'
theorem below_both {w W w' : World} (h : Below w.heap.size w W) (k : Below W.heap.size W w') : Below w.heap.size w w' := h.trans (k.mono h.size)
theorem without_at {a b : List (Th Int)} {x : Th Int} (h : RefAt w B r most (a ++ x :: b)) (hl : (a ++ x :: b).length ≤ 1000000) {W1 : World} (h1 : Below w.heap.size w W1) :
    ∀ W, Below W1.heap.size W1 W → Calls Try.prog 38 #[.pointer (some ⟨r, 0, none⟩), .int .i64 a.length] W fun e w' => ∃ v, e = .returned v ∧ w'.ownsRow W1.heap.size 72 3 v (a ++ b).length (cells3 (a ++ b)) ∧ Below W1.heap.size W1 w' ∧ Below W.heap.size W w' := by
  intro W hW
  have h2 := (h.below h1).below hW
  obtain ⟨A, cap, hr, hown⟩ := h2.open_
  refine (without_any r most B A cap a x b W hl hr hown).mono ?_
  rintro e w' ⟨v, he, ho, hb⟩
  refine ⟨v, he, ⟨ho.1, ?_⟩, below_both hW hb, hb⟩
  rcases ho.2 with h0 | ⟨g, cp, cur, hv, hg, hr⟩
  · exact .inl h0
  · exact .inr ⟨g, cp, cur, hv, Nat.le_trans hW.size hg, hr⟩
theorem cells_one {x : Th Int} : cells3 [x] = [.string x.k, .int .i64 x.v, .int .i64 x.p] := rfl
theorem mem3 {u v x : Value} (h0 : u.oneCell' = true) (h1 : v.oneCell' = true) (h2 : x.oneCell' = true) : ∀ y ∈ [u, v, x], y.oneCell' = true := by
  intro y hy
  simp at hy
  rcases hy with rfl | rfl | rfl <;> assumption
/-- what the region's last store leaves -/
theorem tail_fin {W1 w2 : World} {v2 : Value} {most : Nat} {l0 l : List (Th Int)} (h : RefAt w B r most l0) (h1 : Below w.heap.size w W1) (hb : Below W1.heap.size W1 w2) (ho : w2.ownsRow W1.heap.size 72 3 v2 l.length (cells3 l)) : RefAt (w2.setCell ⟨r, 0, none⟩ v2) B r most l ∧ Below B w (w2.setCell ⟨r, 0, none⟩ v2) ∧ FrR w (w2.setCell ⟨r, 0, none⟩ v2) := by
  have hb2 := below_both h1 hb
  obtain ⟨hB, v, hr, hown⟩ := h
  have hr2 := (hb2.block r (heap_lt hr)).trans hr
  have u := Upd.setCell hr2 0 v2
  have hBw : B ≤ w.heap.size := by have := heap_lt hr; omega
  refine ⟨⟨hB, v2, u.1, ho.1, ?_⟩, (hb2.mono hBw).setCell hB _, (FrR.below hb2).trans (FrR.updC u (by rw [size_setCell]; exact Nat.le_refl _) hr2)⟩
  rcases ho.2 with h0 | ⟨g1, cap1, cur1, hv, hg, hgb1, h2⟩
  · exact .inl h0
  · have hs := h1.size
    refine .inr ⟨g1, cap1, cur1, hv, by omega, (u.2 g1 (heap_lt hgb1) ?_).trans hgb1, h2⟩
    have := heap_lt hr
    omega
/-- behind the append the row still begins in new memory -/
theorem app_below {W1 w1 w2 : World} {v1 : Value} {n : Nat} {xs : List Value} (hb : Below W1.heap.size W1 w1) (ho : w1.ownsRow W1.heap.size 72 3 v1 n xs) (hg : w1.grownBy w2 v1.ownBlock) : Below W1.heap.size W1 w2 :=
  hb.grown hg hb.size (fun j hj => by
    rcases ho.2 with ⟨rfl, _⟩ | ⟨g, cap, cur, rfl, hgB, _⟩
    · simp [Value.ownBlock] at hj
    · have : g = j := by simpa [Value.ownBlock] using hj
      omega)
theorem rget_hit {a b : List (Th Int)} {x : Th Int} (h : RefAt w B r most (a ++ x :: b)) {k : ByteArray} (hl : (a ++ x :: b).length ≤ 1000000) (hat : at_ k (a ++ x :: b) = some (a, x, b)) :
    Calls Try.prog 14 #[.pointer (some ⟨r, 0, none⟩), .string k] w (RSays w B r most (a ++ b ++ [x]) (.tuple #[.int .i64 x.v, .bool true])) := by
  obtain ⟨i0, hi, hz0, hz1, hz2⟩ := info_parts infoT
  obtain ⟨A, cap, hr, hown⟩ := h.open_
  have AT := at_any r most A cap _ k w hl hr (Ths.of_own hown)
  rw [idx_of hat] at AT
  obtain ⟨g, cur, rfl, hgB, hgl, hgb, g0, g1, g2⟩ := hit_open hown
  have c0 : w.cell? ⟨r, 0, none⟩ = some (.slice (some ⟨g, 0, none⟩) (a ++ x :: b).length cap) := (cell_at hr 0).trans rfl
  have i1 : (0 : Int) ≤ (a.length : Int) := by omega
  have i3 : ¬ (a.length : Int) < 0 := by omega
  have i2 : (a.length : Int) < ((a ++ x :: b).length : Int) := by simp; omega
  obtain ⟨n, en⟩ : ∃ n, n = (a ++ x :: b).length := ⟨_, rfl⟩
  rw [← en] at c0 i2
  have ATH := Lib.hid AT
  have HH := Lib.hid h
  have HL := Lib.hid hl
  clear AT h hr hown en hgb hat hl
  go_enter Try.func14, Try.ntmps14
  go_wp2_with (go_at_call 37; ((with_reducible refine (ATH.out).mono ?_); rintro e w' ⟨rfl, rfl⟩))
  generalize eW : w.alloc (.cells #[.string x.k, .int .i64 x.v, .int .i64 x.p] 72) = W1
  have hb1 : Below w.heap.size w W1 := by rw [← eW]; exact (Below.refl _ _).alloc (Nat.le_refl _) _
  have x1 : W1.heap[w.heap.size]? = some (.cells #[.string x.k, .int .i64 x.v, .int .i64 x.p] 72 (0, 0)) := by rw [← eW]; exact heap_alloc_new w _
  have WO := Lib.hid (without_at HH.out HL.out hb1)
  have SX : Hid (∀ W, Below W1.heap.size W1 W → W.cell? ⟨w.heap.size, 0, none⟩ = some (.string x.k) ∧ W.cell? ⟨w.heap.size, 1, none⟩ = some (.int .i64 x.v) ∧ W.cell? ⟨w.heap.size, 2, none⟩ = some (.int .i64 x.p)) := Lib.hid (fun W hW => by
    have x2 := (hW.block _ (heap_lt x1)).trans x1
    exact ⟨(cell_at x2 0).trans rfl, (cell_at x2 1).trans rfl, (cell_at x2 2).trans rfl⟩)
  have SY : Hid (∀ W v, Below W1.heap.size W1 W → (W.setCell ⟨r, 0, none⟩ v).cell? ⟨w.heap.size, 0, none⟩ = some (.string x.k) ∧ (W.setCell ⟨r, 0, none⟩ v).cell? ⟨w.heap.size, 1, none⟩ = some (.int .i64 x.v) ∧ (W.setCell ⟨r, 0, none⟩ v).cell? ⟨w.heap.size, 2, none⟩ = some (.int .i64 x.p)) := Lib.hid (fun W v hW => by
    obtain ⟨s0, s1, s2⟩ := SX.out W hW
    have hrl := RefAt.lt HH.out
    have hne : ∀ j, (⟨w.heap.size, j, none⟩ : Addr) ≠ ⟨r, 0, none⟩ := fun j e => by injection e with e; omega
    exact ⟨(World.cell?_setCell_other _ _ _ _ (hne 0).symm).trans s0, (World.cell?_setCell_other _ _ _ _ (hne 1).symm).trans s1, (World.cell?_setCell_other _ _ _ _ (hne 2).symm).trans s2⟩)
  have SR : Hid (∀ W, Below W1.heap.size W1 W → W.cell? ⟨r, 0, none⟩ = some (.slice (some ⟨g, 0, none⟩) n cap) ∧ W.frozen? ⟨r, 0, none⟩ = false) := Lib.hid (fun W hW => by
    have h2 := below_both hb1 hW
    obtain ⟨_, v, hr, _⟩ := HH.out
    exact ⟨(h2.cell (p := ⟨r, 0, none⟩) (heap_lt hr)).trans c0, free_at ((h2.block r (heap_lt hr)).trans hr) 0⟩)
  have hAB : (a ++ b).length + 1 ≤ 1000001 := by have := HL.out; simp at this ⊢; omega
  have xB : ((W1.alloc (.cells #[.string x.k, .int .i64 x.v, .int .i64 x.p] 72)).drew).heap[W1.heap.size]? = some (.cells #[.string x.k, .int .i64 x.v, .int .i64 x.p] 72 (0, 0)) := heap_alloc_new W1 _
  have dA : Below W1.heap.size W1 W1.drew := (Below.refl _ _).drew
  have dB : Below W1.heap.size W1 (W1.alloc (.cells #[.string x.k, .int .i64 x.v, .int .i64 x.p] 72)).drew := ((Below.refl _ _).alloc (Nat.le_refl _) _).drew
  obtain ⟨s0, s1, s2⟩ := SX.out _ (Below.refl _ _)
  clear x1 eW
  go_region_held3 (fun w' => w'.cell? ⟨w.heap.size, 0, none⟩ = some (.string x.k) ∧ w'.cell? ⟨w.heap.size, 1, none⟩ = some (.int .i64 x.v) ∧ w'.cell? ⟨w.heap.size, 2, none⟩ = some (.int .i64 x.p))
    (first | go_keep | exact SX.out _ (by assumption) | exact SY.out _ _ (by assumption))
    (first | ((go_at_call 38; refine (WO.out _ (by first | exact dA | exact dB)).mono ?_; rintro e w1 ⟨v1, rfl, ho1, hb2, hb3⟩)) | ((refine step_append_any _ rfl (.tmp 23) (.tmp 25) _ rfl W1.heap.size 72 i0 _ 3 32 Try.underlying68 hi hz0 hz1 hz2 rfl (by omega) v1 (a ++ b).length (cells3 (a ++ b)) (by rfl) (ho1.alloc _) _ (some ⟨w1.heap.size, 0, none⟩) 1 1 [.string x.k, .int .i64 x.v, .int .i64 x.p] (by rfl) (reads_blk (heap_alloc_new w1 _)) (mem3 rfl rfl rfl) (by simp only [maxLen]; omega) (by omega) (by have := hb2.size; simp; omega) ?_; intro v2 w2 hown2 hg2 hat2; have hb4 := app_below (hb2.alloc hb2.size _) (ho1.alloc _) hg2; obtain ⟨A2, cap2, rfl⟩ := own_slice hown2; have q0 := (SR.out w2 hb4).1; have q1 := (SR.out w2 hb4).2; have HO := Lib.hid hown2; clear hown2 hg2 hat2)) | ((refine step_append_any _ rfl (.tmp 23) (.tmp 25) _ rfl W1.heap.size 72 i0 _ 3 32 Try.underlying68 hi hz0 hz1 hz2 rfl (by omega) v1 (a ++ b).length (cells3 (a ++ b)) (by rfl) ho1 _ (some ⟨W1.heap.size, 0, none⟩) 1 1 [.string x.k, .int .i64 x.v, .int .i64 x.p] (by rfl) (reads_blk ((hb3.block _ (heap_lt xB)).trans xB)) (mem3 rfl rfl rfl) (by simp only [maxLen]; omega) (by omega) hb2.size ?_; intro v2 w2 hown2 hg2 hat2; have hb4 := app_below hb2 ho1 hg2; obtain ⟨A2, cap2, rfl⟩ := own_slice hown2; have q0 := (SR.out w2 hb4).1; have q1 := (SR.out w2 hb4).2; have HO := Lib.hid hown2; clear hown2 hg2 hat2)))
  all_goals
    have q2 := fun v => (SY.out w2 v hb4).2.1
    have HO' : w2.ownsRow W1.heap.size 72 3 (.slice A2 ((a ++ b).length + 1) cap2) (a ++ b ++ [x]).length (cells3 (a ++ b ++ [x])) := by rw [cells3_append, show (a ++ b ++ [x]).length = (a ++ b).length + 1 from List.length_append]; exact HO.out
    have FIN := Lib.hid (tail_fin HH.out hb1 hb4 HO')
    clear HO' HO
    go_wp2_with (fail)
    go_ret2
    first
      | exact ⟨rfl, FIN.out⟩
      | exact ⟨rfl, by rw [← List.length_append]; exact FIN.out⟩
      | exact ⟨rfl, by simpa using FIN.out⟩
theorem rget_any (h : RefAt w B r most l) {k : ByteArray} (hl : l.length ≤ 1000000) :
    Calls Try.prog 14 #[.pointer (some ⟨r, 0, none⟩), .string k] w (RSays w B r most (Ca.get l k).1 (I.got (Ca.get l k).2)) := by
  cases hat : at_ k l with
  | none =>
    obtain ⟨A, cap, hr, hown⟩ := h.open_
    have AT := at_any r most A cap l k w hl hr (Ths.of_own hown)
    have hpn : Ca.get l k = (l, none) := by unfold Ca.get; rw [hat]
    rw [idx_no hat] at AT
    rw [hpn]
    have FIN : Hid (RSays w B r most l (.tuple #[.int .i64 0, .bool false]) (.returned (.tuple #[.int .i64 0, .bool false])) w) := Lib.hid ⟨rfl, h, Below.refl _ _, FrR.refl _⟩
    have ATH := Lib.hid AT
    clear AT h hr hown hat hpn
    go_enter Try.func14, Try.ntmps14
    go_wp2_with (go_at_call 37; ((with_reducible refine (ATH.out).mono ?_); rintro e w' ⟨rfl, rfl⟩))
    go_ret2
    exact FIN.out
  | some z =>
    obtain ⟨a, x, b⟩ := z
    obtain ⟨hl1, _, _⟩ := part_some hat
    subst hl1
    have hpn : Ca.get (a ++ x :: b) k = (a ++ b ++ [x], some x.v) := by unfold Ca.get; rw [hat]
    rw [hpn]
    exact rget_hit h hl hat
end
end Go.Proofs.Ytcifjhhofefpjaa.Cr
