/- Joined by mkmerged.py: OpEx, OpAwake, OpenArgs, OpOpen, Few8. -/
import Derived.Test.YtnheahologecfaaGreatDoorMb31
import Derived.Test.YtnheahologecfaaGreatDoorMb33
import Derived.Test.YtnheahologecfaaGreatDoorMb24
import Derived.Test.YtnheahologecfaaGreatDoorMb25
import Derived.Deep.Slices
import Derived.Deep.Fields
import Derived.ReadAgain
import Derived.ChangeBears
import Derived.SliceStrings
import Derived.ChangeMaps5
import Derived.Test.YtnheahologecfaaGreatDoorMb26
import Derived.Test.YtnheahologecfaaGreatDoorMb28
/- OpEx, what a claim needs of it (prune.py). -/
namespace Go.Proofs.YtnheahologecfaaGreatDoor.Ops
set_option linter.unusedVariables false
set_option maxRecDepth 100000
def tT : Tg := ⟨⟨#[116]⟩, ⟨#[]⟩, [], []⟩
def tU : Tg := ⟨⟨#[117]⟩, ⟨#[]⟩, [], []⟩
def exO (g : ByteArray) (st : Int) : Op := ⟨⟨#[97]⟩, [tT, tU], [], g, st, zeroR⟩
def gT : ByteArray := ⟨#[116]⟩
def gU : ByteArray := ⟨#[117]⟩
theorem ex_ok {g : ByteArray} (h : g.size ≤ 100) (st : Int) : OkO (exO g st) := by
  have ht : ∀ t ∈ [tT, tU], t.Ok := fun t ht => by
    rcases List.mem_cons.1 ht with rfl | ht
    · exact ⟨by decide, by decide, by decide, by decide, (fun x hx => by cases hx), fun x hx => by cases hx⟩
    · rw [List.mem_singleton.1 ht]; exact ⟨by decide, by decide, by decide, by decide, (fun x hx => by cases hx), fun x hx => by cases hx⟩
  exact ⟨(by show (⟨#[97]⟩ : ByteArray).size ≤ 100; decide), h, by show 2 ≤ 20; omega, ht, by show 0 ≤ 60; omega, (fun f hf => by cases hf), by show 0 ≤ 60; omega, fun f hf => by cases hf⟩
theorem check_nil : Fs.checkE [] = 0 := Fs.check_good (fun j hj _ => by simp at hj) (by simp) (fun h => by
  rcases h with ⟨i, h, _⟩ | ⟨i, h, _⟩
  · simp at h
  · simp at h)
theorem ex_name : Gr.nameF ⟨#[97]⟩ = 0 := by kernel_rfl
theorem ex_check : Gr.checkF [tT, tU] = 0 := by kernel_rfl
theorem ex_isT : Gr.isT [tT, tU] gT = true := by kernel_rfl
theorem ex_isU : Gr.isT [tT, tU] gU = true := by kernel_rfl
theorem ex_wrongT (st : Int) : wrong wrongV (exO gT st) = 0 := wrong_4 ex_name ex_check check_nil ex_isT
theorem ex_wrongU (st : Int) : wrong wrongV (exO gU st) = 0 := wrong_4 ex_name ex_check check_nil ex_isU
theorem ex_other : decide (orderB [tT, tU] [] gT = orderB [tT, tU] [] gU) = false := by kernel_rfl
theorem ex_ord (a b : Int) : ¬ ord orderB (exO gT a) = ord orderB (exO gU b) := fun h => by
  exact of_decide_eq_false ex_other h
def evO (k : Int) (g : ByteArray) : Ev := ⟨k, exO g 0⟩
theorem ex1 : apply wrongV orderB [] (evO 1 gT) = ([exO gT 1], 0) := by
  show submit wrongV orderB [] (exO gT 0) = _
  unfold submit
  rw [if_neg (by rw [ex_wrongT]; simp)]
  rfl
theorem ex2 : apply wrongV orderB [exO gT 1] (evO 2 gT) = ([exO gT 2], 0) := by rfl
theorem ex3 : apply wrongV orderB [exO gT 2] (evO 3 gT) = ([exO gT 3], 0) := by rfl
theorem ex4 : apply wrongV orderB [exO gT 3] (evO 2 gT) = ([], 43) := by rfl
theorem ex5 : apply wrongV orderB [exO gT 3] (evO 4 gT) = ([], 43) := by rfl
theorem ex6 : apply wrongV orderB [exO gT 3] (evO 1 gT) = ([exO gT 3], 0) := by
  show submit wrongV orderB [exO gT 3] (exO gT 0) = _
  unfold submit
  rw [if_neg (by rw [ex_wrongT]; simp)]
  show (if ord orderB (exO gT 3) = ord orderB (exO gT 0) then _ else _) = _
  exact if_pos rfl
theorem ex7 : apply wrongV orderB [exO gT 3] (evO 1 gU) = ([], 42) := by
  show submit wrongV orderB [exO gT 3] (exO gU 0) = _
  unfold submit
  rw [if_neg (by rw [ex_wrongU]; simp)]
  show (if ord orderB (exO gT 3) = ord orderB (exO gU 0) then _ else _) = _
  exact if_neg (ex_ord _ _)
theorem ex8 : find [exO gT 3] ⟨#[97]⟩ = some (exO gT 3) := by rfl
end Go.Proofs.YtnheahologecfaaGreatDoor.Ops
/- OpAwake, what a claim needs of it (prune.py). -/
namespace Go.Proofs.YtnheahologecfaaGreatDoor.Ops
open Go.RowKit
set_option linter.unusedVariables false
set_option maxRecDepth 100000
def ExSays (m : List Op) (n : Nat) (f : Int) (w : World) (e : Ending) (w' : World) : Prop :=
  (∃ A' c', e = .returned (.tuple #[.slice A' n c', .int .i64 f]) ∧ n ≤ c' ∧ Ops w' A' m) ∧ Below w.heap.size w w'
theorem ex_call {l m : List Op} {n q : Nat} {f k : Int} {g : ByteArray} {A T : Option Addr} {c : Nat} {W : World} (hE : Lg.Env W) (h : apply wrongV orderB l (evO k g) = (m, f)) (hl : ∀ y ∈ l, OkO y) (hg : g.size ≤ 100) (hr : Ops W A l) (hn : l.length = n) (hq : m.length = q) (hll : n ≤ 1000) (hlc : n ≤ c) (hT : Tgs W W.heap.size T [tT, tU]) :
    Calls Tryz.prog 17 #[.slice A n c, evOf k (exO g 0) T 2 none 0 none 0] W (ExSays m q f W) := by
  subst hn hq
  have := apply_any A l c k (exO g 0) T 2 none 0 none 0 W hE hl (ex_ok hg 0) hr hll hlc ⟨hT, Reads.none_, Reads.none_, Nat.le_refl _, Nat.le_refl _, Nat.le_refl _⟩
  rw [show apply wrongV orderB l ⟨k, exO g 0⟩ = (m, f) from h] at this
  exact this
theorem one_ok (st : Int) : ∀ y ∈ [exO gT st], OkO y := fun y hy => by rw [List.mem_singleton.1 hy]; exact ex_ok (by decide) st
theorem ex_tgs {w : World} {b : Nat} {T : TypeId} (h : w.heap[b]? = some (.cells #[.string ⟨#[116]⟩, .string ⟨#[]⟩, .slice none 0 0, .slice none 0 0, .string ⟨#[117]⟩, .string ⟨#[]⟩, .slice none 0 0, .slice none 0 0] T (0, 0))) : Tgs w w.heap.size (some ⟨b, 0, none⟩) [tT, tU] := fun _ => by
  refine ⟨_, rfl, Lg.lt_heap h, fun k hk => ?_⟩
  have hk2 : k < 2 := hk
  rcases (by omega : k = 0 ∨ k = 1) with rfl | rfl
  · exact ⟨none, 0, none, 0, Lg.cell_at h 0, Lg.cell_at h 1, Lg.cell_at h 2, Lg.cell_at h 3, Reads.none_, Reads.none_⟩
  · exact ⟨none, 0, none, 0, Lg.cell_at h 4, Lg.cell_at h 5, Lg.cell_at h 6, Lg.cell_at h 7, Reads.none_, Reads.none_⟩
set_option maxHeartbeats 8000000 in
theorem awake_any (w : World) (hE : Lg.Env w) : Calls Tryz.prog 16 #[] w fun e w' => e = .returned (.bool true) ∧ Below w.heap.size w w' := by
  obtain ⟨W3, eW⟩ : ∃ W3, W3 = ((w.alloc (.cells #[.string ⟨#[116]⟩, .string ⟨#[]⟩, .slice none 0 0, .slice none 0 0, .string ⟨#[117]⟩, .string ⟨#[]⟩, .slice none 0 0, .slice none 0 0] 73)).alloc (.cells #[.string ⟨#[97]⟩, .slice (some ⟨w.heap.size, 0, none⟩) 2 2, .slice none 0 0, .string ⟨#[116]⟩, .int .i64 0, .int .i64 0, .string ⟨#[]⟩, .string ⟨#[]⟩, .slice none 0 0] 29)).alloc (.cells #[.string ⟨#[97]⟩, .slice (some ⟨w.heap.size, 0, none⟩) 2 2, .slice none 0 0, .string ⟨#[117]⟩, .int .i64 0, .int .i64 0, .string ⟨#[]⟩, .string ⟨#[]⟩, .slice none 0 0] 29) := ⟨_, rfl⟩
  have hb3 : Below w.heap.size w W3 := by rw [eW]; exact (((Below.refl _ _).alloc (Nat.le_refl _) _).alloc (by simp) _).alloc (by simp; omega) _
  have k0 : W3.heap[w.heap.size]? = some (.cells #[.string ⟨#[116]⟩, .string ⟨#[]⟩, .slice none 0 0, .slice none 0 0, .string ⟨#[117]⟩, .string ⟨#[]⟩, .slice none 0 0, .slice none 0 0] 73 (0, 0)) := by rw [eW]; exact (Below.heap_alloc _ _ _ (by have := Nat.lt_succ_self w.heap.size; first | (simp; done) | (simp; omega))).trans Lg.heap_two
  have k1 : W3.heap[w.heap.size + 1]? = some (.cells #[.string ⟨#[97]⟩, .slice (some ⟨w.heap.size, 0, none⟩) 2 2, .slice none 0 0, .string ⟨#[116]⟩, .int .i64 0, .int .i64 0, .string ⟨#[]⟩, .string ⟨#[]⟩, .slice none 0 0] 29 (0, 0)) := by rw [eW]; exact (Below.heap_alloc _ _ _ (by simp)).trans (heap_alloc2_new w _ _)
  have k2 : W3.heap[w.heap.size + 1 + 1]? = some (.cells #[.string ⟨#[97]⟩, .slice (some ⟨w.heap.size, 0, none⟩) 2 2, .slice none 0 0, .string ⟨#[117]⟩, .int .i64 0, .int .i64 0, .string ⟨#[]⟩, .string ⟨#[]⟩, .slice none 0 0] 29 (0, 0)) := by rw [eW]; exact heap3
  have EV : Hid (∀ W, Below W3.heap.size W3 W → Lg.Env W) := Lib.hid fun W hW => hE.below (hb3.trans (hW.mono hb3.size))
  have KX : Hid (∀ W, Below W3.heap.size W3 W → W.heap[w.heap.size + 1]? = some (.cells #[.string ⟨#[97]⟩, .slice (some ⟨w.heap.size, 0, none⟩) 2 2, .slice none 0 0, .string ⟨#[116]⟩, .int .i64 0, .int .i64 0, .string ⟨#[]⟩, .string ⟨#[]⟩, .slice none 0 0] 29 (0, 0))) := Lib.hid fun W hW => (hW.block _ (Lg.lt_heap k1)).trans k1
  have KY : Hid (∀ W, Below W3.heap.size W3 W → W.heap[w.heap.size + 1 + 1]? = some (.cells #[.string ⟨#[97]⟩, .slice (some ⟨w.heap.size, 0, none⟩) 2 2, .slice none 0 0, .string ⟨#[117]⟩, .int .i64 0, .int .i64 0, .string ⟨#[]⟩, .string ⟨#[]⟩, .slice none 0 0] 29 (0, 0))) := Lib.hid fun W hW => (hW.block _ (Lg.lt_heap k2)).trans k2
  have TG : Hid (∀ W, Below W3.heap.size W3 W → Tgs W W.heap.size (some ⟨w.heap.size, 0, none⟩) [tT, tU]) := Lib.hid fun W hW => ex_tgs ((hW.block _ (Lg.lt_heap k0)).trans k0)
  have A1 : Hid (∀ (W : World) (hW : Below W3.heap.size W3 W), Calls Tryz.prog 17 #[.slice none 0 0, .agg #[.int .i64 1, .string ⟨#[97]⟩, .slice (some ⟨w.heap.size, 0, none⟩) 2 2, .slice none 0 0, .string ⟨#[116]⟩, .int .i64 0, .int .i64 0, .string ⟨#[]⟩, .string ⟨#[]⟩, .slice none 0 0]] W (ExSays [exO gT 1] 1 0 W)) := Lib.hid fun W hW => ex_call (EV.out _ hW) ex1 (fun y hy => by cases hy) (by decide) Ops.none_ rfl rfl (by omega) (Nat.le_refl _) (TG.out _ hW)
  have A2 : Hid (∀ (W : World) (hW : Below W3.heap.size W3 W) A (c : Nat) (hc : 1 ≤ c) (hr : Ops W A [exO gT 1]), Calls Tryz.prog 17 #[.slice A 1 c, .agg #[.int .i64 2, .string ⟨#[97]⟩, .slice (some ⟨w.heap.size, 0, none⟩) 2 2, .slice none 0 0, .string ⟨#[116]⟩, .int .i64 0, .int .i64 0, .string ⟨#[]⟩, .string ⟨#[]⟩, .slice none 0 0]] W (ExSays [exO gT 2] 1 0 W)) := Lib.hid fun W hW A c hc hr => ex_call (EV.out _ hW) ex2 (one_ok 1) (by decide) hr rfl rfl (by omega) (hc) (TG.out _ hW)
  have A3 : Hid (∀ (W : World) (hW : Below W3.heap.size W3 W) A (c : Nat) (hc : 1 ≤ c) (hr : Ops W A [exO gT 2]), Calls Tryz.prog 17 #[.slice A 1 c, .agg #[.int .i64 3, .string ⟨#[97]⟩, .slice (some ⟨w.heap.size, 0, none⟩) 2 2, .slice none 0 0, .string ⟨#[116]⟩, .int .i64 0, .int .i64 0, .string ⟨#[]⟩, .string ⟨#[]⟩, .slice none 0 0]] W (ExSays [exO gT 3] 1 0 W)) := Lib.hid fun W hW A c hc hr => ex_call (EV.out _ hW) ex3 (one_ok 2) (by decide) hr rfl rfl (by omega) (hc) (TG.out _ hW)
  have A4 : Hid (∀ (W : World) (hW : Below W3.heap.size W3 W) A (c : Nat) (hc : 1 ≤ c) (hr : Ops W A [exO gT 3]), Calls Tryz.prog 17 #[.slice A 1 c, .agg #[.int .i64 2, .string ⟨#[97]⟩, .slice (some ⟨w.heap.size, 0, none⟩) 2 2, .slice none 0 0, .string ⟨#[116]⟩, .int .i64 0, .int .i64 0, .string ⟨#[]⟩, .string ⟨#[]⟩, .slice none 0 0]] W (ExSays [] 0 43 W)) := Lib.hid fun W hW A c hc hr => ex_call (EV.out _ hW) ex4 (one_ok 3) (by decide) hr rfl rfl (by omega) (hc) (TG.out _ hW)
  have A5 : Hid (∀ (W : World) (hW : Below W3.heap.size W3 W) A (c : Nat) (hc : 1 ≤ c) (hr : Ops W A [exO gT 3]), Calls Tryz.prog 17 #[.slice A 1 c, .agg #[.int .i64 4, .string ⟨#[97]⟩, .slice (some ⟨w.heap.size, 0, none⟩) 2 2, .slice none 0 0, .string ⟨#[116]⟩, .int .i64 0, .int .i64 0, .string ⟨#[]⟩, .string ⟨#[]⟩, .slice none 0 0]] W (ExSays [] 0 43 W)) := Lib.hid fun W hW A c hc hr => ex_call (EV.out _ hW) ex5 (one_ok 3) (by decide) hr rfl rfl (by omega) (hc) (TG.out _ hW)
  have A6 : Hid (∀ (W : World) (hW : Below W3.heap.size W3 W) A (c : Nat) (hc : 1 ≤ c) (hr : Ops W A [exO gT 3]), Calls Tryz.prog 17 #[.slice A 1 c, .agg #[.int .i64 1, .string ⟨#[97]⟩, .slice (some ⟨w.heap.size, 0, none⟩) 2 2, .slice none 0 0, .string ⟨#[116]⟩, .int .i64 0, .int .i64 0, .string ⟨#[]⟩, .string ⟨#[]⟩, .slice none 0 0]] W (ExSays [exO gT 3] 1 0 W)) := Lib.hid fun W hW A c hc hr => ex_call (EV.out _ hW) ex6 (one_ok 3) (by decide) hr rfl rfl (by omega) (hc) (TG.out _ hW)
  have A7 : Hid (∀ (W : World) (hW : Below W3.heap.size W3 W) A (c : Nat) (hc : 1 ≤ c) (hr : Ops W A [exO gT 3]), Calls Tryz.prog 17 #[.slice A 1 c, .agg #[.int .i64 1, .string ⟨#[97]⟩, .slice (some ⟨w.heap.size, 0, none⟩) 2 2, .slice none 0 0, .string ⟨#[117]⟩, .int .i64 0, .int .i64 0, .string ⟨#[]⟩, .string ⟨#[]⟩, .slice none 0 0]] W (ExSays [] 0 42 W)) := Lib.hid fun W hW A c hc hr => ex_call (EV.out _ hW) ex7 (one_ok 3) (by decide) hr rfl rfl (by omega) (hc) (TG.out _ hW)
  have FD : Hid (∀ (W : World) A (c : Nat) (hr : Ops W A [exO gT 3]), Calls Tryz.prog 41 #[.slice A 1 c, .string ⟨#[97]⟩] W fun e w' => (∃ (Og : Option Addr) (og : Nat) (Of : Option Addr) (of : Nat) (Or : Option Addr) (or_ : Nat), e = .returned (.tuple #[.agg #[.string ⟨#[97]⟩, .slice Og 2 og, .slice Of 0 of, .string ⟨#[116]⟩, .int .i64 3, .int .i64 0, .string ⟨#[]⟩, .string ⟨#[]⟩, .slice Or 0 or_], .bool true]) ∧ Parts W (exO gT 3) Og og Of of Or or_) ∧ Below W.heap.size W w') := Lib.hid fun W A c hr => find_in A [exO gT 3] c ⟨#[97]⟩ W hr (by simp) (by rw [ex8]) (by rw [ex8])
  have HB3 := Lib.hid hb3
  clear hE k0 k1 k2 hb3
  go_enter Tryz.func16, Tryz.ntmps16
  unfold ExSays at A1 A2 A3 A4 A5 A6 A7
  go_wp2_with (first
    | (go_at_call 17; rw [← eW]; (with_reducible refine (A1.out _ (Below.refl _ _)).mono ?_); rintro e w1 ⟨⟨P1, c1, rfl, hc1, ho1⟩, b1⟩; obtain ⟨x0, x1, x2, x3, x4, x5, x6, x7, x8, _⟩ := nine (KX.out _ b1); obtain ⟨y0, y1, y2, y3, y4, y5, y6, y7, y8, _⟩ := nine (KY.out _ b1))
    | (go_at_call 17; (with_reducible refine (A2.out _ b1 _ _ hc1 ho1).mono ?_); rintro e w2 ⟨⟨P2, c2, rfl, hc2, ho2⟩, b2'⟩; have b2 := b1.trans (b2'.mono b1.size); obtain ⟨x0, x1, x2, x3, x4, x5, x6, x7, x8, _⟩ := nine (KX.out _ b2); obtain ⟨y0, y1, y2, y3, y4, y5, y6, y7, y8, _⟩ := nine (KY.out _ b2))
    | (go_at_call 17; (with_reducible refine (A3.out _ b2 _ _ hc2 ho2).mono ?_); rintro e w3 ⟨⟨P3, c3, rfl, hc3, ho3⟩, b3'⟩; have b3 := b2.trans (b3'.mono b2.size); obtain ⟨x0, x1, x2, x3, x4, x5, x6, x7, x8, _⟩ := nine (KX.out _ b3); obtain ⟨y0, y1, y2, y3, y4, y5, y6, y7, y8, _⟩ := nine (KY.out _ b3))
    | (go_at_call 17; (with_reducible refine (A4.out _ b3 _ _ hc3 ho3).mono ?_); rintro e w4 ⟨⟨P4, c4, rfl, _, _⟩, b4'⟩; have b4 := b3.trans (b4'.mono b3.size); have h4 := ho3.below b4'; obtain ⟨x0, x1, x2, x3, x4, x5, x6, x7, x8, _⟩ := nine (KX.out _ b4); obtain ⟨y0, y1, y2, y3, y4, y5, y6, y7, y8, _⟩ := nine (KY.out _ b4))
    | (go_at_call 17; (with_reducible refine (A5.out _ b4 _ _ hc3 h4).mono ?_); rintro e w5 ⟨⟨P5, c5, rfl, _, _⟩, b5'⟩; have b5 := b4.trans (b5'.mono b4.size); have h5 := h4.below b5'; obtain ⟨x0, x1, x2, x3, x4, x5, x6, x7, x8, _⟩ := nine (KX.out _ b5); obtain ⟨y0, y1, y2, y3, y4, y5, y6, y7, y8, _⟩ := nine (KY.out _ b5))
    | (go_at_call 17; (with_reducible refine (A6.out _ b5 _ _ hc3 h5).mono ?_); rintro e w6 ⟨⟨P6, c6, rfl, _, _⟩, b6'⟩; have b6 := b5.trans (b6'.mono b5.size); have h6 := h5.below b6'; obtain ⟨x0, x1, x2, x3, x4, x5, x6, x7, x8, _⟩ := nine (KX.out _ b6); obtain ⟨y0, y1, y2, y3, y4, y5, y6, y7, y8, _⟩ := nine (KY.out _ b6))
    | (go_at_call 17; (with_reducible refine (A7.out _ b6 _ _ hc3 h6).mono ?_); rintro e w7 ⟨⟨P7, c7, rfl, _, _⟩, b7'⟩; have b7 := b6.trans (b7'.mono b6.size); have h7 := h6.below b7'; obtain ⟨x0, x1, x2, x3, x4, x5, x6, x7, x8, _⟩ := nine (KX.out _ b7); obtain ⟨y0, y1, y2, y3, y4, y5, y6, y7, y8, _⟩ := nine (KY.out _ b7))
    | (go_at_call 41; (with_reducible refine (FD.out _ _ _ h7).mono ?_); rintro e w8 ⟨⟨Og, og, Of, of, Or, or_, rfl, _⟩, b8'⟩; have b8 := b7.trans (b8'.mono b7.size)))
  go_ret
  exact ⟨rfl, HB3.out.trans ((b8.alloc b8.size _).mono HB3.out.size)⟩
end Go.Proofs.YtnheahologecfaaGreatDoor.Ops
/- OpenArgs, what a claim needs of it (prune.py). -/
namespace Go.Proofs.YtnheahologecfaaGreatDoor
open Go.ChangeShapes Go.WideShapes Go.Deep Go.RowKit Go.ChangeMaps
set_option linter.unusedVariables false
set_option maxRecDepth 100000
section
variable {H : Type} {enc : TypeId × Value → H} {W : World}
theorem open_strs {n : Nat} {v : Value} {y : DataW H × List MemPlace} (h : DataW.trod enc Tryz.prog W 0 (fun _ => true) true n 38 [v] = some y) :
    ∃ A ss c, v = .slice A (List.length ss) c ∧ Strs W W.heap.size A ss ∧ ss.length ≤ maxLen ∧ (∀ s ∈ ss, s.size ≤ maxLen) ∧ ss.length ≤ c := by
  rcases open_strings Tryz.underlying38 Tryz.underlying9 (by kernel_rfl) h with ⟨h0, _⟩ | ⟨a, len, cap, ss, hcs, hb, hl, hm, hlen, hx, hc, hs⟩
  · refine ⟨none, [], 0, by injection h0, Reads.none_, by simp, (fun s hs => by cases hs), by simp⟩
  · have hlen' : ss.length = cap := by simpa using hlen
    have hvv : v = .slice (some a) len cap := by injection hcs
    refine ⟨some a, ss.take len, cap, ?_, ⟨by simp, fun h0 => ⟨a, rfl, ?_, fun j u hu => ?_⟩⟩, by simp; omega, fun s h => hs s (List.mem_of_mem_take h), by simp; omega⟩
    · rw [List.length_take, Nat.min_eq_left (by omega)]; exact hvv
    · have hh := lt_of_cell (hc 0 (by simp at h0; omega))
      rw [block_of_add] at hh
      exact hh
    · simp only [List.getElem?_map, Option.map_eq_some_iff] at hu
      obtain ⟨x, hx1, rfl⟩ := hu
      rw [List.getElem?_take] at hx1
      split at hx1
      · obtain ⟨hj, he⟩ := List.getElem?_eq_some_iff.1 hx1
        rw [hc j hj, List.getD_eq_getElem?_getD, hx1]
        rfl
      · cases hx1
end
end Go.Proofs.YtnheahologecfaaGreatDoor
/- OpOpen, what a claim needs of it (prune.py). -/
namespace Go.Proofs.YtnheahologecfaaGreatDoor.Ops
open Go.ChangeShapes Go.WideShapes Go.Deep Go.RowKit Go.ChangeMaps
set_option linter.unusedVariables false
set_option maxRecDepth 100000
section
variable {H : Type} {enc : TypeId × Value → H} {W : World}
def Caps (w : World) (A : Option Addr) (n : Nat) : Prop := ∀ ad, A = some ad → ∀ k, k < n →
  (∀ A' n c, w.cell? ((ad.add (k * 4)).add 2) = some (.slice A' n c) → n ≤ c) ∧ (∀ A' n c, w.cell? ((ad.add (k * 4)).add 3) = some (.slice A' n c) → n ≤ c)
theorem targets_of {v : Value} {fuel : Nat} {x : DataW H × List MemPlace} (hf : DataW.trod enc Tryz.prog W 0 (fun _ => true) true fuel 23 [v] = some x) :
    ∃ A l c, v = .slice A (List.length l) c ∧ Tgs W W.heap.size A l ∧ l.length ≤ 9223372036854775807 ∧ (∀ t ∈ l, Tg.Fit t) ∧ l.length ≤ c ∧ Caps W A l.length := by
  rcases open_slice_fields Tryz.underlying23 Tryz.underlying73 (by kernel_rfl) (by kernel_rfl) hf with ⟨h0, _⟩ | ⟨a, len, cap, m, D, Pl, hcs, hb, hl, hm, hmm, hx, hi⟩
  · exact ⟨none, [], 0, by injection h0, fun h => absurd h (by simp), by decide, (fun f hf => by cases hf), Nat.zero_le _, fun ad e k hk => absurd hk (by simp)⟩
  · have hvv : v = .slice (some a) len cap := by injection hcs
    have hmc : m = cap := by simpa using hmm
    subst hmc
    have key : ∀ i, i < len → ∃ t : Tg, TgAt W W.heap.size (a.add (i * 4)) t ∧ t.Fit ∧ (∀ A' n c, W.cell? ((a.add (i * 4)).add 2) = some (.slice A' n c) → n ≤ c) ∧ (∀ A' n c, W.cell? ((a.add (i * 4)).add 3) = some (.slice A' n c) → n ≤ c) := fun i hil => by
      obtain ⟨ys, n, _, _, _, hj⟩ := hi i (by omega)
      obtain ⟨v0, y0, c0, _, t0⟩ := hj 0 _ rfl
      obtain ⟨v1, y1, c1, _, t1⟩ := hj 1 _ rfl
      obtain ⟨v2, y2, c2, _, t2⟩ := hj 2 _ rfl
      obtain ⟨v3, y3, c3, _, t3⟩ := hj 3 _ rfl
      obtain ⟨s0, e0, _, z0⟩ := DataW.trod_string Tryz.underlying9 t0
      obtain ⟨s1, e1, _, z1⟩ := DataW.trod_string Tryz.underlying9 t1
      obtain ⟨A2, l2, k2, rfl, r2, q2, _, b2⟩ := open_strs t2
      obtain ⟨A3, l3, k3, rfl, r3, q3, _, b3⟩ := open_strs t3
      have g2 : W.cell? ((a.add (i * 4)).add 2) = some (.slice A2 l2.length k2) := by rw [Go.Deep.add_add]; exact c2
      have g3 : W.cell? ((a.add (i * 4)).add 3) = some (.slice A3 l3.length k3) := by rw [Go.Deep.add_add]; exact c3
      refine ⟨⟨s0, s1, l2, l3⟩, ⟨A2, k2, A3, k3, ?_, ?_, ?_, ?_, r2, r3⟩, ⟨z0, z1, q2, q3⟩, fun A' n c h => ?_, fun A' n c h => ?_⟩
      · have : v0 = .string s0 := by injection e0
        rw [← this]; exact c0
      · have : v1 = .string s1 := by injection e1
        rw [Go.Deep.add_add, ← this]; exact c1
      · rw [Go.Deep.add_add]; exact c2
      · rw [Go.Deep.add_add]; exact c3
      · rw [g2] at h; injection h with h; injection h with h1 h2 h3; omega
      · rw [g3] at h; injection h with h; injection h with h1 h2 h3; omega
    obtain ⟨l, hll, hq⟩ := list_of (Q := fun i f => TgAt W W.heap.size (a.add (i * 4)) f ∧ Tg.Fit f ∧ (∀ A' n c, W.cell? ((a.add (i * 4)).add 2) = some (.slice A' n c) → n ≤ c) ∧ (∀ A' n c, W.cell? ((a.add (i * 4)).add 3) = some (.slice A' n c) → n ≤ c)) len key
    refine ⟨some a, l, m, by rw [hll]; exact hvv, fun h0 => ⟨a, rfl, ?_, fun k hk => (hq k hk).1⟩, by rw [hll]; unfold maxLen at hm; omega, fun f hf => ?_, by omega, fun ad e k hk => ?_⟩
    · obtain ⟨_, _, _, _, g0, _⟩ := (hq 0 h0).1
      have := lt_of_cell g0
      rw [block_of_add] at this
      exact this
    · obtain ⟨j, hj, rfl⟩ := List.mem_iff_getElem.1 hf
      exact (hq j hj).2.1
    · injection e with e
      rw [← e]
      exact (hq k hk).2.2
structure FitO (x : Op) : Prop where
  n : x.n.size ≤ maxLen
  go : x.go.size ≤ maxLen
  gl : x.gr.length ≤ maxLen
  g : ∀ t ∈ x.gr, Tg.Fit t
  fl : x.sn.length ≤ maxLen
  f : ∀ f ∈ x.sn, Fs.FitF f
  rl : x.r.fs.length ≤ maxLen
  r : ∀ f ∈ x.r.fs, Fs.FitF f
  at_ : x.r.at_.size ≤ maxLen
  tx : x.r.tx.size ≤ maxLen
  st : -9223372036854775808 ≤ x.st ∧ x.st ≤ 9223372036854775807
  e : -9223372036854775808 ≤ x.r.e ∧ x.r.e ≤ 9223372036854775807
theorem int_of {t : TypeId} (ht : Tryz.prog.underlying t = some (.int .i64)) {v : Value} {fuel : Nat} {x : DataW H × List MemPlace} (h : DataW.trod enc Tryz.prog W 0 (fun _ => true) true fuel t [v] = some x) :
    ∃ k, v = .int .i64 k ∧ -9223372036854775808 ≤ k ∧ k ≤ 9223372036854775807 := by
  obtain ⟨k, e3, _, hw⟩ := DataW.trod_int ht h
  have hw' : (decide (IntKind.i64.min ≤ k) && decide (k ≤ IntKind.i64.max)) = true := hw
  simp only [Bool.and_eq_true, decide_eq_true_eq] at hw'
  exact ⟨k, by injection e3, hw'⟩
theorem string_of {v : Value} {fuel : Nat} {x : DataW H × List MemPlace} (h : DataW.trod enc Tryz.prog W 0 (fun _ => true) true fuel 9 [v] = some x) : ∃ s, v = .string s ∧ s.size ≤ maxLen := by
  obtain ⟨s0, e0, _, z0⟩ := DataW.trod_string Tryz.underlying9 h
  exact ⟨s0, by injection e0, z0⟩
def opTypes (fs rs : Array Field) (tR : TypeId) : Bool := (fs.toList.map (·.type) == [9, 23, 24, 9, 3, tR]) && (rs.toList.map (·.type) == [25, 9, 9, 24])
theorem type_at {fs : Array Field} {l : List TypeId} (h : fs.toList.map (·.type) = l) {j : Nat} {t : TypeId} (hj : l[j]? = some t) : ∃ f, fs[j]? = some f ∧ f.type = t := by
  subst h
  rw [List.getElem?_map, Option.map_eq_some_iff] at hj
  obtain ⟨f, h1, h2⟩ := hj
  exact ⟨f, by rw [← Array.getElem?_toList]; exact h1, h2⟩
theorem op_of {V : Nat → Value} {fs rs : Array Field} {tR : TypeId} (ht : opTypes fs rs tR = true) (h1 : ∀ (j : Nat) (f : Field), j < 5 → fs[j]? = some f → ∃ n y, DataW.trod enc Tryz.prog W 0 (fun _ => true) true n f.type [V j] = some y)
    (h2 : ∀ (j : Nat) (f : Field), rs[j]? = some f → ∃ n y, DataW.trod enc Tryz.prog W 0 (fun _ => true) true n f.type [V (5 + j)] = some y) :
    ∃ x Ag cg Af cf Ar cr, Parts W x Ag cg Af cf Ar cr ∧ FitO x ∧ cellsOf x Ag cg Af cf Ar cr = (List.range 9).map V ∧ Caps W Ag x.gr.length := by
  unfold opTypes at ht
  simp only [Bool.and_eq_true, beq_iff_eq] at ht
  obtain ⟨t1, t2⟩ := ht
  obtain ⟨f0, a0, b0⟩ := type_at t1 (j := 0) rfl
  obtain ⟨f1, a1, b1⟩ := type_at t1 (j := 1) rfl
  obtain ⟨f2, a2, b2⟩ := type_at t1 (j := 2) rfl
  obtain ⟨f3, a3, b3⟩ := type_at t1 (j := 3) rfl
  obtain ⟨f4, a4, b4⟩ := type_at t1 (j := 4) rfl
  obtain ⟨r0, c0, d0⟩ := type_at t2 (j := 0) rfl
  obtain ⟨r1, c1, d1⟩ := type_at t2 (j := 1) rfl
  obtain ⟨r2, c2, d2⟩ := type_at t2 (j := 2) rfl
  obtain ⟨r3, c3, d3⟩ := type_at t2 (j := 3) rfl
  obtain ⟨_, _, g0⟩ := h1 0 f0 (by omega) a0
  obtain ⟨_, _, g1⟩ := h1 1 f1 (by omega) a1
  obtain ⟨_, _, g2⟩ := h1 2 f2 (by omega) a2
  obtain ⟨_, _, g3⟩ := h1 3 f3 (by omega) a3
  obtain ⟨_, _, g4⟩ := h1 4 f4 (by omega) a4
  obtain ⟨_, _, g5⟩ := h2 0 r0 c0
  obtain ⟨_, _, g6⟩ := h2 1 r1 c1
  obtain ⟨_, _, g7⟩ := h2 2 r2 c2
  obtain ⟨_, _, g8⟩ := h2 3 r3 c3
  rw [b0] at g0; rw [b1] at g1; rw [b2] at g2; rw [b3] at g3; rw [b4] at g4
  rw [d0] at g5; rw [d1] at g6; rw [d2] at g7; rw [d3] at g8
  obtain ⟨s0, e0, z0⟩ := string_of g0
  obtain ⟨Ag, lg, cg, e1, k1, m1, z1, q1, u1⟩ := targets_of g1
  obtain ⟨Af, lf, cf, e2, k2, m2, z2, q2⟩ := Fs.files_of g2
  obtain ⟨s3, e3, z3⟩ := string_of g3
  obtain ⟨n4, e4, z4⟩ := int_of Tryz.underlying3 g4
  obtain ⟨n5, e5, z5⟩ := int_of Tryz.underlying25 g5
  obtain ⟨s6, e6, z6⟩ := string_of g6
  obtain ⟨s7, e7, z7⟩ := string_of g7
  obtain ⟨Ar, lr, cr, e8, k8, m8, z8, q8⟩ := Fs.files_of g8
  refine ⟨⟨s0, lg, lf, s3, n4, ⟨n5, s6, s7, lr⟩⟩, Ag, cg, Af, cf, Ar, cr, ⟨k1, k2, k8, q1, q2, q8⟩, ⟨z0, z3, m1, z1, m2, z2, m8, z8, z6, z7, z4, z5⟩, ?_, u1⟩
  show cellsOf _ _ _ _ _ _ _ = [V 0, V 1, V 2, V 3, V 4, V 5, V 6, V 7, V 8]
  rw [e0, e1, e2, e3, e4, e5, e6, e7, e8]
  rfl
theorem ovs_from {w : World} {a : Addr} : ∀ (l : List Op) (s : Nat), (∀ k (hk : k < l.length), ∃ cs, OV w l[k] cs ∧ ∀ j u, cs[j]? = some u → w.cell? (a.add (s + (k * 9 + j))) = some u) → ∃ cs, OVs w l cs ∧ ∀ j u, cs[j]? = some u → w.cell? (a.add (s + j)) = some u
  | [], s, _ => ⟨[], rfl, fun j u h => by simp at h⟩
  | x :: l, s, h => by
    obtain ⟨c, g1, g2⟩ := h 0 (by simp)
    obtain ⟨cs, h1, h2⟩ := ovs_from l (s + 9) (fun k hk => by
      obtain ⟨c, g1, g2⟩ := h (k + 1) (by simpa using hk)
      refine ⟨c, g1, fun j u hu => ?_⟩
      rw [show s + 9 + (k * 9 + j) = s + ((k + 1) * 9 + j) by omega]
      exact g2 j u hu)
    have hc : c.length = 9 := OV.len g1
    refine ⟨c ++ cs, ⟨c, cs, rfl, g1, h1⟩, fun j u hu => ?_⟩
    rcases Nat.lt_or_ge j 9 with hj | hj
    · rw [List.getElem?_append_left (by omega)] at hu
      have := g2 j u hu
      rwa [show s + (0 * 9 + j) = s + j by omega] at this
    · rw [List.getElem?_append_right (by omega), hc] at hu
      have := h2 _ _ hu
      rwa [show s + 9 + (j - 9) = s + j by omega] at this
theorem ovs_mk {w : World} {a : Addr} (l : List Op) (h : ∀ k (hk : k < l.length), ∃ cs, OV w l[k] cs ∧ ∀ j u, cs[j]? = some u → w.cell? (a.add (k * 9 + j)) = some u) : ∃ cs, OVs w l cs ∧ ∀ j u, cs[j]? = some u → w.cell? (a.add j) = some u := by
  obtain ⟨cs, h1, h2⟩ := ovs_from (w := w) (a := a) l 0 (fun k hk => by
    obtain ⟨c, g1, g2⟩ := h k hk
    exact ⟨c, g1, fun j u hu => by rw [Nat.zero_add]; exact g2 j u hu⟩)
  exact ⟨cs, h1, fun j u hu => by have := h2 j u hu; rwa [Nat.zero_add] at this⟩
theorem ops_of {t tO tR : TypeId} {fs rs : Array Field} (ht : Tryz.prog.underlying t = some (.slice tO)) (hO : Tryz.prog.underlying tO = some (.struct fs)) (hR : Tryz.prog.underlying tR = some (.struct rs)) (hf : nestFields Tryz.prog tR fs rs = true)
    (hC : Tryz.prog.cellsOf tO = 9) (hCR : Tryz.prog.cellsOf tR = 4) (hT : opTypes fs rs tR = true) {v : Value} {fuel : Nat} {y : DataW H × List MemPlace} (h : DataW.trod enc Tryz.prog W 0 (fun _ => true) true fuel t [v] = some y) :
    ∃ A l c, v = .slice A (List.length l) c ∧ Ops W A l ∧ l.length ≤ maxLen ∧ (∀ x ∈ l, FitO x) ∧ l.length ≤ c := by
  rcases open_nests ht hO hR hf hC hCR h with h0 | ⟨a, len, cap, hcs, hl, hm, hi⟩
  · exact ⟨none, [], 0, by injection h0, Ops.none_, by decide, (fun f hf => by cases hf), Nat.zero_le _⟩
  · have hvv : v = .slice (some a) len cap := by injection hcs
    have key : ∀ i, i < len → ∃ x : Op, (∃ cs, OV W x cs ∧ ∀ j u, cs[j]? = some u → W.cell? (a.add (i * 9 + j)) = some u) ∧ FitO x := fun i hil => by
      obtain ⟨g1, g2⟩ := hi i hil
      obtain ⟨x, Ag, cg, Af, cf, Ar, cr, hp, hx, hc, _⟩ := op_of (V := fun j => (W.cell? (a.add (i * 9 + j))).getD undef) hT
        (fun j f hj hf => by obtain ⟨n, v, y, e, k⟩ := g1 j f hj hf; exact ⟨n, y, by rw [e]; exact k⟩)
        (fun j f hf => by obtain ⟨n, v, y, e, k⟩ := g2 j f hf; exact ⟨n, y, by rw [e]; exact k⟩)
      refine ⟨x, ⟨_, ⟨Ag, cg, Af, cf, Ar, cr, rfl, hp⟩, fun j u hu => ?_⟩, hx⟩
      have hj : j < 9 := (List.getElem?_eq_some_iff.1 hu).1
      have full : ∃ v, W.cell? (a.add (i * 9 + j)) = some v := by
        obtain ⟨_, k2, k3, _⟩ := nest_field hf
        rcases Nat.lt_or_ge j 5 with h5 | h5
        · obtain ⟨n, v, y, e, _⟩ := g1 j (fs[j]'(by omega)) h5 (Array.getElem?_eq_getElem (by omega))
          exact ⟨v, e⟩
        · obtain ⟨n, v, y, e, _⟩ := g2 (j - 5) (rs[j - 5]'(by omega)) (Array.getElem?_eq_getElem (by omega))
          rw [show 5 + (j - 5) = j by omega] at e
          exact ⟨v, e⟩
      obtain ⟨v, hv⟩ := full
      rw [hc, List.getElem?_map, List.getElem?_range hj, Option.map_some, Option.some.injEq] at hu
      rw [hv] at hu ⊢
      exact congrArg some hu
    obtain ⟨l, hll, hq⟩ := list_of (Q := fun i (x : Op) => (∃ cs, OV W x cs ∧ ∀ j u, cs[j]? = some u → W.cell? (a.add (i * 9 + j)) = some u) ∧ FitO x) len key
    obtain ⟨cs, h1, h2⟩ := ovs_mk l (fun k hk => (hq k hk).1)
    refine ⟨some a, l, cap, by rw [hll]; exact hvv, ⟨cs, h1, ⟨by rw [h1.len], fun h0 => ⟨a, rfl, ?_, h2⟩⟩⟩, by rw [hll]; omega, fun x hx => ?_, by omega⟩
    · have h9 := h1.len
      have := lt_of_cell (h2 0 (cs[0]'(by omega)) (List.getElem?_eq_getElem (by omega)))
      rw [block_of_add] at this
      exact this
    · obtain ⟨j, hj, rfl⟩ := List.mem_iff_getElem.1 hx
      exact (hq j hj).2
theorem op_in {tO tR : TypeId} {fs rs : Array Field} (hO : Tryz.prog.underlying tO = some (.struct fs)) (hR : Tryz.prog.underlying tR = some (.struct rs)) (hf : nestFields Tryz.prog tR fs rs = true)
    (hC : Tryz.prog.cellsOf tO = 9) (hCR : Tryz.prog.cellsOf tR = 4) (hT : opTypes fs rs tR = true) {cs : List Value} {fuel : Nat} {y : DataW H × List MemPlace} (h : DataW.trod enc Tryz.prog W 0 (fun _ => true) true fuel tO cs = some y) :
    ∃ x Ag cg Af cf Ar cr, cs = cellsOf x Ag cg Af cf Ar cr ∧ Parts W x Ag cg Af cf Ar cr ∧ FitO x ∧ Caps W Ag x.gr.length := by
  obtain ⟨hl, g1, g2⟩ := open_nest hO hR hf h hC hCR
  obtain ⟨x, Ag, cg, Af, cf, Ar, cr, hp, hx, hc, hu⟩ := op_of (V := fun j => cs.getD j undef) hT
    (fun j f hj hf => by obtain ⟨n, v, y, e, k⟩ := g1 j f hj hf; exact ⟨n, y, by rw [List.getD_eq_getElem?_getD, e]; exact k⟩)
    (fun j f hf => by obtain ⟨n, v, y, e, k⟩ := g2 j f hf; exact ⟨n, y, by rw [List.getD_eq_getElem?_getD, e]; exact k⟩)
  refine ⟨x, Ag, cg, Af, cf, Ar, cr, ?_, hp, hx, hu⟩
  rw [hc]
  refine List.ext_getElem (by simp [hl]) fun j h1 h2 => ?_
  simp [List.getElem?_eq_getElem h1]
theorem open_event {tE tO tR : TypeId} {e0 e1 : Field} {fs rs : Array Field} (hE : Tryz.prog.underlying tE = some (.struct #[e0, e1])) (h0 : e0.offset = 0 ∧ e0.type = 3) (h1 : e1.offset = 1 ∧ e1.type = tO) (hCE : Tryz.prog.cellsOf tE = 10) (hC0 : Tryz.prog.cellsOf 3 = 1)
    (hO : Tryz.prog.underlying tO = some (.struct fs)) (hR : Tryz.prog.underlying tR = some (.struct rs)) (hf : nestFields Tryz.prog tR fs rs = true)
    (hC : Tryz.prog.cellsOf tO = 9) (hCR : Tryz.prog.cellsOf tR = 4) (hT : opTypes fs rs tR = true) {cs : List Value} {fuel : Nat} {y : DataW H × List MemPlace} (h : DataW.trod enc Tryz.prog W 0 (fun _ => true) true fuel tE cs = some y) :
    ∃ k x Ag cg Af cf Ar cr, cs = .int .i64 k :: cellsOf x Ag cg Af cf Ar cr ∧ Parts W x Ag cg Af cf Ar cr ∧ FitO x ∧ (-9223372036854775808 ≤ k ∧ k ≤ 9223372036854775807) ∧ Caps W Ag x.gr.length := by
  obtain ⟨ys, n, _, _, hlen, hyl, hat⟩ := DataW.trod_struct hE h
  rw [hCE] at hlen
  have g0 := hat 0 e0 rfl
  have g1 := hat 1 e1 rfl
  have hy : ys.length = 2 := hyl
  rw [h0.1, h0.2, hC0, List.getElem?_eq_getElem (show 0 < ys.length by omega)] at g0
  rw [h1.1, h1.2, hC, List.getElem?_eq_getElem (show 1 < ys.length by omega)] at g1
  match cs, hlen with
  | c :: cs', hlen =>
    have hl : cs'.length = 9 := by simpa using hlen
    rw [List.drop_one, List.tail_cons, List.take_of_length_le (by omega)] at g1
    obtain ⟨k, rfl, k1, k2⟩ := int_of Tryz.underlying3 (v := c) g0
    obtain ⟨x, Ag, cg, Af, cf, Ar, cr, e, hp, hx, hu⟩ := op_in hO hR hf hC hCR hT g1
    exact ⟨k, x, Ag, cg, Af, cf, Ar, cr, by rw [e], hp, hx, ⟨k1, k2⟩, hu⟩
end
end Go.Proofs.YtnheahologecfaaGreatDoor.Ops
/- Few8, what a claim needs of it (prune.py). -/
namespace Go.Proofs.YtnheahologecfaaGreatDoor.F8
open Go.RowKit
set_option linter.unusedVariables false
set_option maxRecDepth 100000
def FewSays (l : List Tg) (fs : List Fl) (w : World) (e : Ending) (w' : World) : Prop := ∃ b, e = .returned (.bool b) ∧ w = w' ∧ (b = true → l.length ≤ 20 ∧ (∀ t ∈ l, t.Ok) ∧ fs.length ≤ 60 ∧ ∀ f ∈ fs, f.Ok)
theorem FewSays.no (l : List Tg) (fs : List Fl) (w : World) : FewSays l fs w (.returned (.bool false)) w := ⟨false, rfl, rfl, fun h => by cases h⟩
set_option maxHeartbeats 4000000 in
theorem few_any (A F : Option Addr) (l : List Tg) (fs : List Fl) (c d : Nat) (w : World) (hl : l.length ≤ 9223372036854775807) (hf : fs.length ≤ 9223372036854775807) (hr : Tgs w w.heap.size A l) (hq : Fls w w.heap.size F fs)
    (hsz : ∀ t ∈ l, t.n.size ≤ maxLen ∧ t.c.size ≤ maxLen ∧ t.ds.length ≤ maxLen ∧ t.ss.length ≤ maxLen) (hfz : ∀ f ∈ fs, f.p.size ≤ maxLen ∧ f.d.size ≤ maxLen) :
    Calls Tryz.prog 37 #[.slice A l.length c, .slice F fs.length d] w (FewSays l fs w) := by
  by_cases h1 : l.length ≤ 20
  · by_cases h2 : fs.length ≤ 60
    · have i1 : decide ((20 : Int) < (l.length : Int)) = false := decide_eq_false (by omega)
      have i2 : decide ((60 : Int) < (fs.length : Int)) = false := decide_eq_false (by omega)
      have H1 := Lib.hid h1
      have H2 := Lib.hid h2
      go_enter Tryz.func37, Tryz.ntmps37
      go_wp2_with (fail)
      go_loop [5] (fun i => ∃ k : Nat, i = .int .i64 k ∧ k ≤ fs.length ∧ ∀ j (hj : j < fs.length), j < k → fs[j].Ok) (fun i => fs.length - (intOf i).toNat)
      case atStart => exact ⟨0, rfl, by omega, fun j hj h => by omega⟩
      case round =>
        obtain ⟨k, rfl, hk, hok⟩ := hrel
        have HOK := Lib.hid hok
        clear hok
        by_cases hlt : k < fs.length
        · obtain ⟨ad, rfl, had, hcs⟩ := hq (by omega)
          obtain ⟨c0, c1⟩ := hcs k hlt
          have e1 : w.cell? ⟨(ad.add (k * 2)).block, (ad.add (k * 2)).off + 1, none⟩ = some (.string fs[k].d) := c1
          have hkI : (k : Int) < (fs.length : Int) := by omega
          have hzz := hfz _ (List.getElem_mem hlt)
          unfold maxLen at hzz
          have MU := Lib.hid (fun (h : fs[k].Ok) => mem_upto (Q := Fl.Ok) hlt HOK.out h)
          clear c1 hcs
          generalize fs[k] = f at *
          by_cases g1 : f.p.size ≤ 200
          · by_cases g2 : f.d.size ≤ 3000
            · have j1 : decide ((200 : Int) < (f.p.size : Int)) = false := decide_eq_false (by omega)
              have j2 : decide ((3000 : Int) < (f.d.size : Int)) = false := decide_eq_false (by omega)
              have G := Lib.hid (⟨g1, g2⟩ : f.Ok)
              go_wp2_with (fail)
              go_round
              case rel => exact ⟨k + 1, by go_num, by omega, MU.out G.out⟩
              case measure => simp [intOf]; omega
            · have j1 : decide ((200 : Int) < (f.p.size : Int)) = false := decide_eq_false (by omega)
              have j2 : decide ((3000 : Int) < (f.d.size : Int)) = true := decide_eq_true (by omega)
              go_wp2_with (fail)
              go_ret
              exact FewSays.no l fs w
          · have j1 : decide ((200 : Int) < (f.p.size : Int)) = true := decide_eq_true (by omega)
            go_wp2_with (fail)
            go_ret
            exact FewSays.no l fs w
        · obtain rfl : k = fs.length := by omega
          have FOK := Lib.hid (mem_all HOK.out)
          clear HOK
          go_wp2_with (fail)
          go_loop [6] (fun i => ∃ k : Nat, i = .int .i64 k ∧ k ≤ l.length ∧ ∀ j (hj : j < l.length), j < k → l[j].Ok) (fun i => l.length - (intOf i).toNat)
          case atStart => exact ⟨0, rfl, by omega, fun j hj h => by omega⟩
          case round =>
            obtain ⟨k, rfl, hk, hok⟩ := hrel
            have HOK := Lib.hid hok
            clear hok
            by_cases hlt : k < l.length
            · obtain ⟨ad, rfl, had, hcs⟩ := hr (by omega)
              obtain ⟨Ad, cd, As, cs, c0, c1, c2, c3, hd, hs⟩ := hcs k hlt
              have e1 : w.cell? ⟨(ad.add (k * 4)).block, (ad.add (k * 4)).off + 1, none⟩ = some (.string l[k].c) := c1
              have e2 : w.cell? ⟨(ad.add (k * 4)).block, (ad.add (k * 4)).off + 2, none⟩ = some (.slice Ad l[k].ds.length cd) := c2
              have e3 : w.cell? ⟨(ad.add (k * 4)).block, (ad.add (k * 4)).off + 3, none⟩ = some (.slice As l[k].ss.length cs) := c3
              have hkI : (k : Int) < (l.length : Int) := by omega
              have hzz := hsz _ (List.getElem_mem hlt)
              unfold maxLen at hzz
              have MU := Lib.hid (fun (h : l[k].Ok) => mem_upto (Q := Tg.Ok) hlt HOK.out h)
              clear c1 c2 c3 hcs HOK
              generalize l[k] = t at *
              by_cases g1 : t.n.size ≤ 100
              · have j1 : decide ((100 : Int) < (t.n.size : Int)) = false := decide_eq_false (by omega)
                by_cases g2 : t.c.size ≤ 2000
                · have j2 : decide ((2000 : Int) < (t.c.size : Int)) = false := decide_eq_false (by omega)
                  by_cases g3 : t.ds.length ≤ 20
                  · have j3 : decide ((20 : Int) < (t.ds.length : Int)) = false := decide_eq_false (by omega)
                    by_cases g4 : t.ss.length ≤ 40
                    · have j4 : decide ((40 : Int) < (t.ss.length : Int)) = false := decide_eq_false (by omega)
                      go_wp2_with (fail)
                      go_loop [7] (fun i => ∃ q : Nat, i = .int .i64 q ∧ q ≤ t.ds.length ∧ ∀ j (hj : j < t.ds.length), j < q → t.ds[j].size ≤ 100) (fun i => t.ds.length - (intOf i).toNat)
                      case atStart => exact ⟨0, rfl, by omega, fun j hj h => by omega⟩
                      case round =>
                        obtain ⟨q, rfl, hq, hok⟩ := hrel
                        by_cases hqt : q < t.ds.length
                        · obtain ⟨bd, rfl, hbd, hcq⟩ := hd.at_ hqt
                          have hqI : (q : Int) < (t.ds.length : Int) := by omega
                          have MQ := Lib.hid (fun (h : t.ds[q].size ≤ 100) => mem_upto (Q := fun x : ByteArray => x.size ≤ 100) hqt hok h)
                          clear hok
                          generalize t.ds[q] = x at *
                          by_cases gx : x.size ≤ 100
                          · have jx : ¬ (100 : Int) < (x.size : Int) := by omega
                            have GX := Lib.hid gx
                            go_wp2_with (fail)
                            go_round
                            case rel => exact ⟨q + 1, by go_num, by omega, MQ.out GX.out⟩
                            case measure => simp [intOf]; omega
                          · have jx : (100 : Int) < (x.size : Int) := by omega
                            go_wp2_with (fail)
                            go_ret
                            exact FewSays.no l fs w
                        · obtain rfl : q = t.ds.length := by omega
                          have DOK := Lib.hid (mem_all (l := t.ds) (Q := fun x : ByteArray => x.size ≤ 100) hok)
                          clear hok
                          go_wp2_with (fail)
                          go_loop [8] (fun i => ∃ q : Nat, i = .int .i64 q ∧ q ≤ t.ss.length ∧ ∀ j (hj : j < t.ss.length), j < q → t.ss[j].size ≤ 100) (fun i => t.ss.length - (intOf i).toNat)
                          case atStart => exact ⟨0, rfl, by omega, fun j hj h => by omega⟩
                          case round =>
                            obtain ⟨q, rfl, hq, hok⟩ := hrel
                            by_cases hqt : q < t.ss.length
                            · obtain ⟨bd, rfl, hbd, hcq⟩ := hs.at_ hqt
                              have hqI : (q : Int) < (t.ss.length : Int) := by omega
                              have MQ := Lib.hid (fun (h : t.ss[q].size ≤ 100) => mem_upto (Q := fun x : ByteArray => x.size ≤ 100) hqt hok h)
                              clear hok
                              generalize t.ss[q] = x at *
                              by_cases gx : x.size ≤ 100
                              · have jx : ¬ (100 : Int) < (x.size : Int) := by omega
                                have GX := Lib.hid gx
                                go_wp2_with (fail)
                                go_round
                                case rel => exact ⟨q + 1, by go_num, by omega, MQ.out GX.out⟩
                                case measure => simp [intOf]; omega
                              · have jx : (100 : Int) < (x.size : Int) := by omega
                                go_wp2_with (fail)
                                go_ret
                                exact FewSays.no l fs w
                            · obtain rfl : q = t.ss.length := by omega
                              have G := Lib.hid (⟨g1, g2, g3, g4, DOK.out, mem_all (l := t.ss) (Q := fun x : ByteArray => x.size ≤ 100) hok⟩ : t.Ok)
                              clear hok
                              go_wp2_with (fail)
                              go_round
                              case rel => exact ⟨k + 1, by go_num, by omega, MU.out G.out⟩
                              case measure => simp [intOf]; omega
                    · have j4 : decide ((40 : Int) < (t.ss.length : Int)) = true := decide_eq_true (by omega)
                      go_wp2_with (fail)
                      go_ret
                      exact FewSays.no l fs w
                  · have j3 : decide ((20 : Int) < (t.ds.length : Int)) = true := decide_eq_true (by omega)
                    go_wp2_with (fail)
                    go_ret
                    exact FewSays.no l fs w
                · have j2 : decide ((2000 : Int) < (t.c.size : Int)) = true := decide_eq_true (by omega)
                  go_wp2_with (fail)
                  go_ret
                  exact FewSays.no l fs w
              · have j1 : decide ((100 : Int) < (t.n.size : Int)) = true := decide_eq_true (by omega)
                go_wp2_with (fail)
                go_ret
                exact FewSays.no l fs w
            · obtain rfl : k = l.length := by omega
              go_wp2_with (fail)
              go_ret
              exact ⟨true, rfl, rfl, fun _ => ⟨H1.out, mem_all HOK.out, H2.out, FOK.out⟩⟩
    · have i1 : decide ((20 : Int) < (l.length : Int)) = false := decide_eq_false (by omega)
      have i2 : decide ((60 : Int) < (fs.length : Int)) = true := decide_eq_true (by omega)
      go_enter Tryz.func37, Tryz.ntmps37
      go_wp2_with (fail)
      go_ret
      exact FewSays.no l fs w
  · have i1 : decide ((20 : Int) < (l.length : Int)) = true := decide_eq_true (by omega)
    go_enter Tryz.func37, Tryz.ntmps37
    go_wp2_with (fail)
    go_ret
    exact FewSays.no l fs w
end Go.Proofs.YtnheahologecfaaGreatDoor.F8
