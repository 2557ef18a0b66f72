/- The contract of the law's 'texts' at equal lists, and of its 'awake'. -/
import Derived.Test.YtcifjhhofefpjaaCaIPut
import Derived.Deep.QuietTactic
import Derived.BigQuiet
namespace Go.Proofs.Ytcifjhhofefpjaa.Ca
open Go.RowKit Go.Maps Go.Shelf
set_option linter.unusedVariables false
set_option maxRecDepth 100000
/-- texts as a slice at A reads them -/
def Strs (w : World) (A : Option Addr) (l : List ByteArray) : Prop := 0 < l.length → ∃ ad : Addr, A = some ad ∧ ∀ j (h : j < l.length), w.cell? (ad.add j) = some (.string l[j])
theorem Strs.keep {w w' : World} {A : Option Addr} {l : List ByteArray} (h : Strs w A l) {B : Nat} (hb : Below B w w') (hB : ∀ ad : Addr, A = some ad → ad.block < B) : Strs w' A l := fun hl => by
  obtain ⟨ad, rfl, hc⟩ := h hl
  exact ⟨ad, rfl, fun j hj => (hb.cell (p := ad.add j) (by have : (ad.add j).block = ad.block := by unfold Addr.add; split <;> rfl
                                                           rw [this]; exact hB ad rfl)).trans (hc j hj)⟩
theorem Strs.of_own {w : World} {base : Nat} {e : TypeId} {A : Option Addr} {n c : Nat} {l : List ByteArray} (h : w.ownsRow base e 1 (.slice A n c) n (l.map Value.string)) : n = l.length ∧ Strs w A l ∧ ∀ ad : Addr, A = some ad → ad.block < w.heap.size := by
  have hl := h.1
  rw [List.length_map] at hl
  refine ⟨by omega, fun hp => ?_, fun ad e => ?_⟩
  · obtain ⟨g, cap, hv, _, hlt⟩ := h.form (by omega)
    injection hv with hA _ _
    subst hA
    exact ⟨_, rfl, fun j hj => h.cells (g := g) rfl j _ (by simp [hj])⟩
  · subst e
    rcases h.2 with ⟨h0, _⟩ | ⟨g, cap, cur, hv, _, hg, _⟩
    · cases h0
    · injection hv with hA _ _
      injection hA with hA
      subst hA
      exact heap_lt hg
theorem texts_yes (A A' : Option Addr) (c c' : Nat) (l : List ByteArray) (w : World) (hl : l.length ≤ 1000000) (h : Strs w A l) (h' : Strs w A' l) :
    Calls Try.prog 21 #[.slice A l.length c, .slice A' l.length c'] w fun e w' => e = .returned (.bool true) ∧ ∃ q, w' = w.drewN q := by
  have hne : ((l.length : Int) != (l.length : Int)) = false := by simp
  go_enter Try.func21, Try.ntmps21
  go_wp2_with (fail)
  go_loopw [5] (fun i wr => ∃ (k q : Nat), i = .int .i64 k ∧ k ≤ l.length ∧ wr = w.drewN q) (fun i _ => l.length - (intOf i).toNat)
  case atStart => exact ⟨0, 0, rfl, Nat.zero_le _, rfl⟩
  case round =>
    obtain ⟨k, q, rfl, hk, hw⟩ := hrel
    by_cases hlt : k < l.length
    · obtain ⟨ad, rfl, hc⟩ := h (by omega)
      obtain ⟨ad', rfl, hc'⟩ := h' (by omega)
      have g := hc k hlt
      have g' := hc' k hlt
      rename World => wr
      have g1 : wr.cell? (ad.add k) = some (.string l[k]) := by rw [hw]; exact g
      have g1' : wr.cell? (ad'.add k) = some (.string l[k]) := by rw [hw]; exact g'
      have HW := Lib.hid hw
      have hkI : (k : Int) < (l.length : Int) := by omega
      have hk0 : (0 : Int) ≤ (k : Int) := by omega
      clear g g' hc hc' hw
      generalize l[k] = s at *
      go_wp2_with (fail)
      go_quiet (fail)
      go_wp2_with (fail)
      go_roundw
      case rel => exact ⟨k + 1, _, by go_num, by omega, by rw [HW.out]; exact World.drewN_drewN _ _ _⟩
      case measure => simp [intOf]; omega
    · obtain rfl : k = l.length := by omega
      go_wp2_with (fail)
      go_ret
      exact ⟨rfl, q, rfl⟩
theorem ne_ab : (⟨#[97]⟩ : ByteArray) ≠ ⟨#[98]⟩ := by decide
section
abbrev ba : ByteArray := ⟨#[97]⟩
abbrev bb : ByteArray := ⟨#[98]⟩
abbrev bc : ByteArray := ⟨#[99]⟩
abbrev bd : ByteArray := ⟨#[100]⟩
theorem aw1 : put 2 ([] : List (Th Int)) ba 1 = ([⟨ba, 1, 0⟩], 0) := rfl
theorem has_t {k : ByteArray} {v : Int} {p : Nat} : has_ k ⟨k, v, p⟩ = true := has_iff.2 rfl
theorem has_f {k k' : ByteArray} (h : k' ≠ k) {v : Int} {p : Nat} : has_ k ⟨k', v, p⟩ = false := has_not.2 h
theorem aw2 : put 2 [(⟨ba, 1, 0⟩ : Th Int)] bb 2 = ([⟨ba, 1, 0⟩, ⟨bb, 2, 0⟩], 0) := by
  unfold put at_
  rw [part_of_none (by intro x hx; rw [List.mem_singleton.1 hx]; exact has_f (by decide))]
  rfl
theorem aw3 : get [(⟨ba, 1, 0⟩ : Th Int), ⟨bb, 2, 0⟩] ba = ([⟨bb, 2, 0⟩, ⟨ba, 1, 0⟩], some 1) := by
  unfold get at_
  rw [show [(⟨ba, 1, 0⟩ : Th Int), ⟨bb, 2, 0⟩] = [] ++ ⟨ba, 1, 0⟩ :: [⟨bb, 2, 0⟩] from rfl, part_of_some has_t (fun y hy => by cases hy)]
  rfl
theorem aw4 : put 2 [(⟨bb, 2, 0⟩ : Th Int), ⟨ba, 1, 0⟩] bc 3 = ([⟨ba, 1, 0⟩, ⟨bc, 3, 0⟩], 0) := by
  unfold put at_
  rw [part_of_none (by intro x hx; simp at hx; rcases hx with rfl | rfl <;> exact has_f (by decide))]
  rfl
theorem aw5 : pin [(⟨ba, 1, 0⟩ : Th Int), ⟨bc, 3, 0⟩] ba = ([⟨ba, 1, 1⟩, ⟨bc, 3, 0⟩], 0) := by
  unfold pin at_
  rw [show [(⟨ba, 1, 0⟩ : Th Int), ⟨bc, 3, 0⟩] = [] ++ ⟨ba, 1, 0⟩ :: [⟨bc, 3, 0⟩] from rfl, part_of_some has_t (fun y hy => by cases hy)]
  rfl
theorem aw6 : pin [(⟨ba, 1, 1⟩ : Th Int), ⟨bc, 3, 0⟩] bc = ([⟨ba, 1, 1⟩, ⟨bc, 3, 1⟩], 0) := by
  unfold pin at_
  rw [show [(⟨ba, 1, 1⟩ : Th Int), ⟨bc, 3, 0⟩] = [⟨ba, 1, 1⟩] ++ ⟨bc, 3, 0⟩ :: [] from rfl, part_of_some has_t (fun y hy => by rw [List.mem_singleton.1 hy]; exact has_f (by decide))]
  rfl
theorem aw7 : put 2 [(⟨ba, 1, 1⟩ : Th Int), ⟨bc, 3, 1⟩] bd 4 = ([⟨ba, 1, 1⟩, ⟨bc, 3, 1⟩], 41) := by
  unfold put at_
  rw [part_of_none (by intro x hx; simp at hx; rcases hx with rfl | rfl <;> exact has_f (by decide))]
  rfl
end
set_option maxHeartbeats 1000000 in
theorem awake_any (w : World) : Calls Try.prog 7 #[] w fun e w' => e = .returned (.bool true) ∧ Below w.heap.size w w' := by
  have N0 := Lib.hid (I.new_ok 2 (by omega) (by omega) w)
  go_enter Try.func7, Try.ntmps7
  go_wp2_with (fail)
  refine (N0.out).mono ?_
  rintro e w1 ⟨rfl, i1, b1⟩
  have P1 := I.put_any i1 (k := ba) (by decide) (by omega) (by omega) (by omega) (by simp) 1
  rw [aw1] at P1
  have Q1 := Lib.hid P1
  clear P1 i1
  go_wp2_with (fail)
  refine (Q1.out).mono ?_
  rintro e w2 ⟨rfl, i2, b2, _⟩
  have P2 := I.put_any i2 (k := bb) (by decide) (by omega) (by omega) (by omega) (by simp) 2
  rw [aw2] at P2
  have Q2 := Lib.hid P2
  clear P2 i2
  go_wp2_with (fail)
  refine (Q2.out).mono ?_
  rintro e w3 ⟨rfl, i3, b3, _⟩
  have P3 := I.get_any i3 (k := ba) (by decide) (by omega)
  rw [aw3] at P3
  have Q3 := Lib.hid P3
  clear P3 i3
  go_wp2_with (fail)
  refine (Q3.out).mono ?_
  rintro e w4 ⟨rfl, i4, b4, _⟩
  have P4 := I.put_any i4 (k := bc) (by decide) (by omega) (by omega) (by omega) (by simp) 3
  rw [aw4] at P4
  have Q4 := Lib.hid P4
  clear P4 i4
  dsimp only [I.got]
  go_wp2_with (fail)
  refine (Q4.out).mono ?_
  rintro e w5 ⟨rfl, i5, b5, _⟩
  have K5 := Lib.hid (I.keys_any i5 (by simp))
  have I5 := Lib.hid i5
  clear i5
  go_wp2_with (fail)
  refine (K5.out).mono ?_
  rintro e w6 ⟨v, rfl, hrow, b6⟩
  have i6 := I5.out.below b6
  have P6 := I.pin_any i6 (k := ba) (by decide) (by omega)
  rw [aw5] at P6
  have Q6 := Lib.hid P6
  obtain ⟨g, cap, rfl, hg5, hg6⟩ := hrow.form (by decide)
  rcases hrow.2 with ⟨h0, _⟩ | ⟨g', cap', cur, hv, _, hgb, hr⟩
  · cases h0
  injection hv with hA _ hcc
  injection hA with hA
  injection hA with hA _ _
  subst hA
  subst hcc
  have HC := Lib.hid (hrow.cells (g := g) rfl)
  have HGB := Lib.hid hgb
  have hm5 : w.heap.size < w5.heap.size := by obtain ⟨_, _, _, h, _⟩ := I5.out; exact h.map.lt
  have hgw : w.heap.size < g := by omega
  clear P6 i6 hrow hr hgb
  go_wp2_with (fail)
  refine (Q6.out).mono ?_
  rintro e w7 ⟨rfl, i7, b7, f7⟩
  have P7 := I.pin_any i7 (k := bc) (by decide) (by omega)
  rw [aw6] at P7
  have Q7 := Lib.hid P7
  clear P7 i7
  go_wp2_with (fail)
  refine (Q7.out).mono ?_
  rintro e w8 ⟨rfl, i8, b8, f8⟩
  have I8 := Lib.hid i8
  clear i8
  have e7 : w7.heap[g]? = w6.heap[g]? := f7.2 g hg6 (by omega) (fun cs e => by rw [HGB.out] at e; cases e) (fun cs e => by rw [HGB.out] at e; cases e)
  have hg7 : g < w7.heap.size := Nat.lt_of_lt_of_le hg6 f7.1
  have e8 : w8.heap[g]? = w7.heap[g]? := f8.2 g hg7 (by omega) (fun cs e => by rw [e7, HGB.out] at e; cases e) (fun cs e => by rw [e7, HGB.out] at e; cases e)
  have hg8 : g < w8.heap.size := Nat.lt_of_lt_of_le hg7 f8.1
  obtain ⟨W, eW⟩ : ∃ W, W = w8.alloc (.cells #[.string ba, .string bc] 9) := ⟨_, rfl⟩
  have b8W : Below w8.heap.size w8 W := by rw [eW]; exact (Below.refl _ _).alloc (Nat.le_refl _) _
  have x8 : W.heap[w8.heap.size]? = some (.cells #[.string ba, .string bc] 9 (0, 0)) := by rw [eW]; exact heap_alloc_new w8 _
  have eg : W.heap[g]? = w6.heap[g]? := (b8W.block g hg8).trans (e8.trans e7)
  have s1 : Strs W (some ⟨g, 0, none⟩) [ba, bc] := fun _ => ⟨_, rfl, fun j hj => by
    have h1 := HC.out j (.string [ba, bc][j]) (by match j, hj with | 0, _ => rfl | 1, _ => rfl)
    refine (World.cell?_of_block ?_).trans h1
    have : ((⟨g, 0, none⟩ : Addr).add j).block = g := by unfold Addr.add; split <;> rfl
    rw [this]; exact eg⟩
  have s2 : Strs W (some ⟨w8.heap.size, 0, none⟩) [ba, bc] := fun _ => ⟨_, rfl, fun j hj => by
    match j, hj with
    | 0, _ => exact (cell_at x8 0).trans rfl
    | 1, _ => exact (cell_at x8 1).trans rfl⟩
  have TX : Hid (Calls Try.prog 21 #[.slice (some ⟨g, 0, none⟩) 2 cap, .slice (some ⟨w8.heap.size, 0, none⟩) 2 2] W fun e w' => e = .returned (.bool true) ∧ ∃ q, w' = W.drewN q) := Lib.hid (texts_yes _ _ cap 2 [ba, bc] W (by simp) s1 s2)
  have b1' : Below w.heap.size w w8 := ((((((b1.trans b2).trans b3).trans b4).trans b5).trans (b6.mono (by omega))).trans b7).trans b8
  have EW := Lib.hid eW
  clear e7 e8 s1 s2 x8 eg f7 f8 hg8 hg7 hg6 hg5 eW
  go_wp2_with (fail)
  rw [← EW.out]
  refine (TX.out).mono ?_
  rintro e w9 ⟨rfl, q, rfl⟩
  have i9 := I8.out.below b8W
  have i9' : I.Is (W.drewN q) w.heap.size (w.heap.size + 1) w.heap.size 2 6 [⟨ba, 1, 1⟩, ⟨bc, 3, 1⟩] := by
    obtain ⟨cl, D, E, h1, h2⟩ := i9
    exact ⟨cl, D, E, I.CaDrewN h1 q, h2⟩
  have P9 := I.put_any i9' (k := bd) (by decide) (by omega) (by omega) (by omega) (by simp) 4
  rw [aw7] at P9
  have Q9 := Lib.hid P9
  clear P9 i9 i9'
  go_wp2_with (fail)
  refine (Q9.out).mono ?_
  rintro e w10 ⟨rfl, i10, b10, _⟩
  clear i10
  go_wp2_with (fail)
  go_ret
  exact ⟨rfl, (b1'.trans (I.below_drewN (b8W.mono b1'.size) q)).trans b10⟩
end Go.Proofs.Ytcifjhhofefpjaa.Ca
