/- The contracts of the two Find. -/
import Derived.Test.YtoofflnaebkigaaDoorGrMem
import Derived.Test.YtoofflnaebkigaaDoorLgCells
namespace Go.Proofs.YtoofflnaebkigaaDoor.Gr
open Go.RowKit
open Lg (Strs tl)
set_option linter.unusedVariables false
set_option maxRecDepth 100000
theorem find1_any (n c s : ByteArray) (Ad As : Option Addr) (ld cd ls cs B : Nat) (W : World) (hB : B < W.heap.size) (hc : W.cell? ⟨B, 0, none⟩ = some (.string s)) :
    Calls Tryd.prog 31 #[.agg #[.string n, .string c, .slice Ad ld cd, .slice As ls cs], .pointer (some ⟨B, 0, none⟩)] W fun e w' => e = .returned (.bool (decide (n = s))) ∧ Below W.heap.size W w' := by
  have hne : B ≠ W.heap.size := by omega
  by_cases h : n = s
  · have F : Hid (decide (n = s) = true) := Lib.hid (decide_eq_true h)
    subst h
    go_enter Tryd.func31, Tryd.ntmps31
    go_wp2_with (fail)
    go_ret
    exact ⟨Lg.ret_bool F.out, (Below.refl _ _).alloc (Nat.le_refl _) _⟩
  · have F : Hid (decide (n = s) = false) := Lib.hid (decide_eq_false h)
    have g := Lg.s_ne h
    clear h
    go_enter Tryd.func31, Tryd.ntmps31
    go_wp2_with (fail)
    go_ret
    exact ⟨Lg.ret_bool F.out, (Below.refl _ _).alloc (Nat.le_refl _) _⟩
def zeroT : Tg := ⟨⟨#[]⟩, ⟨#[]⟩, [], []⟩
/-- what the two Find answer in world w: the target's lists lie as they lay in world w0 -/
def FindSays (l : List Tg) (s : ByteArray) (w0 w : World) (e : Ending) (w' : World) : Prop :=
  (∃ (t : Tg) (Ad As : Option Addr) (cd cs : Nat), e = .returned (.tuple #[.agg #[.string t.n, .string t.c, .slice Ad t.ds.length cd, .slice As t.ss.length cs], .bool (isT l s)]) ∧ t = (find l s).getD zeroT ∧ Strs w0 Ad t.ds ∧ Strs w0 As t.ss) ∧ Below w.heap.size w w'
theorem none_isT {l : List Tg} {s : ByteArray} (h : find l s = none) : isT l s = false := by unfold isT; rw [h]; rfl
theorem some_isT {l : List Tg} {s : ByteArray} {t : Tg} (h : find l s = some t) : isT l s = true := by unfold isT; rw [h]; rfl
set_option maxHeartbeats 1000000 in
theorem find_any (A : Option Addr) (l : List Tg) (c : Nat) (s : ByteArray) (w0 w : World) (hr : Tgs w0 A l) (h0 : Below w0.heap.size w0 w) (hl : l.length ≤ 1000000000) :
    Calls Tryd.prog 16 #[.slice A l.length c, .string s] w (FindSays l s w0 w) := by
  obtain ⟨W2, eW⟩ : ∃ W2, W2 = (w.alloc (.cells #[.string s] 9)).alloc (.cells #[.string ⟨#[]⟩, .string ⟨#[]⟩, .slice none 0 0, .slice none 0 0] 35) := ⟨_, rfl⟩
  have hb2 : Below w.heap.size w W2 := by rw [eW]; exact ((Below.refl _ _).alloc (Nat.le_refl _) _).alloc (by simp) _
  have hsz : W2.heap.size = w.heap.size + 1 + 1 := by rw [eW]; simp
  have k0 : W2.heap[w.heap.size]? = some (.cells #[.string s] 9 (0, 0)) := by rw [eW]; exact Lg.heap_two
  have k1 : W2.heap[w.heap.size + 1]? = some (.cells #[.string ⟨#[]⟩, .string ⟨#[]⟩, .slice none 0 0, .slice none 0 0] 35 (0, 0)) := by rw [eW]; exact heap_alloc2_new w _ _
  have IX := Lib.hid (indexT_any 31 #[.pointer (some ⟨w.heap.size, 0, none⟩)] (enters_of Tryd.func31 (by kernel_rfl) rfl) (fun t => decide (t.n = s)) A l c W2 ((hr.below h0).below hb2) hl
    (fun k hk Ad cd As cs V hV _ _ => find1_any _ _ _ _ _ _ _ _ _ _ V (by have := hV.size; omega) ((hV.cell (p := ⟨w.heap.size, 0, none⟩) (by show w.heap.size < _; omega)).trans (Lg.cell_at k0 0))))
  have K1 : Hid (∀ W, Below W2.heap.size W2 W → W.heap[w.heap.size + 1]? = some (.cells #[.string ⟨#[]⟩, .string ⟨#[]⟩, .slice none 0 0, .slice none 0 0] 35 (0, 0))) := Lib.hid fun W hW => (hW.block _ (by omega)).trans k1
  have HS := Lib.hid hsz
  have h12 : w.heap.size + 1 < W2.heap.size := by omega
  clear k0 k1 hsz
  rcases idx_cases (fun t : Tg => decide (t.n = s)) l with ⟨e1, e2⟩ | ⟨k, hk, e1, e2, _, _⟩
  · rw [e1] at IX
    have F : Hid (find l s = none) := Lib.hid e2
    clear e1 e2 hr
    go_enter Tryd.func16, Tryd.ntmps16
    go_wp2_with (go_at_call 30; rw [← eW]; (with_reducible refine (IX.out).mono ?_); rintro e w1 ⟨rfl, hb⟩; have K2 := Lib.hid (K1.out _ hb); obtain ⟨c0, c1, c2, c3, f0, f1, f2, f3⟩ := Lg.four (K1.out _ hb); have hs1 := hb.size; clear eW)
    (try simp only [Exit.inBlock, Exit.then])
    refine bodyPost_ret_by (Lg.results_cell_row2 rfl _ _ (w.heap.size + 1) 35 _ (0, 0) _ rfl (Lg.set4 K2.out _ _ _ _) rfl rfl (by kernel_rfl)) rfl ?_
    refine ⟨⟨zeroT, none, none, 0, 0, by rw [none_isT F.out]; rfl, by rw [F.out]; rfl, Reads.none_, Reads.none_⟩, ?_⟩
    exact Lg.set4_below (hb2.trans (hb.mono hb2.size)) (by omega) _ _ _ _
  · rw [e1] at IX
    have F : Hid (find l s = some l[k]) := Lib.hid e2
    clear e1 e2
    have hkI : (k : Int) < (l.length : Int) := by omega
    obtain ⟨ad, rfl, had, hcs⟩ := hr (by omega)
    obtain ⟨Ad, cd, As, cs, d0, d1, d2, d3, hd, hs⟩ := hcs k hk
    have HD := Lib.hid hd
    have HT := Lib.hid hs
    have cat : ∀ (W : World), Below w0.heap.size w0 W → W.cell? (ad.add (k * 4)) = some (.string l[k].n) ∧ W.cell? ⟨(ad.add (k * 4)).block, (ad.add (k * 4)).off + 1, none⟩ = some (.string l[k].c) ∧ W.cell? ⟨(ad.add (k * 4)).block, (ad.add (k * 4)).off + 2, none⟩ = some (.slice Ad l[k].ds.length cd) ∧ W.cell? ⟨(ad.add (k * 4)).block, (ad.add (k * 4)).off + 3, none⟩ = some (.slice As l[k].ss.length cs) := fun W hW =>
      have hk : ∀ j, W.cell? ((ad.add (k * 4)).add j) = w0.cell? ((ad.add (k * 4)).add j) := fun j => hW.cell (by rw [block_of_add, block_of_add]; exact had)
      ⟨(hW.cell (by rw [block_of_add]; exact had)).trans d0, (hk 1).trans d1, (hk 2).trans d2, (hk 3).trans d3⟩
    have CAT := Lib.hid cat
    clear hcs d0 d1 d2 d3 hd hs hr cat
    generalize l[k] = t at *
    go_enter Tryd.func16, Tryd.ntmps16
    go_wp2_with (go_at_call 30; rw [← eW]; (with_reducible refine (IX.out).mono ?_); rintro e w1 ⟨rfl, hb⟩; have K2 := Lib.hid (K1.out _ hb); obtain ⟨c0, c1, c2, c3, f0, f1, f2, f3⟩ := Lg.four (K1.out _ hb); have hs1 := hb.size; clear eW; have hbw := hb2.trans (hb.mono hb2.size); obtain ⟨e0, e1, e2, e3⟩ := CAT.out _ (h0.trans (hbw.mono h0.size)))
    (try simp only [Exit.inBlock, Exit.then])
    refine bodyPost_ret_by (Lg.results_cell_row2 rfl _ _ (w.heap.size + 1) 35 _ (0, 0) _ rfl (Lg.set4 K2.out _ _ _ _) rfl rfl (by kernel_rfl)) rfl ?_
    have hbf := Lg.set4_below (g := w.heap.size + 1) hbw (by omega) (.string t.n) (.string t.c) (.slice Ad t.ds.length cd) (.slice As t.ss.length cs)
    exact ⟨⟨t, Ad, As, cd, cs, by rw [some_isT F.out]; rfl, by rw [F.out]; rfl, HD.out, HT.out⟩, hbf⟩
theorem find_hit {l : List Tg} {s : ByteArray} {k : Nat} (hk : k < l.length) (h : NoneTo (fun t : Tg => decide (t.n = s)) l k) (e : l[k].n = s) : find l s = some l[k] := by
  unfold find
  rw [List.find?_eq_some_iff_getElem]
  exact ⟨decide_eq_true e, k, hk, rfl, fun j hj => by
    have h1 : decide (l[j].n = s) = false := h j (by omega) hj
    rw [h1]; rfl⟩
theorem find_miss {l : List Tg} {s : ByteArray} (h : NoneTo (fun t : Tg => decide (t.n = s)) l l.length) : find l s = none := by
  unfold find
  rw [List.find?_eq_none]
  intro x hx
  obtain ⟨j, hj, rfl⟩ := List.mem_iff_getElem.1 hx
  have h1 : decide (l[j].n = s) = false := h j hj hj
  rw [h1]; simp
set_option maxHeartbeats 1000000 in
theorem rfind_any (A : Option Addr) (l : List Tg) (c : Nat) (s : ByteArray) (w0 w : World) (hr : Tgs w0 A l) (h0 : Below w0.heap.size w0 w) (hl : l.length ≤ 1000000000) :
    Calls Tryd.prog 17 #[.slice A l.length c, .string s] w (FindSays l s w0 w) := by
  obtain ⟨W2, eW⟩ : ∃ W2, W2 = w.alloc (.cells #[.string ⟨#[]⟩, .string ⟨#[]⟩, .slice none 0 0, .slice none 0 0] 35) := ⟨_, rfl⟩
  have hb2 : Below w.heap.size w W2 := by rw [eW]; exact (Below.refl _ _).alloc (Nat.le_refl _) _
  have k1 : W2.heap[w.heap.size]? = some (.cells #[.string ⟨#[]⟩, .string ⟨#[]⟩, .slice none 0 0, .slice none 0 0] 35 (0, 0)) := by rw [eW]; exact heap_alloc_new w _
  have K2 := Lib.hid k1
  obtain ⟨c0, c1, c2, c3, f0, f1, f2, f3⟩ := Lg.four k1
  have HR := Lib.hid hr
  have hb3 : Below w0.heap.size w0 W2 := h0.trans (hb2.mono h0.size)
  have HIT : Hid (∀ k (hk : k < l.length), NoneTo (fun t : Tg => decide (t.n = s)) l k → l[k].n = s → find l s = some l[k]) := Lib.hid fun k hk h e => find_hit hk h e
  have MISS : Hid (NoneTo (fun t : Tg => decide (t.n = s)) l l.length → find l s = none) := Lib.hid find_miss
  have NEXT : Hid (∀ k (hk : k < l.length), NoneTo (fun t : Tg => decide (t.n = s)) l k → ¬ l[k].n = s → NoneTo (fun t : Tg => decide (t.n = s)) l (k + 1)) := Lib.hid fun k hk h e => h.next hk (decide_eq_false e)
  clear hr k1
  go_enter Tryd.func17, Tryd.ntmps17
  go_wp2_with (fail)
  rw [← eW]
  clear eW
  go_loop [6] (fun i => ∃ k : Nat, i = .int .i64 k ∧ k ≤ l.length ∧ NoneTo (fun t : Tg => decide (t.n = s)) l k) (fun i => l.length - (intOf i).toNat)
  case atStart => exact ⟨0, rfl, by omega, NoneTo.zero _ _⟩
  case round =>
    obtain ⟨k, rfl, hk, ha⟩ := hrel
    have HA := Lib.hid ha
    clear ha
    by_cases hlt : k < l.length
    · have hkI : (k : Int) < (l.length : Int) := by omega
      obtain ⟨ad, rfl, had, hcs⟩ := HR.out (by omega)
      obtain ⟨Ad, cd, As, cs, d0, d1, d2, d3, hd, hs⟩ := hcs k hlt
      have hj : ∀ j, W2.cell? ((ad.add (k * 4)).add j) = w0.cell? ((ad.add (k * 4)).add j) := fun j => hb3.cell (by rw [block_of_add, block_of_add]; exact had)
      have e0 : W2.cell? (ad.add (k * 4)) = some (.string l[k].n) := (hb3.cell (by rw [block_of_add]; exact had)).trans d0
      have e1 : W2.cell? ⟨(ad.add (k * 4)).block, (ad.add (k * 4)).off + 1, none⟩ = some (.string l[k].c) := (hj 1).trans d1
      have e2 : W2.cell? ⟨(ad.add (k * 4)).block, (ad.add (k * 4)).off + 2, none⟩ = some (.slice Ad l[k].ds.length cd) := (hj 2).trans d2
      have e3 : W2.cell? ⟨(ad.add (k * 4)).block, (ad.add (k * 4)).off + 3, none⟩ = some (.slice As l[k].ss.length cs) := (hj 3).trans d3
      have HD := Lib.hid hd
      have HT := Lib.hid hs
      have FH := Lib.hid (HIT.out k hlt HA.out)
      have FN := Lib.hid (NEXT.out k hlt HA.out)
      clear hcs d0 d1 d2 d3 hd hs hj
      generalize l[k] = t at *
      by_cases h : t.n = s
      · have F := Lib.hid (FH.out h)
        have g : (t.n.toList == s.toList) = true := by rw [h]; simp
        clear h FN
        go_wp2_with (fail)
        (try simp only [Exit.inBlock, Exit.then])
        refine bodyPost_ret_by (Lg.results_cell_row2 rfl _ _ w.heap.size 35 _ (0, 0) _ rfl (Lg.set4 K2.out _ _ _ _) rfl rfl (by kernel_rfl)) rfl ?_
        have hbf := Lg.set4_below (g := w.heap.size) hb2 (Nat.le_refl _) (.string t.n) (.string t.c) (.slice Ad t.ds.length cd) (.slice As t.ss.length cs)
        exact ⟨⟨t, Ad, As, cd, cs, by rw [some_isT F.out]; rfl, by rw [F.out]; rfl, HD.out, HT.out⟩, hbf⟩
      · have F := Lib.hid (FN.out h)
        have g := Lg.s_ne h
        clear h FH
        go_wp2_with (fail)
        go_round
        case rel => exact ⟨k + 1, by go_num, by omega, F.out⟩
        case measure => simp [intOf]; omega
    · obtain rfl : k = l.length := by omega
      have F := Lib.hid (MISS.out HA.out)
      go_wp2_with (fail)
      (try simp only [Exit.inBlock, Exit.then])
      refine bodyPost_ret_by (Lg.results_cell_row2 rfl _ _ w.heap.size 35 _ (0, 0) _ rfl (Lg.set4 K2.out _ _ _ _) rfl rfl (by kernel_rfl)) rfl ?_
      refine ⟨⟨zeroT, none, none, 0, 0, by rw [none_isT F.out]; rfl, by rw [F.out]; rfl, Reads.none_, Reads.none_⟩, ?_⟩
      exact Lg.set4_below hb2 (Nat.le_refl _) _ _ _ _
/-- the same, where it is known whether the target is there -/
def FindB (l : List Tg) (s : ByteArray) (b : Bool) (w0 w : World) (e : Ending) (w' : World) : Prop :=
  (∃ (t : Tg) (Ad As : Option Addr) (cd cs : Nat), e = .returned (.tuple #[.agg #[.string t.n, .string t.c, .slice Ad t.ds.length cd, .slice As t.ss.length cs], .bool b]) ∧ t = (find l s).getD zeroT ∧ Strs w0 Ad t.ds ∧ Strs w0 As t.ss) ∧ Below w.heap.size w w'
theorem FindSays.b {l : List Tg} {s : ByteArray} {b : Bool} {w0 w : World} {e : Ending} {w' : World} (hb : isT l s = b) (h : FindSays l s w0 w e w') : FindB l s b w0 w e w' := by
  subst hb; exact h
theorem findB_any (A : Option Addr) (l : List Tg) (c : Nat) (s : ByteArray) (w0 w : World) (hr : Tgs w0 A l) (h0 : Below w0.heap.size w0 w) (hl : l.length ≤ 1000000000) {b : Bool} (hb : isT l s = b) :
    Calls Tryd.prog 16 #[.slice A l.length c, .string s] w (FindB l s b w0 w) := (find_any A l c s w0 w hr h0 hl).mono fun _ _ h => h.b hb
theorem rfindB_any (A : Option Addr) (l : List Tg) (c : Nat) (s : ByteArray) (w0 w : World) (hr : Tgs w0 A l) (h0 : Below w0.heap.size w0 w) (hl : l.length ≤ 1000000000) {b : Bool} (hb : isT l s = b) :
    Calls Tryd.prog 17 #[.slice A l.length c, .string s] w (FindB l s b w0 w) := (rfind_any A l c s w0 w hr h0 hl).mono fun _ _ h => h.b hb
end Go.Proofs.YtoofflnaebkigaaDoor.Gr
