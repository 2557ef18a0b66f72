/- Joined by mkmerged.py: GrFind, GrSorted. -/
import Derived.Test.YtnheahologecfaaGreatDoorMb14
import Derived.Test.YtnheahologecfaaGreatDoorMb03
import Derived.RegionTactic
import Derived.ChangeAlike
/- GrFind, what a claim needs of it (prune.py). -/
namespace Go.Proofs.YtnheahologecfaaGreatDoor.Gr
open Go.RowKit
open Lg (Strs tl)
set_option linter.unusedVariables false
set_option maxRecDepth 100000
theorem find1_any (n c s : ByteArray) (Ad As : Option Addr) (ld cd ls cs B : Nat) (W : World) (hB : B < W.heap.size) (hc : W.cell? ⟨B, 0, none⟩ = some (.string s)) :
    Calls Tryz.prog 84 #[.agg #[.string n, .string c, .slice Ad ld cd, .slice As ls cs], .pointer (some ⟨B, 0, none⟩)] W fun e w' => e = .returned (.bool (decide (n = s))) ∧ Below W.heap.size W w' := by
  have hne : B ≠ W.heap.size := by omega
  by_cases h : n = s
  · have F : Hid (decide (n = s) = true) := Lib.hid (decide_eq_true h)
    subst h
    go_enter Tryz.func84, Tryz.ntmps84
    go_wp2_with (fail)
    go_ret
    exact ⟨Lg.ret_bool F.out, (Below.refl _ _).alloc (Nat.le_refl _) _⟩
  · have F : Hid (decide (n = s) = false) := Lib.hid (decide_eq_false h)
    have g := Lg.s_ne h
    clear h
    go_enter Tryz.func84, Tryz.ntmps84
    go_wp2_with (fail)
    go_ret
    exact ⟨Lg.ret_bool F.out, (Below.refl _ _).alloc (Nat.le_refl _) _⟩
def zeroT : Tg := ⟨⟨#[]⟩, ⟨#[]⟩, [], []⟩
def FindSays (l : List Tg) (s : ByteArray) (w0 w : World) (e : Ending) (w' : World) : Prop :=
  (∃ (t : Tg) (Ad As : Option Addr) (cd cs : Nat), e = .returned (.tuple #[.agg #[.string t.n, .string t.c, .slice Ad t.ds.length cd, .slice As t.ss.length cs], .bool (isT l s)]) ∧ t = (find l s).getD zeroT ∧ Strs w0 Ad t.ds ∧ Strs w0 As t.ss) ∧ Below w.heap.size w w'
theorem none_isT {l : List Tg} {s : ByteArray} (h : find l s = none) : isT l s = false := by unfold isT; rw [h]; rfl
theorem some_isT {l : List Tg} {s : ByteArray} {t : Tg} (h : find l s = some t) : isT l s = true := by unfold isT; rw [h]; rfl
set_option maxHeartbeats 1000000 in
theorem find_any (A : Option Addr) (l : List Tg) (c : Nat) (s : ByteArray) (w0 w : World) (hr : Tgs w0 A l) (h0 : Below w0.heap.size w0 w) (hl : l.length ≤ 1000000000) :
    Calls Tryz.prog 40 #[.slice A l.length c, .string s] w (FindSays l s w0 w) := by
  obtain ⟨W2, eW⟩ : ∃ W2, W2 = (w.alloc (.cells #[.string s] 9)).alloc (.cells #[.string ⟨#[]⟩, .string ⟨#[]⟩, .slice none 0 0, .slice none 0 0] 73) := ⟨_, rfl⟩
  have hb2 : Below w.heap.size w W2 := by rw [eW]; exact ((Below.refl _ _).alloc (Nat.le_refl _) _).alloc (by simp) _
  have hsz : W2.heap.size = w.heap.size + 1 + 1 := by rw [eW]; simp
  have k0 : W2.heap[w.heap.size]? = some (.cells #[.string s] 9 (0, 0)) := by rw [eW]; exact Lg.heap_two
  have k1 : W2.heap[w.heap.size + 1]? = some (.cells #[.string ⟨#[]⟩, .string ⟨#[]⟩, .slice none 0 0, .slice none 0 0] 73 (0, 0)) := by rw [eW]; exact heap_alloc2_new w _ _
  have IX := Lib.hid (indexT_any 84 #[.pointer (some ⟨w.heap.size, 0, none⟩)] (enters_of Tryz.func84 (by kernel_rfl) rfl) (fun t => decide (t.n = s)) A l c W2 ((hr.below h0).below hb2) hl
    (fun k hk Ad cd As cs V hV _ _ => find1_any _ _ _ _ _ _ _ _ _ _ V (by have := hV.size; omega) ((hV.cell (p := ⟨w.heap.size, 0, none⟩) (by show w.heap.size < _; omega)).trans (Lg.cell_at k0 0))))
  have K1 : Hid (∀ W, Below W2.heap.size W2 W → W.heap[w.heap.size + 1]? = some (.cells #[.string ⟨#[]⟩, .string ⟨#[]⟩, .slice none 0 0, .slice none 0 0] 73 (0, 0))) := Lib.hid fun W hW => (hW.block _ (by omega)).trans k1
  have HS := Lib.hid hsz
  have h12 : w.heap.size + 1 < W2.heap.size := by omega
  clear k0 k1 hsz
  rcases idx_cases (fun t : Tg => decide (t.n = s)) l with ⟨e1, e2⟩ | ⟨k, hk, e1, e2, _, _⟩
  · rw [e1] at IX
    have F : Hid (find l s = none) := Lib.hid e2
    clear e1 e2 hr
    go_enter Tryz.func40, Tryz.ntmps40
    go_wp2_with (go_at_call 83; rw [← eW]; (with_reducible refine (IX.out).mono ?_); rintro e w1 ⟨rfl, hb⟩; have K2 := Lib.hid (K1.out _ hb); obtain ⟨c0, c1, c2, c3, f0, f1, f2, f3⟩ := Lg.four (K1.out _ hb); have hs1 := hb.size; clear eW)
    (try simp only [Exit.inBlock, Exit.then])
    refine bodyPost_ret_by (Lg.results_cell_row2 rfl _ _ (w.heap.size + 1) 73 _ (0, 0) _ rfl (Lg.set4 K2.out _ _ _ _) rfl rfl (by kernel_rfl)) rfl ?_
    refine ⟨⟨zeroT, none, none, 0, 0, by rw [none_isT F.out]; rfl, by rw [F.out]; rfl, Reads.none_, Reads.none_⟩, ?_⟩
    exact Lg.set4_below (hb2.trans (hb.mono hb2.size)) (by omega) _ _ _ _
  · rw [e1] at IX
    have F : Hid (find l s = some l[k]) := Lib.hid e2
    clear e1 e2
    have hkI : (k : Int) < (l.length : Int) := by omega
    obtain ⟨ad, rfl, had, hcs⟩ := hr (by omega)
    obtain ⟨Ad, cd, As, cs, d0, d1, d2, d3, hd, hs⟩ := hcs k hk
    have HD := Lib.hid hd
    have HT := Lib.hid hs
    have cat : ∀ (W : World), Below w0.heap.size w0 W → W.cell? (ad.add (k * 4)) = some (.string l[k].n) ∧ W.cell? ⟨(ad.add (k * 4)).block, (ad.add (k * 4)).off + 1, none⟩ = some (.string l[k].c) ∧ W.cell? ⟨(ad.add (k * 4)).block, (ad.add (k * 4)).off + 2, none⟩ = some (.slice Ad l[k].ds.length cd) ∧ W.cell? ⟨(ad.add (k * 4)).block, (ad.add (k * 4)).off + 3, none⟩ = some (.slice As l[k].ss.length cs) := fun W hW =>
      have hk : ∀ j, W.cell? ((ad.add (k * 4)).add j) = w0.cell? ((ad.add (k * 4)).add j) := fun j => hW.cell (by rw [block_of_add, block_of_add]; exact had)
      ⟨(hW.cell (by rw [block_of_add]; exact had)).trans d0, (hk 1).trans d1, (hk 2).trans d2, (hk 3).trans d3⟩
    have CAT := Lib.hid cat
    clear hcs d0 d1 d2 d3 hd hs hr cat
    generalize l[k] = t at *
    go_enter Tryz.func40, Tryz.ntmps40
    go_wp2_with (go_at_call 83; rw [← eW]; (with_reducible refine (IX.out).mono ?_); rintro e w1 ⟨rfl, hb⟩; have K2 := Lib.hid (K1.out _ hb); obtain ⟨c0, c1, c2, c3, f0, f1, f2, f3⟩ := Lg.four (K1.out _ hb); have hs1 := hb.size; clear eW; have hbw := hb2.trans (hb.mono hb2.size); obtain ⟨e0, e1, e2, e3⟩ := CAT.out _ (h0.trans (hbw.mono h0.size)))
    (try simp only [Exit.inBlock, Exit.then])
    refine bodyPost_ret_by (Lg.results_cell_row2 rfl _ _ (w.heap.size + 1) 73 _ (0, 0) _ rfl (Lg.set4 K2.out _ _ _ _) rfl rfl (by kernel_rfl)) rfl ?_
    have hbf := Lg.set4_below (g := w.heap.size + 1) hbw (by omega) (.string t.n) (.string t.c) (.slice Ad t.ds.length cd) (.slice As t.ss.length cs)
    exact ⟨⟨t, Ad, As, cd, cs, by rw [some_isT F.out]; rfl, by rw [F.out]; rfl, HD.out, HT.out⟩, hbf⟩
theorem find_hit {l : List Tg} {s : ByteArray} {k : Nat} (hk : k < l.length) (h : NoneTo (fun t : Tg => decide (t.n = s)) l k) (e : l[k].n = s) : find l s = some l[k] := by
  unfold find
  rw [List.find?_eq_some_iff_getElem]
  exact ⟨decide_eq_true e, k, hk, rfl, fun j hj => by
    have h1 : decide (l[j].n = s) = false := h j (by omega) hj
    rw [h1]; rfl⟩
theorem find_miss {l : List Tg} {s : ByteArray} (h : NoneTo (fun t : Tg => decide (t.n = s)) l l.length) : find l s = none := by
  unfold find
  rw [List.find?_eq_none]
  intro x hx
  obtain ⟨j, hj, rfl⟩ := List.mem_iff_getElem.1 hx
  have h1 : decide (l[j].n = s) = false := h j hj hj
  rw [h1]; simp
set_option maxHeartbeats 1000000 in
theorem rfind_any (A : Option Addr) (l : List Tg) (c : Nat) (s : ByteArray) (w0 w : World) (hr : Tgs w0 A l) (h0 : Below w0.heap.size w0 w) (hl : l.length ≤ 1000000000) :
    Calls Tryz.prog 91 #[.slice A l.length c, .string s] w (FindSays l s w0 w) := by
  obtain ⟨W2, eW⟩ : ∃ W2, W2 = w.alloc (.cells #[.string ⟨#[]⟩, .string ⟨#[]⟩, .slice none 0 0, .slice none 0 0] 73) := ⟨_, rfl⟩
  have hb2 : Below w.heap.size w W2 := by rw [eW]; exact (Below.refl _ _).alloc (Nat.le_refl _) _
  have k1 : W2.heap[w.heap.size]? = some (.cells #[.string ⟨#[]⟩, .string ⟨#[]⟩, .slice none 0 0, .slice none 0 0] 73 (0, 0)) := by rw [eW]; exact heap_alloc_new w _
  have K2 := Lib.hid k1
  obtain ⟨c0, c1, c2, c3, f0, f1, f2, f3⟩ := Lg.four k1
  have HR := Lib.hid hr
  have hb3 : Below w0.heap.size w0 W2 := h0.trans (hb2.mono h0.size)
  have HIT : Hid (∀ k (hk : k < l.length), NoneTo (fun t : Tg => decide (t.n = s)) l k → l[k].n = s → find l s = some l[k]) := Lib.hid fun k hk h e => find_hit hk h e
  have MISS : Hid (NoneTo (fun t : Tg => decide (t.n = s)) l l.length → find l s = none) := Lib.hid find_miss
  have NEXT : Hid (∀ k (hk : k < l.length), NoneTo (fun t : Tg => decide (t.n = s)) l k → ¬ l[k].n = s → NoneTo (fun t : Tg => decide (t.n = s)) l (k + 1)) := Lib.hid fun k hk h e => h.next hk (decide_eq_false e)
  clear hr k1
  go_enter Tryz.func91, Tryz.ntmps91
  go_wp2_with (fail)
  rw [← eW]
  clear eW
  go_loop [6] (fun i => ∃ k : Nat, i = .int .i64 k ∧ k ≤ l.length ∧ NoneTo (fun t : Tg => decide (t.n = s)) l k) (fun i => l.length - (intOf i).toNat)
  case atStart => exact ⟨0, rfl, by omega, NoneTo.zero _ _⟩
  case round =>
    obtain ⟨k, rfl, hk, ha⟩ := hrel
    have HA := Lib.hid ha
    clear ha
    by_cases hlt : k < l.length
    · have hkI : (k : Int) < (l.length : Int) := by omega
      obtain ⟨ad, rfl, had, hcs⟩ := HR.out (by omega)
      obtain ⟨Ad, cd, As, cs, d0, d1, d2, d3, hd, hs⟩ := hcs k hlt
      have hj : ∀ j, W2.cell? ((ad.add (k * 4)).add j) = w0.cell? ((ad.add (k * 4)).add j) := fun j => hb3.cell (by rw [block_of_add, block_of_add]; exact had)
      have e0 : W2.cell? (ad.add (k * 4)) = some (.string l[k].n) := (hb3.cell (by rw [block_of_add]; exact had)).trans d0
      have e1 : W2.cell? ⟨(ad.add (k * 4)).block, (ad.add (k * 4)).off + 1, none⟩ = some (.string l[k].c) := (hj 1).trans d1
      have e2 : W2.cell? ⟨(ad.add (k * 4)).block, (ad.add (k * 4)).off + 2, none⟩ = some (.slice Ad l[k].ds.length cd) := (hj 2).trans d2
      have e3 : W2.cell? ⟨(ad.add (k * 4)).block, (ad.add (k * 4)).off + 3, none⟩ = some (.slice As l[k].ss.length cs) := (hj 3).trans d3
      have HD := Lib.hid hd
      have HT := Lib.hid hs
      have FH := Lib.hid (HIT.out k hlt HA.out)
      have FN := Lib.hid (NEXT.out k hlt HA.out)
      clear hcs d0 d1 d2 d3 hd hs hj
      generalize l[k] = t at *
      by_cases h : t.n = s
      · have F := Lib.hid (FH.out h)
        have g : (t.n.toList == s.toList) = true := by rw [h]; simp
        clear h FN
        go_wp2_with (fail)
        (try simp only [Exit.inBlock, Exit.then])
        refine bodyPost_ret_by (Lg.results_cell_row2 rfl _ _ w.heap.size 73 _ (0, 0) _ rfl (Lg.set4 K2.out _ _ _ _) rfl rfl (by kernel_rfl)) rfl ?_
        have hbf := Lg.set4_below (g := w.heap.size) hb2 (Nat.le_refl _) (.string t.n) (.string t.c) (.slice Ad t.ds.length cd) (.slice As t.ss.length cs)
        exact ⟨⟨t, Ad, As, cd, cs, by rw [some_isT F.out]; rfl, by rw [F.out]; rfl, HD.out, HT.out⟩, hbf⟩
      · have F := Lib.hid (FN.out h)
        have g := Lg.s_ne h
        clear h FH
        go_wp2_with (fail)
        go_round
        case rel => exact ⟨k + 1, by go_num, by omega, F.out⟩
        case measure => simp [intOf]; omega
    · obtain rfl : k = l.length := by omega
      have F := Lib.hid (MISS.out HA.out)
      go_wp2_with (fail)
      (try simp only [Exit.inBlock, Exit.then])
      refine bodyPost_ret_by (Lg.results_cell_row2 rfl _ _ w.heap.size 73 _ (0, 0) _ rfl (Lg.set4 K2.out _ _ _ _) rfl rfl (by kernel_rfl)) rfl ?_
      refine ⟨⟨zeroT, none, none, 0, 0, by rw [none_isT F.out]; rfl, by rw [F.out]; rfl, Reads.none_, Reads.none_⟩, ?_⟩
      exact Lg.set4_below hb2 (Nat.le_refl _) _ _ _ _
def FindB (l : List Tg) (s : ByteArray) (b : Bool) (w0 w : World) (e : Ending) (w' : World) : Prop :=
  (∃ (t : Tg) (Ad As : Option Addr) (cd cs : Nat), e = .returned (.tuple #[.agg #[.string t.n, .string t.c, .slice Ad t.ds.length cd, .slice As t.ss.length cs], .bool b]) ∧ t = (find l s).getD zeroT ∧ Strs w0 Ad t.ds ∧ Strs w0 As t.ss) ∧ Below w.heap.size w w'
theorem FindSays.b {l : List Tg} {s : ByteArray} {b : Bool} {w0 w : World} {e : Ending} {w' : World} (hb : isT l s = b) (h : FindSays l s w0 w e w') : FindB l s b w0 w e w' := by
  subst hb; exact h
theorem findB_any (A : Option Addr) (l : List Tg) (c : Nat) (s : ByteArray) (w0 w : World) (hr : Tgs w0 A l) (h0 : Below w0.heap.size w0 w) (hl : l.length ≤ 1000000000) {b : Bool} (hb : isT l s = b) :
    Calls Tryz.prog 40 #[.slice A l.length c, .string s] w (FindB l s b w0 w) := (find_any A l c s w0 w hr h0 hl).mono fun _ _ h => h.b hb
theorem rfindB_any (A : Option Addr) (l : List Tg) (c : Nat) (s : ByteArray) (w0 w : World) (hr : Tgs w0 A l) (h0 : Below w0.heap.size w0 w) (hl : l.length ≤ 1000000000) {b : Bool} (hb : isT l s = b) :
    Calls Tryz.prog 91 #[.slice A l.length c, .string s] w (FindB l s b w0 w) := (rfind_any A l c s w0 w hr h0 hl).mono fun _ _ h => h.b hb
end Go.Proofs.YtnheahologecfaaGreatDoor.Gr
/- GrSorted, what a claim needs of it (prune.py). -/
namespace Go.Proofs.YtnheahologecfaaGreatDoor.Gr
open Go.RowKit
open Lg (Strs tl)
set_option linter.unusedVariables false
set_option maxRecDepth 100000
theorem s11_any (d : ByteArray) (B m n : Nat) (S : List ByteArray) (W : World) (hc : W.cell? ⟨B, 0, none⟩ = some (.map (some m))) (hS : Ss.SetAt W m n S) (hd : d.size ≤ maxLen) :
    Calls Tryz.prog 140 #[.string d, .pointer (some ⟨B, 0, none⟩)] W fun e w' => e = .returned (.bool (!has S d)) ∧ Below W.heap.size W w' := by
  have LK := hS.look hd
  clear hS
  generalize has S d = q at *
  go_enter Tryz.func140, Tryz.ntmps140
  go_wp2_with (fail)
  go_ret
  exact ⟨rfl, Below.refl _ _⟩
theorem any_not (S l : List ByteArray) : l.any (fun d => !has S d) = !(l.all fun d => has S d) := by
  rw [List.not_all_eq_any_not]
theorem ready_any (t : Tg) (Ad As : Option Addr) (cd cs B m n : Nat) (S : List ByteArray) (W : World) (hB : B < W.heap.size) (hc : W.cell? ⟨B, 0, none⟩ = some (.map (some m))) (hS : Ss.SetAt W m n S) (hf : Fits t) (hd : Strs W Ad t.ds) :
    Calls Tryz.prog 139 #[.agg #[.string t.n, .string t.c, .slice Ad t.ds.length cd, .slice As t.ss.length cs], .pointer (some ⟨B, 0, none⟩)] W fun e w' => e = .returned (.bool (ready S t)) ∧ Below W.heap.size W w' := by
  obtain ⟨W1, eW⟩ : ∃ W1, W1 = W.alloc (.cells #[.string t.n, .string t.c, .slice Ad t.ds.length cd, .slice As t.ss.length cs] 73) := ⟨_, rfl⟩
  have hb1 : Below W.heap.size W W1 := by rw [eW]; exact (Below.refl _ _).alloc (Nat.le_refl _) _
  have hblk : W1.heap[W.heap.size]? = some (.cells #[.string t.n, .string t.c, .slice Ad t.ds.length cd, .slice As t.ss.length cs] 73 (0, 0)) := by rw [eW]; exact heap_alloc_new W _
  obtain ⟨c0, _, c2, _, _, _, _, _⟩ := Lg.four hblk
  have hS1 := hS.later hb1
  have hc1 : W1.cell? ⟨B, 0, none⟩ = some (.map (some m)) := (hb1.cell (p := ⟨B, 0, none⟩) hB).trans hc
  have LK := hS1.look (s := t.n) (by have := hf.n; unfold maxLen; omega)
  have CF := Lib.hid (containsS_any 140 #[.pointer (some ⟨B, 0, none⟩)] (enters_of Tryz.func140 (by kernel_rfl) rfl) (fun d => !has S d) Ad t.ds cd W1 (hd.below hb1) (by have := hf.dl; omega)
    (fun s hs V hV => s11_any s B m n S V ((hV.cell (p := ⟨B, 0, none⟩) (Nat.lt_of_lt_of_le hB hb1.size)).trans hc1) (hS1.later hV) (by have := hf.d s hs; unfold maxLen; omega)))
  rw [any_not] at CF
  have RE : Hid (ready S t = (!has S t.n && t.ds.all fun d => has S d)) := Lib.hid rfl
  have hne : B ≠ W.heap.size := by omega
  clear hS hS1 hd hf c0 c2 hblk hc1 hb1
  subst eW
  generalize (t.ds.all fun d => has S d) = q at *
  cases h : has S t.n
  · rw [h] at LK RE
    clear h
    go_enter Tryz.func139, Tryz.ntmps139
    go_wp2_with (go_at_call 137; ((with_reducible refine (CF.out).mono ?_); rintro e w1 ⟨rfl, hb⟩))
    go_ret
    exact ⟨Lg.ret_bool (by rw [RE.out]; simp), ((Below.refl _ _).alloc (Nat.le_refl _) _).trans (hb.mono (by simp))⟩
  · rw [h] at LK RE
    clear h CF
    go_enter Tryz.func139, Tryz.ntmps139
    go_wp2_with (fail)
    go_ret
    exact ⟨Lg.ret_bool (by rw [RE.out]; simp), (Below.refl _ _).alloc (Nat.le_refl _) _⟩
def ListSays (m : List ByteArray) (w : World) (e : Ending) (w' : World) : Prop := (∃ A c, e = .returned (.slice A m.length c) ∧ m.length ≤ c ∧ Strs w' A m) ∧ Below w.heap.size w w'
theorem ready_congr {S S' : List ByteArray} (h : ∀ x, has S x = has S' x) : ready S = ready S' := by
  funext t
  unfold ready
  have : (fun d => has S d) = fun d => has S' d := funext h
  rw [h, this]
theorem own_ans {B : Nat} {v : Value} {k : Nat} {w0 w : World} {m : List ByteArray} (h : w.ownsRow B 9 1 v k (m.map Value.string)) (hk : m.length = k) (hb : Below w0.heap.size w0 w) : ListSays m w0 (.returned v) w := by
  subst hk
  obtain ⟨A, c, rfl, h1, h2⟩ := Lg.own_strs h
  exact ⟨⟨A, c, rfl, h1, h2⟩, hb⟩
def sliceLen : Value → Nat
  | .slice _ n _ => n
  | _ => 0
theorem own_len {w : World} {B : Nat} {e : TypeId} {size : Nat} {v : Value} {n : Nat} {xs : List Value} (h : w.ownsRow B e size v n xs) : sliceLen v = n := by
  rcases h.2 with ⟨rfl, h0⟩ | ⟨g, cap, cur, rfl, _⟩
  · exact h0.symm
  · rfl
structure So (w : World) (l : List Tg) (k : Nat) (S : List ByteArray) (v : Value) (wx : World) : Prop where
  same : ∀ x, has S x = has (stage l k) x
  len : (stage l k).length = k
  own : wx.ownsRow (w.heap.size + 2) 9 1 v k ((stage l k).map Value.string)
  set : Ss.SetAt wx w.heap.size k S
  cell : wx.heap[w.heap.size + 1]? = some (.cells #[.map (some w.heap.size)] 127 (0, 0))
  below : Below w.heap.size w wx
  size : w.heap.size + 2 ≤ wx.heap.size
theorem own_later {w w' : World} {B : Nat} {e : TypeId} {size : Nat} {v : Value} {n : Nat} {xs : List Value} (h : w.ownsRow B e size v n xs) (k : Below w.heap.size w w') : w'.ownsRow B e size v n xs := by
  refine ⟨h.1, ?_⟩
  rcases h.2 with h0 | ⟨g, cap, cur, hv, hg, hc, h1, h2, h3, h4⟩
  · exact .inl h0
  · exact .inr ⟨g, cap, cur, hv, hg, (k.block _ (Lg.lt_heap hc)).trans hc, h1, h2, h3, h4⟩
theorem So.later {w wx wy : World} {l : List Tg} {k : Nat} {S : List ByteArray} {v : Value} (h : So w l k S v wx) (hb : Below wx.heap.size wx wy) : So w l k S v wy :=
  ⟨h.same, h.len, own_later h.own hb, h.set.later hb, (hb.block _ (Lg.lt_heap h.cell)).trans h.cell, h.below.trans (hb.mono h.below.size), by have := hb.size; have := h.size; omega⟩
theorem So.next {w wr w2 : World} {l : List Tg} {k : Nat} {S : List ByteArray} {v v2 : Value} {o : Obj} {x : ByteArray} (h : So w l k S v wr) (hg : (wr.alloc o).grownBy w2 v.ownBlock) (hown : w2.ownsRow (w.heap.size + 2) 9 1 v2 (k + 1) ((stage l k).map Value.string ++ [.string x]))
    (hx : x.size ≤ maxLen) (hk : k < maxLen) (hs : stage l (k + 1) = stage l k ++ [x]) :
    w2.cell? ⟨w.heap.size + 1, 0, none⟩ = some (.map (some w.heap.size)) ∧ Below w.heap.size w w2 ∧ ∃ w3, (Instr.mapUpdate 127 (.map (some w.heap.size)) (.string x) (.bool true)).run Tryz.prog w2.drew = .ok () w3 ∧ So w l (k + 1) (x :: S) v2 w3 := by
  have hb2 : Below w.heap.size w w2 := (h.below.alloc h.below.size o).grown hg (by have := h.size; simp; omega) (fun j hj => by have := (h.own.lt j hj).1; omega)
  have hne : ∀ j, j < w.heap.size + 2 → some j ≠ v.ownBlock := fun j hj e => by have := (h.own.lt j e.symm).1; omega
  have hS2 : Ss.SetAt w2 w.heap.size k S := (h.set.alloc o).grown hg (hne _ (by omega))
  have hc2 : w2.heap[w.heap.size + 1]? = some (.cells #[.map (some w.heap.size)] 127 (0, 0)) :=
    (hg.block _ (by have := h.size; simp; omega) (hne _ (by omega))).trans ((Below.heap_alloc _ _ _ (by have := h.size; omega)).trans h.cell)
  obtain ⟨w3, hput, hS3, hg3⟩ := Ss.SetAt.put (w := w2.drew) hS2 hk hx
  refine ⟨Lg.cell_at hc2 0, hb2, w3, hput, ?_, by rw [hs, List.length_append, h.len]; rfl, ?_, hS3, ?_, ?_, ?_⟩
  · intro y
    rw [Ss.has_cons, hs, h.same y]
    simp only [has, List.any_append, List.any_cons, List.any_nil, Bool.or_false]
    rw [Bool.or_comm]
  · rw [hs, List.map_append]
    refine ⟨hown.1, ?_⟩
    rcases hown.2 with h0 | ⟨g, cap, cur, hv, hgB, hc, h1, h2, h3, h4⟩
    · exact .inl h0
    · exact .inr ⟨g, cap, cur, hv, hgB, (hg3.block _ (Lg.lt_heap hc) (fun e => by injection e with e; omega)).trans hc, h1, h2, h3, h4⟩
  · exact (hg3.block _ (Lg.lt_heap hc2) (fun e => by injection e with e; omega)).trans hc2
  · exact (hb2.drew).grown hg3 hb2.size (fun j e => by injection e with e; omega)
  · have h1 := hg3.size
    have h2 := Lg.lt_heap hc2
    have h3 : w2.drew.heap.size = w2.heap.size := rfl
    omega
set_option maxHeartbeats 2000000 in
theorem sorted_any (A : Option Addr) (l : List Tg) (c : Nat) (w : World) (hr : Tgs w A l) (hl : l.length ≤ 1000) (hf : ∀ t ∈ l, Fits t) :
    Calls Tryz.prog 76 #[.slice A l.length c] w (ListSays (order l) w) := by
  obtain ⟨i0, hi, hz0, hz1, hz2⟩ := Lg.info_parts Lg.infoS
  have hmm := @run_makeMap Tryz.prog
  have IX : Hid (∀ W, Below w.heap.size w W → ∀ n S, Ss.SetAt W w.heap.size n S → W.heap[w.heap.size + 1]? = some (.cells #[.map (some w.heap.size)] 127 (0, 0)) → Calls Tryz.prog 83 #[.slice A l.length c, .func (.func 139) #[] #[.pointer (some ⟨w.heap.size + 1, 0, none⟩)]] W fun e w' => e = .returned (.int .i64 (idx (ready S) l)) ∧ Below W.heap.size W w') :=
    Lib.hid fun W hW n S hS hc => indexT_any 139 _ (enters_of Tryz.func139 (by kernel_rfl) rfl) (ready S) A l c W (hr.below hW) (by omega)
      (fun k hk Ad cd As cs V hV hd hs => by
        have hlt := Lg.lt_heap hc
        refine (ready_any l[k] Ad As cd cs (w.heap.size + 1) w.heap.size n S V (by have := hV.size; omega) ((hV.cell (p := ⟨w.heap.size + 1, 0, none⟩) hlt).trans (Lg.cell_at hc 0)) (hS.later hV) (hf _ (List.getElem_mem hk)) hd))
  have NM : Hid (∀ W, Below w.heap.size w W → 0 < l.length → ∃ ad, A = some ad ∧ ∀ k (hk : k < l.length), W.cell? (ad.add (k * 4)) = some (.string l[k].n)) := Lib.hid fun W hW hl => by
    obtain ⟨ad, e, had, hcs⟩ := hr.below hW hl
    refine ⟨ad, e, fun k hk => ?_⟩
    obtain ⟨_, _, _, _, h, _⟩ := hcs k hk
    exact h
  have SZ : Hid (∀ k (hk : k < l.length), l[k].n.size ≤ maxLen) := Lib.hid fun k hk => by have := (hf _ (List.getElem_mem hk)).n; unfold maxLen; omega
  have OS : Hid (∀ k, k ≤ l.length → l.find? (ready (stage l k)) = none → order l = stage l k) := Lib.hid fun k hk h => order_of_stop hk h
  have SN : Hid (∀ k t, l.find? (ready (stage l k)) = some t → stage l (k + 1) = stage l k ++ [t.n]) := Lib.hid fun k t h => stage_next h
  have SL : Hid (∀ k, (stage l k).length ≤ l.length) := Lib.hid fun k => stage_le l k
  obtain ⟨W0, eW⟩ : ∃ W0, W0 = (w.alloc (.map #[] 0)).alloc (.cells #[.map (some w.heap.size)] 127) := ⟨_, rfl⟩
  have hb0 : Below w.heap.size w W0 := by rw [eW]; exact ((Below.refl _ _).alloc (Nat.le_refl _) _).alloc (by simp) _
  have k1 : W0.heap[w.heap.size + 1]? = some (.cells #[.map (some w.heap.size)] 127 (0, 0)) := by rw [eW]; exact heap_alloc2_new w _ _
  have hS0 : Ss.SetAt W0 w.heap.size 0 [] := by rw [eW]; exact (Ss.SetAt.made w).alloc _
  have S0 : Hid (So w l 0 [] (.slice none 0 0) W0) := Lib.hid ⟨fun _ => rfl, rfl, World.ownsRow_nil _ _ _ _, hS0, k1, hb0, by have := Lg.lt_heap k1; omega⟩
  have C0 := Lib.hid (IX.out W0 hb0 0 [] hS0 k1)
  clear hr hf hS0 k1
  go_enter Tryz.func76, Tryz.ntmps76
  go_wp2_with (go_at_call 83; rw [← eW]; (with_reducible refine (C0.out).mono ?_); rintro e w1 ⟨rfl, hb1⟩; clear eW)
  go_loopw [3, 6] (fun v i wx => ∃ (k : Nat) (S : List ByteArray), i = .int .i64 (idx (ready S) l) ∧ So w l k S v wx) (fun v _ _ => l.length - sliceLen v)
  case atStart => exact ⟨0, [], rfl, S0.out.later hb1⟩
  case round =>
    obtain ⟨k, S, rfl, hs⟩ := hrel
    have HS := Lib.hid hs
    have hre := ready_congr hs.same
    have hkl : k ≤ l.length := by have := SL.out k; rw [hs.len] at this; exact this
    clear hs
    rcases idx_cases (ready S) l with ⟨e1, e2⟩ | ⟨j, hj, e1, e2, _, _⟩
    · rw [hre] at e2
      have F := Lib.hid (OS.out k hkl e2)
      rw [e1]
      clear e1 e2 hre
      go_wp2_with (fail)
      go_ret
      rw [F.out]
      exact own_ans HS.out.own HS.out.len HS.out.below
    · rw [hre] at e2
      have SX := Lib.hid (SN.out k _ e2)
      rw [e1]
      have hk1 : k + 1 ≤ l.length := by have := SL.out (k + 1); rw [SX.out, List.length_append, HS.out.len] at this; simpa using this
      clear e1 e2 hre
      have hjI : (j : Int) < (l.length : Int) := by omega
      obtain ⟨ad, rfl, hcn⟩ := NM.out _ HS.out.below (by omega)
      have hc0 := hcn j hj
      have NJ : Hid (∀ W, Below w.heap.size w W → W.cell? (ad.add (j * 4)) = some (.string l[j].n)) := Lib.hid fun W hW => by
        obtain ⟨ad', e, h⟩ := NM.out W hW (by omega)
        injection e with e; subst e
        exact h j hj
      have hxz := SZ.out j hj
      clear hcn
      generalize l[j] = t at *
      have hkm : k < maxLen := by unfold maxLen; omega
      have hown := HS.out.own
      have hsz := HS.out.size
      go_wp2_with (at_builtin; refine wpList_append_any _ rfl (.tmp 17) (.tmp 23) _ rfl (w.heap.size + 2) 9 i0 _ 1 16 Tryz.underlying38 hi hz0 hz1 hz2 rfl (by omega) _ k _ rfl (hown.alloc _) _ (some ⟨wr.heap.size, 0, none⟩) 1 1 [.string t.n] rfl (Lg.reads_one (heap_alloc_new wr _)) (Lg.mem1 rfl) (by simp only [maxLen]; omega) (by omega) (by simp; omega) ?_; intro v2 w2 hown2 hg2 hat2; obtain ⟨cm, hb2, w3, hput, hs3⟩ := HS.out.next hg2 hown2 hxz hkm SX.out; have cn := NJ.out _ hb2; have HS3 := Lib.hid hs3; clear hs3 hown2 hg2 hat2 hown)
      go_region
      have C3 := Lib.hid (IX.out w3 HS3.out.below _ _ HS3.out.set HS3.out.cell)
      go_wp2_with (go_at_call 83; (with_reducible refine (C3.out).mono ?_); rintro e w4 ⟨rfl, hb4⟩)
      go_roundw
      case rel => exact ⟨k + 1, t.n :: S, rfl, HS3.out.later hb4⟩
      case measure =>
        have m1 := own_len HS.out.own
        have m2 := own_len HS3.out.own
        omega
end Go.Proofs.YtnheahologecfaaGreatDoor.Gr
namespace Go.Proofs.YtnheahologecfaaGreatDoor.Gr
open Go.RowKit
open Lg (Strs tl)
set_option linter.unusedVariables false
set_option maxRecDepth 100000
structure Or (w : World) (l : List Tg) (k : Nat) (v : Value) (wx : World) : Prop where
  len : (stage l k).length = k
  own : wx.ownsRow w.heap.size 9 1 v (stage l k).length ((stage l k).map Value.string)
  below : Below w.heap.size w wx
theorem Or.next {w wr w2 : World} {l : List Tg} {k : Nat} {v v2 : Value} {o : Obj} {x : ByteArray} (h : Or w l k v wr) (hg : (wr.alloc o).grownBy w2 v.ownBlock) (hown : w2.ownsRow w.heap.size 9 1 v2 ((stage l k).length + 1) ((stage l k).map Value.string ++ [.string x]))
    (hs : stage l (k + 1) = stage l k ++ [x]) : Or w l (k + 1) v2 w2 := by
  refine ⟨by rw [hs, List.length_append, h.len]; rfl, ?_, (h.below.alloc h.below.size o).grown hg (by have := h.below.size; simp; omega) (fun j hj => (h.own.lt j hj).1)⟩
  rw [hs, List.map_append, List.length_append]
  exact hown
theorem Or.dec {w wo : World} {l : List Tg} {k : Nat} {v : Value} (h : Or w l k v wo) {v' : Value} {w' : World} (h' : Or w l (k + 1) v' w') : l.length - sliceLen v' < l.length - sliceLen v := by
  have m1 := own_len h.own
  have m2 := own_len h'.own
  have m3 := h.len
  have m4 := h'.len
  have m5 := stage_le l (k + 1)
  omega
def readyTo (out : List ByteArray) (t : Tg) (n : Nat) : Bool := !has out t.n && (t.ds.take n).all fun d => has out d
theorem readyTo_next {out : List ByteArray} {t : Tg} {n : Nat} (hn : n < t.ds.length) : readyTo out t (n + 1) = (readyTo out t n && has out t.ds[n]) := by
  unfold readyTo
  rw [List.take_succ_eq_append_getElem hn, List.all_append, List.all_cons, List.all_nil, Bool.and_true, Bool.and_assoc]
theorem readyTo_zero (out : List ByteArray) (t : Tg) : readyTo out t 0 = !has out t.n := by simp [readyTo]
theorem readyTo_end (out : List ByteArray) (t : Tg) : readyTo out t t.ds.length = ready out t := by simp [readyTo, ready]
set_option maxHeartbeats 2000000 in
theorem order_any (A : Option Addr) (l : List Tg) (c : Nat) (w : World) (hr : Tgs w A l) (hl : l.length ≤ 1000) (hf : ∀ t ∈ l, Fits t) :
    Calls Tryz.prog 146 #[.slice A l.length c] w (ListSays (order l) w) := by
  obtain ⟨i0, hi, hz0, hz1, hz2⟩ := Lg.info_parts Lg.infoS
  have RD : Hid (∀ W, Below w.heap.size w W → Tgs W A l) := Lib.hid fun W hW => hr.below hW
  have FT := Lib.hid hf
  have OS : Hid (∀ k, k ≤ l.length → NoneTo (ready (stage l k)) l l.length → order l = stage l k) := Lib.hid fun k hk h => order_of_stop hk (by
    rw [List.find?_eq_none]
    intro x hx
    obtain ⟨j, hj, rfl⟩ := List.mem_iff_getElem.1 hx
    rw [h j hj hj]; simp)
  have SN : Hid (∀ k j (hj : j < l.length), NoneTo (ready (stage l k)) l j → ready (stage l k) l[j] = true → stage l (k + 1) = stage l k ++ [l[j].n]) := Lib.hid fun k j hj h e => stage_next (by
    rw [List.find?_eq_some_iff_getElem]
    exact ⟨e, j, hj, rfl, fun i hi => by rw [h i (by omega) hi]; rfl⟩)
  have SL : Hid (∀ k, (stage l k).length ≤ l.length) := Lib.hid fun k => stage_le l k
  clear hr hf
  go_enter Tryz.func146, Tryz.ntmps146
  go_wp2_with (fail)
  go_loopw [3] (fun v wx => ∃ k : Nat, Or w l k v wx) (fun v _ => l.length - sliceLen v)
  case atStart => exact ⟨0, rfl, World.ownsRow_nil _ _ _ _, Below.refl _ _⟩
  case round =>
    obtain ⟨k, hs⟩ := hrel
    have HS := Lib.hid hs
    clear hs
    obtain ⟨wo, rfl⟩ : ∃ wo : World, wo = wr := ⟨_, rfl⟩
    go_wp2_with (fail)
    go_loopw [3, 4, 5] (fun v b i wx => ∃ j : Nat, i = .int .i64 j ∧ j ≤ l.length ∧ ((b = .bool false ∧ Or w l k v wx ∧ NoneTo (ready (stage l k)) l j) ∨ (b = .bool true ∧ Or w l (k + 1) v wx))) (fun _ _ i _ => l.length - (intOf i).toNat)
    case atStart => exact ⟨0, rfl, by omega, .inl ⟨rfl, HS.out, NoneTo.zero _ _⟩⟩
    case round =>
      obtain ⟨j, rfl, hj, ⟨rfl, hs, hn⟩ | ⟨rfl, hs⟩⟩ := hrel
      · have HV := Lib.hid hs
        have HN := Lib.hid hn
        obtain ⟨A2, c2, rfl, hc2, hst⟩ := Lg.own_strs hs.own
        have ST := Lib.hid hst
        have hkl : (stage l k).length ≤ 1000 := by have := SL.out k; omega
        clear hs hn hst
        by_cases hlt : j < l.length
        · have hjI : (j : Int) < (l.length : Int) := by omega
          obtain ⟨ad, rfl, had, hcs⟩ := RD.out _ HV.out.below (by omega)
          obtain ⟨Ad, cd, As, cs, d0, d1, d2, d3, hd, hss⟩ := hcs j hlt
          have e2 : wr.cell? ⟨(ad.add (j * 4)).block, (ad.add (j * 4)).off + 2, none⟩ = some (.slice Ad l[j].ds.length cd) := d2
          have FJ := FT.out _ (List.getElem_mem hlt)
          have hdl := FJ.dl
          have NX := Lib.hid (HN.out.next hlt)
          have HIT := Lib.hid (SN.out k j hlt HN.out)
          clear hcs d1 d2 d3 hss FJ
          generalize l[j] = t at *
          have R0 := Lib.hid (readyTo_zero (stage l k) t)
          have RE := Lib.hid (readyTo_end (stage l k) t)
          have RN : Hid (∀ n (hn : n < t.ds.length), readyTo (stage l k) t (n + 1) = (readyTo (stage l k) t n && has (stage l k) t.ds[n])) := Lib.hid fun n hn => readyTo_next hn
          have H0 := Lib.hid (rhas_any A2 (stage l k) c2 t.n wr ST.out (by omega))
          have HD := Lib.hid hd
          clear hd
          go_wp2_with (go_at_call 206; (with_reducible refine (H0.out).mono ?_); rintro e w' ⟨rfl, rfl⟩)
          go_loop [6, 7] (fun r q => ∃ n : Nat, q = .int .i64 n ∧ n ≤ t.ds.length ∧ r = .bool (readyTo (stage l k) t n)) (fun _ q => t.ds.length - (intOf q).toNat)
          case atStart => exact ⟨0, rfl, by omega, by rw [R0.out]⟩
          case round =>
            obtain ⟨n, rfl, hn, rfl⟩ := hrel
            by_cases hnt : n < t.ds.length
            · have hnI : (n : Int) < (t.ds.length : Int) := by omega
              have RX := Lib.hid (RN.out n hnt)
              obtain ⟨bd, rfl, _, hc⟩ := HD.out.at_ hnt
              have H1 := Lib.hid (rhas_any A2 (stage l k) c2 t.ds[n] wr ST.out (by omega))
              generalize t.ds[n] = x at *
              cases er : readyTo (stage l k) t n
              · go_wp2_with (fail)
                go_round
                case rel => exact ⟨n + 1, by go_num, by omega, by rw [RX.out, er]; rfl⟩
                case measure => simp [intOf]; omega
              · go_wp2_with (go_at_call 206; (with_reducible refine (H1.out).mono ?_); rintro e w' ⟨rfl, rfl⟩)
                go_round
                case rel => exact ⟨n + 1, by go_num, by omega, by rw [RX.out, er]; rfl⟩
                case measure => simp [intOf]; omega
            · obtain rfl : n = t.ds.length := by omega
              cases er : readyTo (stage l k) t t.ds.length
              · have F := Lib.hid (NX.out (RE.out.symm.trans er))
                clear NX HIT
                go_wp2_with (fail)
                go_roundw
                case rel => exact ⟨j + 1, by go_num, by omega, .inl ⟨rfl, HV.out, F.out⟩⟩
                case measure => simp [intOf]; omega
              · have F := Lib.hid (HIT.out (RE.out.symm.trans er))
                clear NX HIT
                have hown := HV.out.own
                have hsz := HV.out.below.size
                go_wp2_with (at_builtin; refine wpList_append_any _ rfl (.tmp 50) (.tmp 56) _ rfl w.heap.size 9 i0 _ 1 16 Tryz.underlying38 hi hz0 hz1 hz2 rfl (by omega) _ (stage l k).length _ rfl (hown.alloc _) _ (some ⟨wr.heap.size, 0, none⟩) 1 1 [.string t.n] rfl (Lg.reads_one (heap_alloc_new wr _)) (Lg.mem1 rfl) (by simp only [maxLen]; omega) (by omega) (by simp; omega) ?_; intro v2 w2 hown2 hg2 hat2; have HS3 := Lib.hid (HV.out.next hg2 hown2 F.out); clear hown2 hg2 hat2 hown)
                go_roundw
                case rel => exact ⟨j + 1, by go_num, by omega, .inr ⟨rfl, HS3.out⟩⟩
                case measure => simp [intOf]; omega
        · obtain rfl : j = l.length := by omega
          have F := Lib.hid (OS.out k (by have := SL.out k; rw [HV.out.len] at this; exact this) HN.out)
          go_wp2_with (fail)
          go_ret
          rw [F.out]
          exact ⟨⟨_, _, rfl, hc2, ST.out⟩, HV.out.below⟩
      · have HV := Lib.hid hs
        have MS := Lib.hid (HS.out.dec hs)
        clear hs
        by_cases hlt : j < l.length
        · have hjI : (j : Int) < (l.length : Int) := by omega
          go_wp2_with (fail)
          go_roundw
          case rel => exact ⟨k + 1, HV.out⟩
          case measure => exact MS.out
        · have hjI : ¬ (j : Int) < (l.length : Int) := by omega
          go_wp2_with (fail)
          go_roundw
          case rel => exact ⟨k + 1, HV.out⟩
          case measure => exact MS.out
end Go.Proofs.YtnheahologecfaaGreatDoor.Gr
