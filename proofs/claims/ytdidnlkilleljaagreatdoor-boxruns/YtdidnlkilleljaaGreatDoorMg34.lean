/- Joined by mkmerged.py: BxUpper, RxUpper, RxPlain. -/
import Derived.Test.YtdidnlkilleljaaGreatDoorMg33
import Derived.Test.YtdidnlkilleljaaGreatDoorMg23
import Derived.Laws.IdiomStrings
import Derived.IntWalk
/- BxUpper, what a claim needs of it (prune.py). -/
namespace Go.Proofs.YtdidnlkilleljaaGreatDoor.Bx
open Go.RowKit
open Fs (B)
set_option linter.unusedVariables false
set_option maxRecDepth 100000
theorem frozen_row {w : World} {b : Nat} {cs : Array Value} {T : TypeId} {m : Nat} (hb : w.heap[b]? = some (.cells cs T (m, m + 1))) {j : Nat} (hj : j < m) : w.frozen? ⟨b, j, none⟩ = false := by
  simp [World.frozen?, hb]; omega
theorem upC_yes {c : UInt8} (h1 : 97 ≤ c.toNat) (h2 : c.toNat ≤ 122) : ((upC c).toNat : Int) = (c.toNat : Int) - 97 + 65 := by
  unfold upC
  rw [if_pos ⟨h1, h2⟩, UInt8.toNat_sub_of_le]
  · show ((c.toNat - 32 : Nat) : Int) = _; omega
  · rw [UInt8.le_iff_toNat_le]; show 32 ≤ c.toNat; omega
theorem upC_not {c : UInt8} (h : ¬ (97 ≤ c.toNat ∧ c.toNat ≤ 122)) : upC c = c := by unfold upC; rw [if_neg h]
def UpTo (s : ByteArray) (k : Nat) (cur : Array Value) : Prop := ∀ j (hj : j < s.size), cur[j]? = some (.int .u8 ((if j < k then upC s[j] else s[j]).toNat : Int))
theorem UpTo.next {s : ByteArray} {k : Nat} {cur : Array Value} (h : UpTo s k cur) (hk : k < s.size) (hc : s.size ≤ cur.size) : UpTo s (k + 1) (cur.setIfInBounds k (.int .u8 ((upC s[k]).toNat : Int))) := fun j hj => by
  by_cases e : k = j
  · subst e
    rw [Array.getElem?_setIfInBounds_self_of_lt (by omega), if_pos (by omega)]
  · rw [Array.getElem?_setIfInBounds_ne e, h j hj]
    by_cases h2 : j < k
    · rw [if_pos h2, if_pos (by omega)]
    · rw [if_neg h2, if_neg (by omega)]
theorem UpTo.same {s : ByteArray} {k : Nat} {cur : Array Value} (h : UpTo s k cur) (hk : k < s.size) (he : upC s[k] = s[k]) : UpTo s (k + 1) cur := fun j hj => by
  rw [h j hj]
  by_cases e : k = j
  · subst e
    rw [if_neg (by omega), if_pos (by omega), he]
  · by_cases h2 : j < k
    · rw [if_pos h2, if_pos (by omega)]
    · rw [if_neg h2, if_neg (by omega)]
def UpRow (s : ByteArray) (g m : Nat) (w W : World) (k : Nat) : Prop := (∃ cur, W.heap[g]? = some (.cells cur 5 (m, m + 1)) ∧ cur.size = m ∧ UpTo s k cur) ∧ Below w.heap.size w W
theorem bytes_at {s : ByteArray} {G j : Nat} (hj : j < s.size) : (bytesRow s G)[j]? = some (.int .u8 (s[j].toNat : Int)) := by
  unfold bytesRow
  rw [Array.getElem?_append_left (by rw [Array.size_map]; exact hj), Array.getElem?_map]
  have : s.data[j]? = some s[j] := Array.getElem?_eq_getElem hj
  rw [this]; rfl
theorem up_list {s : ByteArray} {cur : Array Value} (h : UpTo s s.size cur) {w : World} {g m : Nat} (hg : w.heap[g]? = some (.cells cur 5 (m, m + 1))) : ∀ j (hj : j < (upB (tl s)).length), w.cell? ((⟨g, 0, none⟩ : Addr).add j) = some (.int .u8 ((upB (tl s))[j].toNat : Int)) := fun j hj => by
  have hl : (upB (tl s)).length = s.size := by rw [upB_len, Fs.tl_len]
  rw [Lg.add_eq, cell_heap hg, h j (by omega), if_pos (by omega)]
  have e : (upB (tl s))[j] = upC (s[j]'(by omega)) := List.getElem_map upC
  rw [e]
set_option maxHeartbeats 2000000 in
theorem upper_any (s : ByteArray) (w : World) (hs : s.size ≤ 1000000) :
    Calls Tryz.prog 118 #[.string s] w fun e w' => e = .returned (.string (bs (upB (tl s)))) ∧ Below w.heap.size w w' := by
  obtain ⟨G, hG⟩ : ∃ G, G = grownCap w s.size 0 5 := ⟨_, rfl⟩
  obtain ⟨ROW, hROW⟩ : ∃ ROW, ROW = bytesRow s G := ⟨_, rfl⟩
  obtain ⟨W1, eW⟩ : ∃ W1, W1 = w.drew.alloc (.cells ROW 5 (ROW.size, ROW.size + 1)) := ⟨_, rfl⟩
  have CV : (convert 9 94 (.string s)).run Tryz.prog w = .ok (.slice (some ⟨w.heap.size, 0, none⟩) s.size G) W1 := by
    rw [run_bytes_of_string w _ _ 5 s Tryz.underlying9 Tryz.underlying94 Tryz.underlying5, ← hG, ← hROW, ← eW]
  have hRs : s.size ≤ ROW.size := by rw [hROW]; simp [bytesRow]
  have R0 : Hid (UpRow s w.heap.size ROW.size w W1 0) := Lib.hid (by
    refine ⟨⟨ROW, by rw [eW]; exact heap_alloc_new w.drew _, rfl, fun j hj => ?_⟩, by rw [eW]; exact (Below.refl _ _).drew.alloc (Nat.le_refl _) _⟩
    rw [if_neg (by omega), hROW]
    exact bytes_at hj)
  clear eW hROW hG
  generalize ROW.size = m at *
  go_enter Tryz.func118, Tryz.ntmps118
  go_wp2_with (fail)
  go_loopw [10] (fun i W => ∃ k : Nat, i = .int .i64 k ∧ k ≤ s.size ∧ UpRow s w.heap.size m w W k) (fun i _ => s.size - (intOf i).toNat)
  case atStart => exact ⟨0, rfl, by omega, R0.out⟩
  case round =>
    obtain ⟨k, rfl, hk, ⟨cur, hh, hcm, hu⟩, hb⟩ := hrel
    have HU := Lib.hid hu
    have HB := Lib.hid hb
    have HH := Lib.hid hh
    clear hu hb R0 CV
    by_cases hlt : k < s.size
    · have hkI : (k : Int) < (s.size : Int) := by omega
      have hck := HU.out k hlt
      rw [if_neg (by omega)] at hck
      have c0 : wr.cell? ⟨w.heap.size, k, none⟩ = some (.int .u8 (s[k].toNat : Int)) := (cell_heap hh k).trans hck
      have f0 := frozen_row hh (j := k) (by omega)
      have NX := Lib.hid (HU.out.next hlt (by omega))
      have SM := Lib.hid (HU.out.same hlt)
      clear hh hck
      by_cases h1 : 97 ≤ s[k].toNat
      · by_cases h2 : s[k].toNat ≤ 122
        · have e := upC_yes h1 h2
          rw [e] at NX
          have g1 : (97 : Int) ≤ (s[k].toNat : Int) := by omega
          have g2 : (s[k].toNat : Int) ≤ 122 := by omega
          clear e SM
          generalize (s[k].toNat : Int) = q at *
          go_wp2_with (fail)
          go_roundw
          case rel => exact ⟨k + 1, by go_num, by omega, ⟨_, heap_set HH.out, by simp [hcm], NX.out⟩, HB.out.setCell (p := ⟨w.heap.size, k, none⟩) (Nat.le_refl _) _⟩
          case measure => simp [intOf]; omega
        · have F := Lib.hid (SM.out (upC_not (fun h => h2 h.2)))
          have g1 : (97 : Int) ≤ (s[k].toNat : Int) := by omega
          have g2 : ¬ (s[k].toNat : Int) ≤ 122 := by omega
          clear SM NX h1 h2
          generalize (s[k].toNat : Int) = q at *
          go_wp2_with (fail)
          go_roundw
          case rel => exact ⟨k + 1, by go_num, by omega, ⟨cur, HH.out, hcm, F.out⟩, HB.out⟩
          case measure => simp [intOf]; omega
      · have F := Lib.hid (SM.out (upC_not (fun h => h1 h.1)))
        have g1 : ¬ (97 : Int) ≤ (s[k].toNat : Int) := by omega
        clear SM NX h1
        generalize (s[k].toNat : Int) = q at *
        go_wp2_with (fail)
        go_roundw
        case rel => exact ⟨k + 1, by go_num, by omega, ⟨cur, HH.out, hcm, F.out⟩, HB.out⟩
        case measure => simp [intOf]; omega
    · obtain rfl : k = s.size := by omega
      have hl : (upB (tl s)).length = s.size := by rw [upB_len, Fs.tl_len]
      have CB : (convert 94 9 (.slice (some ⟨w.heap.size, 0, none⟩) s.size G)).run Tryz.prog wr = .ok (.string (bs (upB (tl s)))) wr := by
        rw [← hl]
        exact run_convert_bytes_back wr _ _ 5 ⟨w.heap.size, 0, none⟩ G (upB (tl s)) Tryz.underlying94 Tryz.underlying5 Tryz.underlying9 (up_list HU.out hh)
      clear hh hl
      obtain ⟨r, hr⟩ : ∃ r, r = bs (upB (tl s)) := ⟨_, rfl⟩
      rw [← hr] at CB
      have HR := Lib.hid hr
      clear hr
      go_wp2_with (fail)
      go_ret
      exact ⟨by rw [← HR.out]; rfl, HB.out⟩
end Go.Proofs.YtdidnlkilleljaaGreatDoor.Bx
/- RxUpper, what a claim needs of it (prune.py). -/
namespace Go.Proofs.YtdidnlkilleljaaGreatDoor.Bx
open Go.RowKit
open Fs (B)
set_option linter.unusedVariables false
set_option maxRecDepth 100000
theorem rupC_yes {c : UInt8} (h1 : 97 ≤ c.toNat) (h2 : c.toNat ≤ 122) : ((upC c).toNat : Int) = (c.toNat : Int) - 32 := by
  rw [upC_yes h1 h2]; omega
set_option maxHeartbeats 2000000 in
theorem rupper_any (s : ByteArray) (w : World) (hs : s.size ≤ 1000000) :
    Calls Tryz.prog 129 #[.string s] w fun e w' => e = .returned (.string (bs (upB (tl s)))) ∧ Below w.heap.size w w' := by
  obtain ⟨G, hG⟩ : ∃ G, G = grownCap w s.size 0 5 := ⟨_, rfl⟩
  obtain ⟨ROW, hROW⟩ : ∃ ROW, ROW = bytesRow s G := ⟨_, rfl⟩
  obtain ⟨W1, eW⟩ : ∃ W1, W1 = w.drew.alloc (.cells ROW 5 (ROW.size, ROW.size + 1)) := ⟨_, rfl⟩
  have CV : (convert 9 94 (.string s)).run Tryz.prog w = .ok (.slice (some ⟨w.heap.size, 0, none⟩) s.size G) W1 := by
    rw [run_bytes_of_string w _ _ 5 s Tryz.underlying9 Tryz.underlying94 Tryz.underlying5, ← hG, ← hROW, ← eW]
  have hRs : s.size ≤ ROW.size := by rw [hROW]; simp [bytesRow]
  have R0 : Hid (UpRow s w.heap.size ROW.size w W1 0) := Lib.hid (by
    refine ⟨⟨ROW, by rw [eW]; exact heap_alloc_new w.drew _, rfl, fun j hj => ?_⟩, by rw [eW]; exact (Below.refl _ _).drew.alloc (Nat.le_refl _) _⟩
    rw [if_neg (by omega), hROW]
    exact bytes_at hj)
  clear eW hROW hG
  generalize ROW.size = m at *
  go_enter Tryz.func129, Tryz.ntmps129
  go_wp2_with (fail)
  go_loopw [4] (fun i W => ∃ k : Nat, i = .int .i64 k ∧ k ≤ s.size ∧ UpRow s w.heap.size m w W k) (fun i _ => s.size - (intOf i).toNat)
  case atStart => exact ⟨0, rfl, by omega, R0.out⟩
  case round =>
    obtain ⟨k, rfl, hk, ⟨cur, hh, hcm, hu⟩, hb⟩ := hrel
    have HU := Lib.hid hu
    have HB := Lib.hid hb
    have HH := Lib.hid hh
    clear hu hb R0 CV
    by_cases hlt : k < s.size
    · have hkI : (k : Int) < (s.size : Int) := by omega
      have hck := HU.out k hlt
      rw [if_neg (by omega)] at hck
      have c0 : wr.cell? ⟨w.heap.size, k, none⟩ = some (.int .u8 (s[k].toNat : Int)) := (cell_heap hh k).trans hck
      have f0 := frozen_row hh (j := k) (by omega)
      have NX := Lib.hid (HU.out.next hlt (by omega))
      have SM := Lib.hid (HU.out.same hlt)
      clear hh hck
      by_cases h1 : 97 ≤ s[k].toNat
      · by_cases h2 : s[k].toNat ≤ 122
        · have e := rupC_yes h1 h2
          rw [e] at NX
          have g1 : (97 : Int) ≤ (s[k].toNat : Int) := by omega
          have g2 : (s[k].toNat : Int) ≤ 122 := by omega
          clear e SM
          generalize (s[k].toNat : Int) = q at *
          go_wp2_with (fail)
          go_roundw
          case rel => exact ⟨k + 1, by go_num, by omega, ⟨_, heap_set HH.out, by simp [hcm], NX.out⟩, HB.out.setCell (p := ⟨w.heap.size, k, none⟩) (Nat.le_refl _) _⟩
          case measure => simp [intOf]; omega
        · have F := Lib.hid (SM.out (upC_not (fun h => h2 h.2)))
          have g1 : (97 : Int) ≤ (s[k].toNat : Int) := by omega
          have g2 : ¬ (s[k].toNat : Int) ≤ 122 := by omega
          clear SM NX h1 h2
          generalize (s[k].toNat : Int) = q at *
          go_wp2_with (fail)
          go_roundw
          case rel => exact ⟨k + 1, by go_num, by omega, ⟨cur, HH.out, hcm, F.out⟩, HB.out⟩
          case measure => simp [intOf]; omega
      · have F := Lib.hid (SM.out (upC_not (fun h => h1 h.1)))
        have g1 : ¬ (97 : Int) ≤ (s[k].toNat : Int) := by omega
        clear SM NX h1
        generalize (s[k].toNat : Int) = q at *
        go_wp2_with (fail)
        go_roundw
        case rel => exact ⟨k + 1, by go_num, by omega, ⟨cur, HH.out, hcm, F.out⟩, HB.out⟩
        case measure => simp [intOf]; omega
    · obtain rfl : k = s.size := by omega
      have hl : (upB (tl s)).length = s.size := by rw [upB_len, Fs.tl_len]
      have CB : (convert 94 9 (.slice (some ⟨w.heap.size, 0, none⟩) s.size G)).run Tryz.prog wr = .ok (.string (bs (upB (tl s)))) wr := by
        rw [← hl]
        exact run_convert_bytes_back wr _ _ 5 ⟨w.heap.size, 0, none⟩ G (upB (tl s)) Tryz.underlying94 Tryz.underlying5 Tryz.underlying9 (up_list HU.out hh)
      clear hh hl
      obtain ⟨r, hr⟩ : ∃ r, r = bs (upB (tl s)) := ⟨_, rfl⟩
      rw [← hr] at CB
      have HR := Lib.hid hr
      clear hr
      go_wp2_with (fail)
      go_ret
      exact ⟨by rw [← HR.out]; rfl, HB.out⟩
end Go.Proofs.YtdidnlkilleljaaGreatDoor.Bx
/- RxPlain, what a claim needs of it (prune.py). -/
namespace Go.Proofs.YtdidnlkilleljaaGreatDoor.Bx
open Fs (B)
set_option linter.unusedVariables false
def insL (x : B) (l : List B) : List B := l.takeWhile (fun y => decide (y ≤ x)) ++ x :: l.dropWhile (fun y => decide (y ≤ x))
theorem insL_perm (x : B) (l : List B) : (insL x l).Perm (x :: l) := by
  unfold insL
  have h := List.takeWhile_append_dropWhile (p := fun y => decide (y ≤ x)) (l := l)
  refine List.perm_middle.trans ?_
  rw [h]
theorem le_of_not {a b : B} (h : ¬ a ≤ b) : b ≤ a := by
  rcases List.le_total a b with h1 | h1
  · exact absurd h1 h
  · exact h1
theorem insL_up (x : B) : ∀ {l : List B}, l.Pairwise (· ≤ ·) → (insL x l).Pairwise (· ≤ ·)
  | [], _ => by simp [insL]
  | y :: l, h => by
    obtain ⟨h1, h2⟩ := List.pairwise_cons.1 h
    unfold insL
    by_cases e : y ≤ x
    · rw [List.takeWhile_cons, List.dropWhile_cons, if_pos (by simpa using e), if_pos (by simpa using e)]
      have ih := insL_up x h2
      unfold insL at ih
      rw [List.cons_append, List.pairwise_cons]
      refine ⟨fun z hz => ?_, ih⟩
      have hz2 : z ∈ insL x l := hz
      rcases List.mem_cons.1 ((insL_perm x l).mem_iff.1 hz2) with rfl | hz3
      · exact e
      · exact h1 z hz3
    · rw [List.takeWhile_cons, List.dropWhile_cons, if_neg (by simpa using e), if_neg (by simpa using e)]
      rw [List.nil_append, List.pairwise_cons]
      refine ⟨fun z hz => ?_, h⟩
      rcases List.mem_cons.1 hz with rfl | hz
      · exact le_of_not e
      · exact List.le_trans (le_of_not e) (h1 z hz)
def insA (l : List B) : List B → List B
  | [] => l
  | x :: m => insA (insL x l) m
theorem insA_app (l : List B) : ∀ (m : List B) (x : B), insA l (m ++ [x]) = insL x (insA l m)
  | [], x => rfl
  | y :: m, x => by rw [List.cons_append, insA, insA, insA_app (insL y l) m x]
theorem insA_perm : ∀ (m l : List B), (insA l m).Perm (l ++ m)
  | [], l => by simp [insA]
  | x :: m, l => by
    rw [insA]
    refine (insA_perm m (insL x l)).trans ?_
    refine ((insL_perm x l).append_right m).trans ?_
    exact (List.perm_middle (a := x) (l₁ := l) (l₂ := m)).symm
theorem insA_up : ∀ (m : List B) {l : List B}, l.Pairwise (· ≤ ·) → (insA l m).Pairwise (· ≤ ·)
  | [], _, h => h
  | x :: m, l, h => insA_up m (insL_up x h)
theorem insA_sort (m : List B) : insA [] m = sortL m := by
  refine List.Perm.eq_of_pairwise (le := (· ≤ ·)) (fun a b _ _ h1 h2 => List.le_antisymm h1 h2) (insA_up m List.Pairwise.nil) (sort_rises m) ?_
  exact ((insA_perm m []).trans (by simp)).trans (List.mergeSort_perm _ _).symm
def scan (cur : B) : B → List B
  | [] => if cur = [] then [] else [cur ++ [10]]
  | c :: r => if c = 10 then (cur ++ [10]) :: scan [] r else scan (cur ++ [c]) r
theorem trim_free {s : B} (h : (10 : UInt8) ∉ s) : trim s = s := by
  unfold trim
  rw [if_neg]
  intro e
  exact h (List.mem_of_getLast? e)
theorem trim_front {a r : B} (h : r ≠ []) : trim (a ++ r) = a ++ trim r := by
  unfold trim
  obtain ⟨x, hx⟩ : ∃ x, r.getLast? = some x := ⟨_, List.getLast?_eq_some_getLast h⟩
  have h2 : (a ++ r).getLast? = r.getLast? := by rw [List.getLast?_append, hx]; rfl
  rw [h2]
  by_cases e : r.getLast? = some 10
  · rw [if_pos e, if_pos e, List.dropLast_append_of_ne_nil h]
  · rw [if_neg e, if_neg e]
theorem scan_lines : ∀ (s cur : B), (10 : UInt8) ∉ cur → scan cur s = linesB (cur ++ s)
  | [], cur, h => by
    rw [scan, List.append_nil]
    unfold linesB
    by_cases e : cur = []
    · rw [if_pos e, if_pos e]
    · rw [if_neg e, if_neg e, trim_free h, Lg.split_free h]; rfl
  | c :: r, cur, h => by
    rw [scan]
    by_cases e : c = 10
    · subst e
      rw [if_pos rfl, scan_lines r [] (by simp), List.nil_append]
      unfold linesB
      by_cases hr : r = []
      · subst hr
        rw [if_pos rfl, if_neg (by simp), trim_add, Lg.split_free h]; rfl
      · rw [if_neg hr, if_neg (by simp), show cur ++ 10 :: r = (cur ++ [10]) ++ r by simp, trim_front hr, List.append_assoc, List.singleton_append, Lg.split_app h, List.map_cons]
    · rw [if_neg e, scan_lines r (cur ++ [c]) (by simp [h, Ne.symm e]), List.append_assoc, List.singleton_append]
theorem lines_all (s : B) : (insA [] (scan [] s)).flatten = soB s := by
  rw [scan_lines s [] (by simp), List.nil_append, insA_sort]; rfl
end Go.Proofs.YtdidnlkilleljaaGreatDoor.Bx
