/- Joined by mkmerged.py: BxInsert2, BxDelete, BxRight. -/
import Derived.Test.YtdidnlkilleljaaGreatDoorMf21
import Derived.RegionTactic
import Derived.Test.YtdidnlkilleljaaGreatDoorMf18
import Derived.Test.YtdidnlkilleljaaGreatDoorMf03
/- BxInsert2, what a claim needs of it (prune.py). -/
namespace Go.Proofs.YtdidnlkilleljaaGreatDoor.Bx
open Go.RowKit
open Fs (fc fc_len fc_cell fc_append fc_one Fls infoF B)
set_option linter.unusedVariables false
set_option maxRecDepth 100000
theorem size2 : (Tryz.prog.info? 49).map (·.size) = some 2 := by kernel_rfl
theorem heap_drew (w : World) (b : Nat) : w.drew.heap[b]? = w.heap[b]? := rfl
set_option maxHeartbeats 4000000 in
theorem insert_room (B0 g cap : Nat) (cur : Array Value) (l : List Fl) (f : Fl) (i vb : Nat) (w : World) (hBg : B0 ≤ g) (hh : w.heap[g]? = some (.cells cur 49 (0, 0))) (hcs : cur.size = cap * 2) (hcc : cur.toList.take (l.length * 2) = fc l) (hi : i < l.length) (hr : l.length + 1 ≤ cap) (hc2 : cap ≤ maxLen)
    (hv : w.heap[vb]? = some (.cells #[.string f.p, .string f.d] 49 (0, 0))) (hne : vb ≠ g) :
    Calls Tryz.prog 138 #[.slice (some ⟨g, 0, none⟩) l.length cap, .int .i64 i, .slice (some ⟨vb, 0, none⟩) 1 1] w (InsSays B0 l f i w) := by
  have hdl : (fc (l.drop i)).length = (l.length - i) * 2 := by rw [fc_len, List.length_drop]
  obtain ⟨cur2, k1, k2⟩ := setCells_at (fc (l.drop i)) ((i + 1) * 2) w.drew cur hh (by omega)
  have hz2 : cur2.size = cap * 2 := by
    have := congrArg List.length k2
    simp only [Array.length_toList, List.length_append, List.length_take, List.length_drop] at this
    omega
  obtain ⟨W2, eW2⟩ : ∃ W2, W2 = w.drew.setCells g ((i + 1) * 2) (fc (l.drop i)) := ⟨_, rfl⟩
  rw [← eW2] at k1
  obtain ⟨cur3, k3, k4⟩ := setCells_at [.string f.p, .string f.d] (i * 2) W2 cur2 k1 (by simp; omega)
  have hz3 : cur3.size = cap * 2 := by
    have := congrArg List.length k4
    simp only [Array.length_toList, List.length_append, List.length_take, List.length_drop, List.length_cons, List.length_nil] at this
    omega
  obtain ⟨W3, eW3⟩ : ∃ W3, W3 = W2.setCells g (i * 2) [.string f.p, .string f.d] := ⟨_, rfl⟩
  rw [← eW3] at k3
  have hcp1 : ∀ ty n1 c1 n2 c2, Nat.min n2 n1 = l.length - i → (Builtin.copy_ #[23, 23] ty #[.slice (some ⟨g, (i + 1) * 2, none⟩) n1 c1, .slice (some ⟨g, i * 2, none⟩) n2 c2]).run Tryz.prog w.drew = .ok (goInt (l.length - i : Nat)) W2 := fun ty n1 c1 n2 c2 hm => by
    rw [eW2, ← hm]
    exact run_copy2 w.drew _ _ ty 49 g ((i + 1) * 2) n1 c1 ⟨g, i * 2, none⟩ n2 c2 (fc (l.drop i)) Tryz.underlying23 size2 (by rw [hdl, hm])
      (fun j v hj => by
        rw [Addr.add_lit, cell_heap (w := w.drew) hh]
        rw [← fc_drop, List.getElem?_drop] at hj
        exact cur_at hcc hj)
      (fun j hj => by rw [cell_heap (w := w.drew) hh, Array.getElem?_eq_getElem (by omega)]; rfl) (fun j hj => frozen_heap (w := w.drew) hh _) (fc_cell _)
  have hcp2 : ∀ ty n1 c1, 0 < n1 → (Builtin.copy_ #[23, 23] ty #[.slice (some ⟨g, i * 2, none⟩) n1 c1, .slice (some ⟨vb, 0, none⟩) 1 1]).run Tryz.prog W2 = .ok (goInt (1 : Nat)) W3 := fun ty n1 c1 hm => by
    have hmin : Nat.min 1 n1 = 1 := Nat.min_eq_left hm
    have hv2 : W2.heap[vb]? = some (.cells #[.string f.p, .string f.d] 49 (0, 0)) := by rw [eW2, setCells_ne (fun e => hne e.symm)]; exact hv
    have hf1 := fc_cell [f]
    rw [fc_one] at hf1
    have := run_copy2 (P := Tryz.prog) W2 23 23 ty 49 g (i * 2) n1 c1 ⟨vb, 0, none⟩ 1 1 [.string f.p, .string f.d] Tryz.underlying23 size2 (by rw [hmin]; rfl)
      (fun j v hj => by rw [Lg.add_eq, cell_heap hv2]; simpa using hj)
      (fun j hj => by rw [cell_heap k1, Array.getElem?_eq_getElem (by simp at hj; omega)]; rfl) (fun j hj => frozen_heap k1 _) hf1
    rw [this, hmin, eW3]
  have hov : ∀ lb cb, (callFunc 184 #[.slice (some ⟨vb, 0, none⟩) 1 1, .slice (some ⟨g, (i + 1) * 2, none⟩) lb cb]).run Tryz.prog w = .ok (.value (.bool false)) w := fun lb cb => by
    rw [run_callFunc_extern Tryz.func184 (by kernel_rfl) (by kernel_rfl) (by kernel_rfl) (e := Extern.SlicesOverlaps.overlaps #[23, 23] #[4]) (by kernel_rfl),
      Lib.run_overlaps_apart w 23 4 49 Tryz.underlying23 2 (fun _ => by kernel_rfl) ⟨vb, 0, none⟩ ⟨g, (i + 1) * 2, none⟩ 1 1 lb cb hne 49 49 2 (cap * 2) (by simp [World.shape?, hv]) (by simp [World.shape?, hh, hcs]) (by omega) (frozen_heap hv _) (frozen_heap hv _)]
    rfl
  have EN : Hid (InsSays B0 l f i w (.returned (.slice (some ⟨g, 0, none⟩) (l.length + 1) cap)) W3) := Lib.hid (by
    refine ⟨_, rfl, ?_, ?_⟩
    · rw [← ins_len (f := f) (Nat.le_of_lt hi)]
      refine own_shut hBg k3 (by rw [ins_len (Nat.le_of_lt hi)]; exact hr) hc2 hz3 ?_
      rw [ins_len (Nat.le_of_lt hi), fc_ins, k4, k2]
      have := shift_list (C := cur.toList) (P := [.string f.p, .string f.d]) (D := fc (l.drop i)) (a := i * 2) rfl (by simp; omega)
      rw [show (i + 1) * 2 = i * 2 + 2 by omega, show (l.length + 1) * 2 = i * 2 + 2 + (fc (l.drop i)).length by omega]
      rw [show i * 2 + [Value.string f.p, .string f.d].length = i * 2 + 2 from rfl, this]
      congr 2
      rw [← fc_take, ← hcc, List.take_take, Nat.min_eq_left (by omega)]
    · rw [eW3, eW2]
      exact ((Below.refl _ _).drew.trans (setCells_below hBg _ _ _)).trans (setCells_below hBg _ _ _))
  clear eW2 eW3 k1 k2 k3 k4 hz2 hz3 hdl hcs hcc hh hv hne hBg
  generalize InsSays B0 l f i w = Q at *
  unfold maxLen at hc2
  have h1 : ¬ ((i : Int) = (l.length : Int)) := by omega
  have h2 : ¬ (cap : Int) < (l.length : Int) + 1 := by omega
  have h3 : ¬ cap = i := by omega
  have h4 : ¬ cap = i + 1 := by omega
  have h5 : i ≤ l.length := by omega
  have h8 : (i : Int) ≤ (l.length : Int) + 1 := by omega
  have h9 : i ≤ l.length + 1 := by omega
  have hw1 : IntKind.i64.wrap ((i : Int) + 1) = (i : Int) + 1 := by rw [IntKind.wrap_i64]; omega
  have hb1 : (0 : Int) ≤ (i : Int) + 1 := by omega
  have htn : ((i : Int) + 1).toNat = i + 1 := by omega
  have H1 := Lib.hid hcp1
  have H2 := Lib.hid hcp2
  clear hcp1 hcp2
  go_enter Tryz.func138, Tryz.ntmps138
  go_wp2_with (simp only [hov])
  go_region_law (refine step_copy_runI rfl _ _ 23 23 rfl (.slice (some ⟨g, (i + 1) * 2, none⟩) (l.length + 1 - (i + 1)) (cap - (i + 1))) (.slice (some ⟨g, i * 2, none⟩) (l.length + 1 - i) (cap - i)) (by simp [Act.eval, Act.put]) (by simp [Act.eval, Act.put]) (H1.out _ _ _ _ _ (by show min _ _ = _; omega)) ?_)
  have hc2 := H2.out 3 (l.length + 1 - i) (cap - i) (by omega)
  go_wp2_with (fail)
  exact EN.out
set_option maxHeartbeats 4000000 in
theorem insert_grow (B0 g : Nat) (cur : Array Value) (l : List Fl) (f : Fl) (i vb : Nat) (w : World) (hBw : B0 ≤ w.heap.size) (hh : w.heap[g]? = some (.cells cur 49 (0, 0))) (hcs : cur.size = l.length * 2) (hcc : cur.toList.take (l.length * 2) = fc l) (hi : i < l.length) (hl : l.length ≤ 1000)
    (hv : w.heap[vb]? = some (.cells #[.string f.p, .string f.d] 49 (0, 0))) :
    Calls Tryz.prog 138 #[.slice (some ⟨g, 0, none⟩) l.length l.length, .int .i64 i, .slice (some ⟨vb, 0, none⟩) 1 1] w (InsSays B0 l f i w) := by
  obtain ⟨z, hzi, hzs⟩ := infoF
  obtain ⟨i0, hi0, hz0, hz1, hzb⟩ := Lg.info_parts hzi
  have hdl : (fc (l.drop i)).length = (l.length - i) * 2 := by rw [fc_len, List.length_drop]
  have htl : (fc (l.take i)).length = i * 2 := by rw [fc_len, List.length_take, Nat.min_eq_left (by omega)]
  obtain ⟨G, hG⟩ : ∃ G, G = grownCap w (l.length + 1) l.length 49 := ⟨_, rfl⟩
  have hGn : l.length + 1 ≤ G := by rw [hG]; exact grownCap_ge w _ _ _
  have hGm : G ≤ maxLen := by rw [hG]; exact grownCap_le_maxLen w (l.length + 1) l.length 49 (by unfold maxLen; omega)
  obtain ⟨ROW, hROW⟩ : ∃ ROW : Array Value, ROW = (fc (l.take i)).toArray ++ Builtin.zeroCells z.cells (l.length + 1 - i) ++ Builtin.zeroCells z.cells (G - (l.length + 1)) := ⟨_, rfl⟩
  have hRs : ROW.size = G * 2 := by
    rw [hROW]
    simp only [Array.size_append, List.size_toArray, Builtin.zeroCells, Array.size_map, Array.size_range, hzs, htl]
    omega
  have hRt : ROW.toList.take (i * 2) = fc (l.take i) := by
    rw [hROW]
    simp only [Array.toList_append]
    rw [List.append_assoc, List.take_append_of_le_length (by rw [htl]; exact Nat.le_refl _), List.take_of_length_le (by rw [htl]; exact Nat.le_refl _)]
  obtain ⟨W1, eW1⟩ : ∃ W1, W1 = w.drew.alloc (.cells ROW 49) := ⟨_, rfl⟩
  have q1 : W1.heap[w.heap.size]? = some (.cells ROW 49 (0, 0)) := by rw [eW1]; exact heap_alloc_new w.drew _
  have hlg := lt_heap hh
  have hlv := lt_heap hv
  have hh1 : W1.heap[g]? = some (.cells cur 49 (0, 0)) := by rw [eW1]; exact heap_alloc_lt (w := w.drew) hh
  have hv1 : W1.heap[vb]? = some (.cells #[.string f.p, .string f.d] 49 (0, 0)) := by rw [eW1]; exact heap_alloc_lt (w := w.drew) hv
  obtain ⟨cur2, k1, k2⟩ := setCells_at [.string f.p, .string f.d] (i * 2) W1 ROW q1 (by simp; omega)
  have hz2 : cur2.size = G * 2 := by
    have := congrArg List.length k2
    simp only [Array.length_toList, List.length_append, List.length_take, List.length_drop, List.length_cons, List.length_nil] at this
    omega
  obtain ⟨W2, eW2⟩ : ∃ W2, W2 = W1.setCells w.heap.size (i * 2) [.string f.p, .string f.d] := ⟨_, rfl⟩
  rw [← eW2] at k1
  obtain ⟨cur3, k3, k4⟩ := setCells_at (fc (l.drop i)) ((i + 1) * 2) W2.drew cur2 k1 (by omega)
  have hz3 : cur3.size = G * 2 := by
    have := congrArg List.length k4
    simp only [Array.length_toList, List.length_append, List.length_take, List.length_drop] at this
    omega
  obtain ⟨W3, eW3⟩ : ∃ W3, W3 = W2.drew.setCells w.heap.size ((i + 1) * 2) (fc (l.drop i)) := ⟨_, rfl⟩
  rw [← eW3] at k3
  have hold : (Builtin.firstCells i0.size i (.slice (some ⟨g, 0, none⟩) i l.length)).run Tryz.prog w.drew = .ok (fc (l.take i)).toArray w.drew := by
    rw [hz1]
    have hl0 := run_loadCells_list (P := Tryz.prog) w.drew ⟨g, 0, none⟩ (fc (l.take i)) (fun j v hj => by
      rw [Lg.add_eq, cell_heap (w := w.drew) hh]
      rw [← fc_take, List.getElem?_take] at hj
      split at hj
      · exact cur_at hcc hj
      · cases hj)
    rw [htl] at hl0
    simpa [Builtin.firstCells] using hl0
  have hrz : ∀ ty, (Builtin.append_ #[23, 3] ty #[.slice (some ⟨g, 0, none⟩) i l.length, .int .i64 ((l.length : Int) + 1 - (i : Int))]).run Tryz.prog w = .ok (.slice (some ⟨w.heap.size, 0, none⟩) (l.length + 1) G) W1 := fun ty => by
    have h := Lib.run_append_grow_zeros (P := Tryz.prog) w 23 3 ty 49 i0 _ .i64 .i64 Tryz.underlying23 Tryz.underlying3 hi0 hz0 (some ⟨g, 0, none⟩) i l.length (fc (l.take i)) hold (l.length + 1 - i) (by omega) (by rw [hz1]; omega) (by omega) (by omega) (by rw [hzb]; omega) (by rw [hzb, show i + (l.length + 1 - i) = l.length + 1 by omega]; exact growslice_fits (by omega) (by omega))
    rw [show i + (l.length + 1 - i) = l.length + 1 by omega, ← hG, ← hROW, ← eW1] at h
    rw [show (l.length : Int) + 1 - (i : Int) = ((l.length + 1 - i : Nat) : Int) by omega]
    exact h
  have hcpA : ∀ ty n1 c1, 0 < n1 → (Builtin.copy_ #[23, 23] ty #[.slice (some ⟨w.heap.size, i * 2, none⟩) n1 c1, .slice (some ⟨vb, 0, none⟩) 1 1]).run Tryz.prog W1 = .ok (goInt (1 : Nat)) W2 := fun ty n1 c1 hm => by
    have hmin : Nat.min 1 n1 = 1 := Nat.min_eq_left hm
    have hf1 := fc_cell [f]
    rw [fc_one] at hf1
    have := run_copy2 (P := Tryz.prog) W1 23 23 ty 49 w.heap.size (i * 2) n1 c1 ⟨vb, 0, none⟩ 1 1 [.string f.p, .string f.d] Tryz.underlying23 size2 (by rw [hmin]; rfl)
      (fun j v hj => by rw [Lg.add_eq, cell_heap hv1]; simpa using hj)
      (fun j hj => by rw [cell_heap q1, Array.getElem?_eq_getElem (by simp at hj; omega)]; rfl) (fun j hj => frozen_heap q1 _) hf1
    rw [this, hmin, eW2]
  have hcpB : ∀ ty n1 c1 n2 c2, Nat.min n2 n1 = l.length - i → (Builtin.copy_ #[23, 23] ty #[.slice (some ⟨w.heap.size, (i + 1) * 2, none⟩) n1 c1, .slice (some ⟨g, i * 2, none⟩) n2 c2]).run Tryz.prog W2.drew = .ok (goInt (l.length - i : Nat)) W3 := fun ty n1 c1 n2 c2 hm => by
    have hh2 : W2.drew.heap[g]? = some (.cells cur 49 (0, 0)) := by rw [heap_drew, eW2, setCells_ne (by omega)]; exact hh1
    rw [eW3, ← hm]
    exact run_copy2 W2.drew _ _ ty 49 w.heap.size ((i + 1) * 2) n1 c1 ⟨g, i * 2, none⟩ n2 c2 (fc (l.drop i)) Tryz.underlying23 size2 (by rw [hdl, hm])
      (fun j v hj => by
        rw [Addr.add_lit, cell_heap hh2]
        rw [← fc_drop, List.getElem?_drop] at hj
        exact cur_at hcc hj)
      (fun j hj => by rw [cell_heap (w := W2.drew) k1, Array.getElem?_eq_getElem (by omega)]; rfl) (fun j hj => frozen_heap (w := W2.drew) k1 _) (fc_cell _)
  have EN : Hid (InsSays B0 l f i w (.returned (.slice (some ⟨w.heap.size, 0, none⟩) (l.length + 1) G)) W3) := Lib.hid (by
    refine ⟨_, rfl, ?_, ?_⟩
    · rw [← ins_len (f := f) (Nat.le_of_lt hi)]
      refine own_shut hBw k3 (by rw [ins_len (Nat.le_of_lt hi)]; exact hGn) hGm hz3 ?_
      rw [ins_len (Nat.le_of_lt hi), fc_ins, k4, k2]
      have := grow_list (C := ROW.toList) (P := [.string f.p, .string f.d]) (D := fc (l.drop i)) (a := i * 2) rfl (by simp; omega)
      rw [show (i + 1) * 2 = i * 2 + 2 by omega, show (l.length + 1) * 2 = i * 2 + 2 + (fc (l.drop i)).length by omega]
      rw [show i * 2 + [Value.string f.p, .string f.d].length = i * 2 + 2 from rfl, this, hRt]
    · rw [eW3, eW2, eW1]
      exact (((Below.refl _ _).drew.alloc hBw _).trans (setCells_below hBw _ _ _)).drew.trans (setCells_below hBw _ _ _))
  clear eW1 eW2 eW3 k1 k2 k3 k4 hz2 hz3 hdl htl hcs hcc hh hv hh1 hv1 q1 hold hROW hRs hRt hG hlg hlv hBw hzi hzs hi0 hz0 hz1 hzb
  generalize InsSays B0 l f i w = Q at *
  generalize w.heap.size = N at *
  unfold maxLen at hGm
  have h1 : ¬ ((i : Int) = (l.length : Int)) := by omega
  have h2 : (l.length : Int) < (l.length : Int) + 1 := by omega
  have h3 : ¬ l.length = i := by omega
  have h4 : ¬ G = i + 1 := by omega
  have h5 : i ≤ l.length := by omega
  have h8 : (i : Int) ≤ (l.length : Int) + 1 := by omega
  have h9 : i ≤ l.length + 1 := by omega
  have h6 : ¬ G = i := by omega
  have h7 : (i : Int) ≤ (l.length : Int) := by omega
  have hw1 : IntKind.i64.wrap ((i : Int) + 1) = (i : Int) + 1 := by rw [IntKind.wrap_i64]; omega
  have hb1 : (0 : Int) ≤ (i : Int) + 1 := by omega
  have htn : ((i : Int) + 1).toNat = i + 1 := by omega
  have HZ := Lib.hid hrz
  have H1 := Lib.hid hcpA
  have H2 := Lib.hid hcpB
  clear hcpA hcpB hrz
  go_enter Tryz.func138, Tryz.ntmps138
  have hc2 := H1.out 3 (l.length + 1 - i) (G - i) (by omega)
  go_wp2_with (at_builtin; refine Lib.wpList_append_run _ rfl _ _ _ _ rfl _ _ rfl rfl _ _ (HZ.out _) ?_)
  go_region_law (refine step_copy_runI rfl _ _ 23 23 rfl (.slice (some ⟨N, (i + 1) * 2, none⟩) (l.length + 1 - (i + 1)) (G - (i + 1))) (.slice (some ⟨g, i * 2, none⟩) (l.length - i) (l.length - i)) (by simp [Act.eval, Act.put]) (by simp [Act.eval, Act.put]) (H2.out _ _ _ _ _ (by show min _ _ = _; omega)) ?_)
  go_wp2
  exact EN.out
theorem insert_any (B0 : Nat) (v : Value) (l : List Fl) (f : Fl) (i vb : Nat) (w : World) (ho : w.ownsRow B0 49 2 v l.length (fc l)) (hv : w.heap[vb]? = some (.cells #[.string f.p, .string f.d] 49 (0, 0))) (hB : B0 ≤ w.heap.size) (hl : l.length ≤ 1000) (hi : i ≤ l.length) (hne : v.ownBlock ≠ some vb) :
    Calls Tryz.prog 138 #[v, .int .i64 i, .slice (some ⟨vb, 0, none⟩) 1 1] w (InsSays B0 l f i w) := by
  rcases Nat.lt_or_ge i l.length with h | h
  · obtain ⟨_, ⟨_, rfl⟩ | ⟨g, cap, cur, rfl, hBg, hh, hc, hc2, h3, h4⟩⟩ := own_open ho
    · simp at h
    · have hg : vb ≠ g := fun e => hne (by rw [e]; rfl)
      rcases Nat.lt_or_ge l.length cap with h5 | h5
      · exact insert_room B0 g cap cur l f i vb w hBg hh h3 h4 h h5 hc2 hv hg
      · obtain rfl : cap = l.length := by omega
        exact insert_grow B0 g cur l f i vb w hB hh h3 h4 h hl hv
  · obtain rfl : i = l.length := by omega
    exact insert_end B0 v l f vb w ho hv hB hl
end Go.Proofs.YtdidnlkilleljaaGreatDoor.Bx
/- BxDelete, what a claim needs of it (prune.py). -/
namespace Go.Proofs.YtdidnlkilleljaaGreatDoor.Bx
open Go.RowKit
open Fs (fc fc_len fc_at fc_cell fc_append fc_one Fls infoF B idx idx_cases NoneTo)
set_option linter.unusedVariables false
set_option maxRecDepth 100000
structure Kept (p : Fl → Bool) (l : List Fl) (i j : Nat) (dk : List Fl) : Prop where
  len : dk.length = l.length
  lt : i < j
  le : j ≤ l.length
  low : dk.take i = (l.take j).filter fun x => !p x
  high : dk.drop j = l.drop j
theorem Kept.start {p : Fl → Bool} {l : List Fl} {k : Nat} (hk : k < l.length) (hn : ∀ j (hj : j < l.length), j < k → p l[j] = false) (hp : p l[k] = true) : Kept p l k (k + 1) l := by
  refine ⟨rfl, by omega, by omega, ?_, rfl⟩
  rw [List.take_succ_eq_append_getElem hk, List.filter_append]
  have h1 : (l.take k).filter (fun x => !p x) = l.take k := by
    rw [List.filter_eq_self]
    intro x hx
    obtain ⟨j, hj, rfl⟩ := List.mem_iff_getElem.1 hx
    simp only [List.length_take] at hj
    rw [List.getElem_take, hn j (by omega) (by omega)]; rfl
  rw [h1]
  simp [hp]
theorem Kept.skip {p : Fl → Bool} {l dk : List Fl} {i j : Nat} (h : Kept p l i j dk) (hj : j < l.length) (hp : p l[j] = true) : Kept p l i (j + 1) dk := by
  refine ⟨h.len, by have := h.lt; omega, by omega, ?_, ?_⟩
  · rw [List.take_succ_eq_append_getElem hj, List.filter_append, h.low]
    simp [hp]
  · have := congrArg (List.drop 1) h.high
    simpa [List.drop_drop] using this
theorem Kept.at_ {p : Fl → Bool} {l dk : List Fl} {i j : Nat} (h : Kept p l i j dk) (hj : j < l.length) : dk[j]'(by rw [h.len]; exact hj) = l[j] := by
  have h1 := congrArg (fun x => x[0]?) h.high
  simp only [List.getElem?_drop, Nat.add_zero] at h1
  rw [List.getElem?_eq_getElem (by rw [h.len]; exact hj), List.getElem?_eq_getElem hj] at h1
  exact Option.some.inj h1
theorem Kept.keep {p : Fl → Bool} {l dk : List Fl} {i j : Nat} (h : Kept p l i j dk) (hj : j < l.length) (hp : p l[j] = false) : Kept p l (i + 1) (j + 1) (dk.set i l[j]) := by
  have hlt := h.lt
  have hlen := h.len
  refine ⟨by simp [h.len], by omega, by omega, ?_, ?_⟩
  · rw [List.take_succ_eq_append_getElem hj, List.filter_append, ← h.low, List.take_succ_eq_append_getElem (by simp; omega), List.take_set, List.set_eq_of_length_le (by simp only [List.length_take]; omega)]
    simp [hp]
  · have h1 := congrArg (List.drop 1) h.high
    rw [List.drop_set_of_lt (by omega)]
    simpa [List.drop_drop] using h1
def DelSays (B0 : Nat) (m : List Fl) (w : World) (e : Ending) (w' : World) : Prop := ∃ v', e = .returned v' ∧ w'.ownsRow B0 49 2 v' m.length (fc m) ∧ Below B0 w w'
theorem fc_set {cur : Array Value} {dk : List Fl} {i : Nat} (f : Fl) (h : cur.toList.take (dk.length * 2) = fc dk) (hi : i < dk.length) (hs : dk.length * 2 ≤ cur.size) :
    ((cur.setIfInBounds (i * 2) (.string f.p)).setIfInBounds (i * 2 + 1) (.string f.d)).toList.take ((dk.set i f).length * 2) = fc (dk.set i f) := by
  apply List.ext_getElem?
  intro j
  have hl := fc_len (dk.set i f)
  rw [List.length_set] at hl
  by_cases hj : j < dk.length * 2
  · have hq : j / 2 < (dk.set i f).length := by rw [List.length_set]; omega
    have hq2 : j / 2 < dk.length := by omega
    obtain ⟨e0, e1⟩ := fc_at hq
    obtain ⟨o0, o1⟩ := fc_at hq2
    have hcur : ∀ k v, (fc dk)[k]? = some v → cur[k]? = some v := fun k v hv => cur_at h hv
    rw [List.length_set, List.getElem?_take, if_pos hj]
    simp only [Array.toList_setIfInBounds, List.getElem?_set, List.length_set, Array.length_toList, List.getElem_set] at e0 e1 ⊢
    rcases Nat.mod_two_eq_zero_or_one j with h3 | h3
    · rw [show j / 2 * 2 = j by omega] at e0 o0
      rw [e0, if_neg (by omega)]
      by_cases h4 : i = j / 2
      · rw [if_pos (by omega), if_pos (by omega), if_pos h4]
      · rw [if_neg (by omega), if_neg h4]
        have := hcur _ _ o0
        simpa using this
    · rw [show j / 2 * 2 + 1 = j by omega] at e1 o1
      rw [e1]
      by_cases h4 : i = j / 2
      · rw [if_pos (by omega), if_pos (by omega), if_pos h4]
      · rw [if_neg (by omega), if_neg (by omega), if_neg h4]
        have := hcur _ _ o1
        simpa using this
  · rw [List.getElem?_eq_none (by rw [List.length_set]; simp; omega), List.getElem?_eq_none (by omega)]
def RowIn (B0 g cap : Nat) (w W : World) (dk : List Fl) : Prop := (∃ cur, W.heap[g]? = some (.cells cur 49 (0, 0)) ∧ cur.size = cap * 2 ∧ cur.toList.take (dk.length * 2) = fc dk) ∧ Below B0 w W
theorem RowIn.next {B0 g cap : Nat} {w W W' : World} {dk : List Fl} (h : RowIn B0 g cap w W dk) (hB : B0 ≤ W.heap.size) (hb : Below W.heap.size W W') : RowIn B0 g cap w W' dk := by
  obtain ⟨⟨cur, h1, h2, h3⟩, h4⟩ := h
  exact ⟨⟨cur, heap_below hb (lt_heap h1) h1, h2, h3⟩, h4.trans (hb.mono hB)⟩
theorem RowIn.put {B0 g cap : Nat} {w W : World} {dk : List Fl} (h : RowIn B0 g cap w W dk) (hg : B0 ≤ g) {i : Nat} (f : Fl) (hi : i < dk.length) (hc : dk.length ≤ cap) : RowIn B0 g cap w ((W.setCell ⟨g, i * 2, none⟩ (.string f.p)).setCell ⟨g, i * 2 + 1, none⟩ (.string f.d)) (dk.set i f) := by
  obtain ⟨⟨cur, h1, h2, h3⟩, h4⟩ := h
  exact ⟨⟨_, heap_set (heap_set h1), by simp [h2], fc_set f h3 hi (by omega)⟩, (h4.setCell (p := ⟨g, i * 2, none⟩) hg _).setCell (p := ⟨g, i * 2 + 1, none⟩) hg _⟩
theorem filter_none {p : Fl → Bool} {l : List Fl} (h : l.find? p = none) : l.filter (fun x => !p x) = l := by
  rw [List.filter_eq_self]
  intro x hx
  have := List.find?_eq_none.1 h x hx
  simpa using this
theorem idx_hits {p : Fl → Bool} {l : List Fl} {k : Nat} (hk : k < l.length) (h : l.find? p = some l[k]) (hi : idx p l = k) : p l[k] = true ∧ ∀ j (hj : j < l.length), j < k → p l[j] = false := by
  unfold idx at hi
  cases e : l.findIdx? p with
  | none => rw [e] at hi; simp only at hi; omega
  | some i =>
    rw [e] at hi
    have : i = k := by simp only at hi; omega
    subst this
    obtain ⟨_, h2, h3⟩ := List.findIdx?_eq_some_iff_getElem.1 e
    exact ⟨h2, fun j hj hjk => by simpa using h3 j hjk⟩
set_option maxHeartbeats 4000000 in
theorem delete_any (gf : Nat) (lb : Array Value) (eg : ∀ args w, (callFunc gf args).run Tryz.prog w = .ok (.enter gf args) w) (p : Fl → Bool) (B0 : Nat) (v : Value) (l : List Fl) (w : World) (ho : w.ownsRow B0 49 2 v l.length (fc l)) (hB : B0 ≤ w.heap.size) (hl : l.length ≤ 1000)
    (hp : ∀ f ∈ l, ∀ W, Below B0 w W → Calls Tryz.prog gf (#[.agg #[.string f.p, .string f.d]] ++ lb) W fun e w' => e = .returned (.bool (p f)) ∧ Below W.heap.size W w') :
    Calls Tryz.prog 221 #[v, .func (.func gf) #[] lb] w (DelSays B0 (l.filter fun x => !p x) w) := by
  have EN : Hid (∀ v' m w', m = (l.filter fun x => !p x) → w'.ownsRow B0 49 2 v' m.length (fc m) → Below B0 w w' → DelSays B0 (l.filter fun x => !p x) w (.returned v') w') := Lib.hid fun v' m w' h1 h2 h3 => ⟨v', rfl, by rw [← h1]; exact h2, h3⟩
  have IXA : ∀ A c, v = .slice A l.length c → Hid (Calls Tryz.prog 88 #[v, .func (.func gf) #[] lb] w fun e w' => e = .returned (.int .i64 (idx p l)) ∧ Below w.heap.size w w') := fun A c e => Lib.hid (by
    subst e
    exact Fs.indexF_any gf lb eg p A l c w (Reads.of_own ho) (by omega) (fun f hf W hW => hp f hf W (hW.mono hB)))
  have PR := Lib.hid hp
  have HO := Lib.hid ho
  generalize DelSays B0 (l.filter fun x => !p x) w = Q at *
  obtain ⟨_, h | ⟨g, cap, cur, rfl, hg, hh, hc, hc2, h3, h4⟩⟩ := own_open ho
  · obtain ⟨rfl, rfl⟩ := h
    have IX := IXA none 0 rfl
    clear hp ho IXA
    rw [show idx p [] = -1 from rfl] at IX
    go_enter Tryz.func221, Tryz.ntmps221
    go_wp2_with (go_at_call 88; (with_reducible refine (IX.out).mono ?_); rintro e w1 ⟨rfl, hb⟩)
    exact EN.out _ [] _ rfl (World.ownsRow_nil _ _ _ _) (hb.mono hB)
  · have IX := IXA _ _ rfl
    have R0 : Hid (RowIn B0 g cap w w l) := Lib.hid ⟨⟨cur, hh, h3, h4⟩, Below.refl _ _⟩
    clear hp ho IXA hh h3 h4
    unfold maxLen at hc2
    rcases idx_cases p l with ⟨e1, e2⟩ | ⟨k0, hk0, e1, e2⟩
    · rw [e1] at IX
      have F := Lib.hid (filter_none e2)
      clear e1 e2
      go_enter Tryz.func221, Tryz.ntmps221
      go_wp2_with (go_at_call 88; (with_reducible refine (IX.out).mono ?_); rintro e w1 ⟨rfl, hb⟩)
      exact EN.out _ l _ F.out.symm (own_on HO.out hb) (hb.mono hB)
    · obtain ⟨hp1, hp2⟩ := idx_hits hk0 e2 e1
      rw [e1] at IX
      have K0 := Lib.hid (Kept.start hk0 hp2 hp1)
      clear e1 e2 hp1 hp2
      have hne1 : ((k0 : Int) == -1) = false := beq_eq_false_iff_ne.2 (by omega)
      have hne2 : ¬ ((k0 : Int) = -1) := by omega
      go_enter Tryz.func221, Tryz.ntmps221
      go_wp2_with (go_at_call 88; (with_reducible refine (IX.out).mono ?_); rintro e w1 ⟨rfl, hb⟩)
      have R1 := Lib.hid (R0.out.next hB hb)
      clear hb R0
      go_loopw [5, 6] (fun a b W => ∃ (i j : Nat) (dk : List Fl), a = .int .i64 i ∧ b = .int .i64 j ∧ Kept p l i j dk ∧ RowIn B0 g cap w W dk) (fun _ b _ => l.length - (intOf b).toNat)
      case atStart => exact ⟨k0, k0 + 1, l, rfl, by go_num, K0.out, R1.out⟩
      case round =>
        obtain ⟨i, j, dk, rfl, rfl, hk, hr⟩ := hrel
        have KK := Lib.hid hk
        have RR := Lib.hid hr
        have hij := hk.lt
        have hjl := hk.le
        have hdl := hk.len
        have hBr : B0 ≤ wr.heap.size := Nat.le_trans hB hr.2.size
        obtain ⟨cur, hh, h3, h4⟩ := hr.1
        have hgl := lt_heap hh
        clear hk hr K0 R1
        by_cases hlt : j < l.length
        · have hltI : (j : Int) < (l.length : Int) := by omega
          have hiI : (i : Int) < (l.length : Int) := by omega
          have ej := KK.out.at_ hlt
          obtain ⟨f0, f1⟩ := fc_at (l := dk) (k := j) (by omega)
          rw [ej] at f0 f1
          have c0 : wr.cell? ⟨g, j * 2, none⟩ = some (.string l[j].p) := (cell_heap hh _).trans (cur_at h4 f0)
          have c1 : wr.cell? ⟨g, j * 2 + 1, none⟩ = some (.string l[j].d) := (cell_heap hh _).trans (cur_at h4 f1)
          obtain ⟨W1, eW⟩ : ∃ W1, W1 = wr.alloc (.cells #[.string l[j].p, .string l[j].d] 49) := ⟨_, rfl⟩
          have hb1 : Below wr.heap.size wr W1 := by rw [eW]; exact (Below.refl _ _).alloc (Nat.le_refl _) _
          have R1 := Lib.hid (RR.out.next hBr hb1)
          have q0 : W1.heap[wr.heap.size]? = some (.cells #[.string l[j].p, .string l[j].d] 49 (0, 0)) := by rw [eW]; exact heap_alloc_new wr _
          have hz1 := hb1.size
          have d0 : W1.cell? ⟨wr.heap.size, 0, none⟩ = some (.string l[j].p) := (cell_heap q0 0).trans rfl
          have d1 : W1.cell? ⟨wr.heap.size, 1, none⟩ = some (.string l[j].d) := (cell_heap q0 1).trans rfl
          have AF := Lib.hid (PR.out l[j] (List.getElem_mem hlt) W1 (R1.out.2))
          have Q0 := Lib.hid q0
          have hh1 := Lib.hid (heap_below hb1 hgl hh)
          have NK := Lib.hid (fun h => KK.out.keep hlt h)
          have NS := Lib.hid (fun h => KK.out.skip hlt h)
          have hng : ¬ g = wr.heap.size := by omega
          clear hh h4 f0 f1 ej q0 hb1
          have PUT : Hid (∀ W2, Below W1.heap.size W1 W2 → RowIn B0 g cap w ((W2.setCell ⟨g, i * 2, none⟩ (.string l[j].p)).setCell ⟨g, i * 2 + 1, none⟩ (.string l[j].d)) (dk.set i l[j])) := Lib.hid fun W2 h2 => (R1.out.next (Nat.le_trans hBr hz1) h2).put hg l[j] (by omega) (by omega)
          have CI : Hid (∀ W2, Below W1.heap.size W1 W2 → (∃ u, W2.cell? ⟨g, i * 2, none⟩ = some u) ∧ (∃ u, W2.cell? ⟨g, i * 2 + 1, none⟩ = some u) ∧ W2.frozen? ⟨g, i * 2, none⟩ = false ∧ W2.frozen? ⟨g, i * 2 + 1, none⟩ = false ∧ W2.cell? ⟨wr.heap.size, 0, none⟩ = some (.string l[j].p) ∧ W2.cell? ⟨wr.heap.size, 1, none⟩ = some (.string l[j].d)) := Lib.hid fun W2 h2 => by
            have hx := heap_below h2 (lt_heap hh1.out) hh1.out
            have hy := heap_below h2 (lt_heap Q0.out) Q0.out
            exact ⟨⟨_, (cell_heap hx _).trans (Array.getElem?_eq_getElem (by omega))⟩, ⟨_, (cell_heap hx _).trans (Array.getElem?_eq_getElem (by omega))⟩, frozen_heap hx _, frozen_heap hx _, (cell_heap hy 0).trans rfl, (cell_heap hy 1).trans rfl⟩
          cases hpf : p l[j]
          · rw [hpf] at AF
            have N1 := Lib.hid (NK.out hpf)
            clear hpf NK NS
            generalize l[j] = f at *
            go_wp2_with (go_at_fn gf; rw [← eW]; clear eW; (with_reducible refine (AF.out).mono ?_); rintro e w2 ⟨rfl, hb2⟩; obtain ⟨⟨u0, x0⟩, ⟨u1, x1⟩, x2, x3, x4, x5⟩ := CI.out _ hb2; have HP := Lib.hid (PUT.out _ hb2))
            go_roundw
            case rel => exact ⟨i + 1, j + 1, _, by go_num, by go_num, N1.out, HP.out⟩
            case measure => simp [intOf]; omega
          · rw [hpf] at AF
            have N1 := Lib.hid (NS.out hpf)
            clear hpf NK NS
            generalize l[j] = f at *
            go_wp2_with (go_at_fn gf; rw [← eW]; clear eW; (with_reducible refine (AF.out).mono ?_); rintro e w2 ⟨rfl, hb2⟩)
            go_roundw
            case rel => exact ⟨i, j + 1, dk, rfl, by go_num, N1.out, R1.out.next (Nat.le_trans hBr hz1) hb2⟩
            case measure => simp [intOf]; omega
        · obtain rfl : j = l.length := by omega
          have hci : ¬ cap = i := by omega
          have hil : i ≤ l.length := by omega
          obtain ⟨cur', k1, k2⟩ := setCells_at (fc (List.replicate (l.length - i) ⟨⟨#[]⟩, ⟨#[]⟩⟩)) (i * 2) wr cur hh (by rw [fc_len, List.length_replicate]; omega)
          have hs' : cur'.size = cap * 2 := by
            have := congrArg List.length k2
            simp only [Array.length_toList, List.length_append, List.length_take, List.length_drop, fc_len, List.length_replicate] at this
            omega
          obtain ⟨W3, eW3⟩ : ∃ W3, W3 = wr.setCells g (i * 2) (fc (List.replicate (l.length - i) ⟨⟨#[]⟩, ⟨#[]⟩⟩)) := ⟨_, rfl⟩
          have hcl : ∀ ty, (Builtin.clear_ #[23] ty #[.slice (some ⟨g, i * 2, none⟩) (l.length - i) (cap - i)]).run Tryz.prog wr = .ok (.tuple #[]) W3 := fun ty => by
            have hzc := zero_cells (l.length - i)
            have hl2 : (fc (List.replicate (l.length - i) (⟨⟨#[]⟩, ⟨#[]⟩⟩ : Fl))).length = (l.length - i) * 2 := by rw [fc_len, List.length_replicate]
            have := run_clear_cells (P := Tryz.prog) wr 23 49 ty (.agg #[.string ⟨#[]⟩, .string ⟨#[]⟩]) Tryz.underlying23 (fun _ => by kernel_rfl) g (i * 2) (l.length - i) (cap - i) (by omega)
              (by rw [hzc]; exact fc_cell _) (fun q hq => by rw [hzc, hl2] at hq; rw [cell_heap hh, Array.getElem?_eq_getElem (by omega)]; rfl) (fun q hq => frozen_heap hh _)
            rw [this, hzc, eW3]
          have FIN : Hid (Q (.returned (.slice (some ⟨g, 0, none⟩) i cap)) W3) := Lib.hid (by
            have hlow := KK.out.low
            rw [List.take_length] at hlow
            have hli : (dk.take i).length = i := by simp; omega
            have := own_shut (w := W3) (l := dk.take i) (cur := cur') hg (by rw [eW3]; exact k1) (by rw [hli]; omega) (by unfold maxLen; omega) hs' (by
              rw [k2, hli, List.append_assoc, List.take_append_of_le_length (by simp; omega), List.take_take, Nat.min_self, ← fc_take, ← h4, List.take_take, Nat.min_eq_left (by omega)])
            rw [hli] at this
            refine EN.out _ (dk.take i) _ hlow ?_ ?_
            · rw [hli]; exact this
            · rw [eW3]; exact RR.out.2.trans (setCells_below hg _ _ _))
          clear eW3 k1 k2 hh h3 h4 hs' KK RR
          go_wp2_with (fail)
          exact FIN.out
end Go.Proofs.YtdidnlkilleljaaGreatDoor.Bx
/- BxRight, what a claim needs of it (prune.py). -/
namespace Go.Proofs.YtdidnlkilleljaaGreatDoor.Bx
open Fs (B belowB under checkE badF Twice)
set_option linter.unusedVariables false
structure RightF (l : List Fl) : Prop where
  each : ∀ f ∈ l, Lg.pathOk (tl f.p) = true ∧ f.d.size ≤ 2048
  len : l.length ≤ 32
  up : l.Pairwise fun a b => tl a.p < tl b.p
  apart : ∀ a ∈ l, ∀ b ∈ l, (belowB (tl a.p) (tl b.p)).isSome = false
theorem rising {l : List Fl} (h : ∀ i (hi : i < l.length), 0 < i → tl (l[i - 1]'(Nat.lt_of_le_of_lt (Nat.sub_le i 1) hi)).p < tl l[i].p) : l.Pairwise fun a b => tl a.p < tl b.p := by
  rw [List.pairwise_iff_getElem]
  intro i j hi hj hij
  induction j with
  | zero => omega
  | succ j ih =>
    have h1 := h (j + 1) hj (by omega)
    simp only [Nat.add_sub_cancel] at h1
    rcases Nat.lt_or_ge i j with h2 | h2
    · exact List.lt_trans (ih (by omega) h2) h1
    · obtain rfl : i = j := by omega
      exact h1
theorem badF_none {f : Fl} : badF f = none ↔ Lg.pathOk (tl f.p) = true ∧ f.d.size ≤ 2048 := by
  unfold badF
  by_cases h : Lg.pathOk (tl f.p) = false
  · rw [if_pos h, h]; simp
  · rw [if_neg h]
    have h' : Lg.pathOk (tl f.p) = true := by simpa using h
    by_cases h2 : 2048 < f.d.size
    · rw [if_pos h2]; simp; omega
    · rw [if_neg h2]; simp [h']; omega
theorem right_iff {l : List Fl} : checkE l = 0 ↔ RightF l := by
  constructor
  · intro h
    unfold checkE at h
    cases hf : l.findSome? badF with
    | some c =>
      rw [hf] at h
      simp only at h
      subst h
      obtain ⟨f, hm, hb⟩ := List.exists_of_findSome?_eq_some hf
      unfold badF at hb
      split at hb
      · exact absurd (Option.some.inj hb) (by decide)
      · split at hb
        · exact absurd (Option.some.inj hb) (by decide)
        · cases hb
    | none =>
      rw [hf] at h
      simp only at h
      by_cases h32 : 32 < l.length
      · rw [if_pos h32] at h; exact absurd h (by decide)
      · rw [if_neg h32] at h
        by_cases ht : Twice l
        · rw [if_pos ht] at h; exact absurd h (by decide)
        · refine ⟨fun f hm => badF_none.1 (List.findSome?_eq_none_iff.1 hf f hm), by omega, rising fun i hi h0 => ?_, fun a ha b hb => ?_⟩
          · exact Decidable.byContradiction fun hn => ht (.inl ⟨i, hi, h0, hn⟩)
          · obtain ⟨i, hi, rfl⟩ := List.mem_iff_getElem.1 ha
            obtain ⟨k, hk, rfl⟩ := List.mem_iff_getElem.1 hb
            cases e : (belowB (tl l[i].p) (tl l[k].p)).isSome with
            | false => rfl
            | true => exact absurd (.inr ⟨i, hi, k, hk, e⟩) ht
  · intro h
    have hf : l.findSome? badF = none := List.findSome?_eq_none_iff.2 fun f hm => badF_none.2 (h.each f hm)
    unfold checkE
    rw [hf]
    simp only
    have h32 := h.len
    rw [if_neg (by omega)]
    refine if_neg ?_
    rintro (⟨i, hi, h0, h1⟩ | ⟨i, hi, k, hk, h1⟩)
    · exact h1 (List.pairwise_iff_getElem.1 h.up (i - 1) i (by omega) hi (by omega))
    · rw [h.apart _ (List.getElem_mem hi) _ (List.getElem_mem hk)] at h1
      cases h1
theorem lt_cut : ∀ (p : B) {a b : B}, p ++ a < p ++ b → a < b
  | [], a, b, h => h
  | c :: p, a, b, h => by
    rw [List.cons_append, List.cons_append, List.cons_lt_cons_iff] at h
    rcases h with h | ⟨_, h⟩
    · exact absurd h (by simp)
    · exact lt_cut p h
theorem below_is {s p r : B} (h : belowB s p = some r) : s = p ++ 47 :: r ∧ r ≠ [] := by
  obtain ⟨h1, h2⟩ := Fs.below_tl h
  obtain ⟨t, rfl⟩ := h2
  have hl := Fs.below_len h
  refine ⟨?_, fun e => by rw [e] at hl; simp at hl⟩
  rw [h1]
  simp
theorem below_some {s p : B} : (belowB s p).isSome = true ↔ ∃ r, r ≠ [] ∧ s = p ++ 47 :: r := by
  constructor
  · intro h
    obtain ⟨r, hr⟩ := Option.isSome_iff_exists.1 h
    exact ⟨r, (below_is hr).2, (below_is hr).1⟩
  · rintro ⟨r, hr, rfl⟩
    unfold belowB
    rw [if_pos]
    · rfl
    · refine ⟨⟨r, by simp⟩, ?_⟩
      cases r with
      | nil => exact absurd rfl hr
      | cons c r => simp
theorem path_cut {p r : B} (h : Lg.pathOk (p ++ 47 :: r) = true) (hr : r ≠ []) : Lg.pathOk r = true := by
  unfold Lg.pathOk at h ⊢
  rw [Lg.split_two] at h
  simp only [Bool.and_eq_true, decide_eq_true_eq, List.all_append, List.length_append, List.length_cons] at h ⊢
  refine ⟨⟨?_, by omega⟩, h.2.2⟩
  cases r with
  | nil => exact absurd rfl hr
  | cons c r => simp
theorem under_rightF {l : List Fl} (h : RightF l) (p : B) : RightF (under l p) := by
  refine ⟨fun f hf => ?_, Nat.le_trans (Fs.under_len l p) h.len, ?_, fun a ha b hb => ?_⟩
  · obtain ⟨g, hg, r, hr, rfl⟩ := Fs.mem_under hf
    obtain ⟨e, hne⟩ := below_is hr
    have h1 := h.each g hg
    rw [e] at h1
    exact ⟨path_cut h1.1 hne, h1.2⟩
  · unfold Fs.under
    rw [List.pairwise_filterMap]
    refine h.up.imp fun {a b} hab x hx y hy => ?_
    obtain ⟨r, hr, rfl⟩ := Option.map_eq_some_iff.1 hx
    obtain ⟨q, hq, rfl⟩ := Option.map_eq_some_iff.1 hy
    rw [(below_is hr).1, (below_is hq).1] at hab
    have := lt_cut p hab
    exact lt_cut [47] this
  · obtain ⟨g, hg, r, hr, rfl⟩ := Fs.mem_under ha
    obtain ⟨k, hk, q, hq, rfl⟩ := Fs.mem_under hb
    have h1 := h.apart g hg k hk
    rw [(below_is hr).1, (below_is hq).1] at h1
    cases e : (belowB (tl (bs r)) (tl (bs q))).isSome with
    | false => rfl
    | true =>
      obtain ⟨t, ht, e2⟩ := below_some.1 e
      have e2 : r = q ++ 47 :: t := e2
      have : (belowB (p ++ 47 :: r) (p ++ 47 :: q)).isSome = true := below_some.2 ⟨t, ht, by rw [e2]; simp⟩
      rw [h1] at this
      cases this
theorem under_right {l : List Fl} (h : checkE l = 0) (p : B) : checkE (under l p) = 0 := right_iff.2 (under_rightF (right_iff.1 h) p)
end Go.Proofs.YtdidnlkilleljaaGreatDoor.Bx
