/- Joined by mkmerged.py: BxInsert2. -/
import Derived.Test.YthkaehnhdldbbaaGreatDoorMe22
import Derived.RegionTactic
/- BxInsert2, what a claim needs of it (prune.py). -/
namespace Go.Proofs.YthkaehnhdldbbaaGreatDoor.Bx
open Go.RowKit
open Fs (fc fc_len fc_cell fc_append fc_one Fls infoF B)
set_option linter.unusedVariables false
set_option maxRecDepth 100000
theorem size2 : (Tryz.prog.info? 37).map (·.size) = some 2 := by kernel_rfl
theorem heap_drew (w : World) (b : Nat) : w.drew.heap[b]? = w.heap[b]? := rfl
set_option maxHeartbeats 4000000 in
theorem insert_room (B0 g cap : Nat) (cur : Array Value) (l : List Fl) (f : Fl) (i vb : Nat) (w : World) (hBg : B0 ≤ g) (hh : w.heap[g]? = some (.cells cur 37 (0, 0))) (hcs : cur.size = cap * 2) (hcc : cur.toList.take (l.length * 2) = fc l) (hi : i < l.length) (hr : l.length + 1 ≤ cap) (hc2 : cap ≤ maxLen)
    (hv : w.heap[vb]? = some (.cells #[.string f.p, .string f.d] 37 (0, 0))) (hne : vb ≠ g) :
    Calls Tryz.prog 141 #[.slice (some ⟨g, 0, none⟩) l.length cap, .int .i64 i, .slice (some ⟨vb, 0, none⟩) 1 1] w (InsSays B0 l f i w) := by
  have hdl : (fc (l.drop i)).length = (l.length - i) * 2 := by rw [fc_len, List.length_drop]
  obtain ⟨cur2, k1, k2⟩ := setCells_at (fc (l.drop i)) ((i + 1) * 2) w.drew cur hh (by omega)
  have hz2 : cur2.size = cap * 2 := by
    have := congrArg List.length k2
    simp only [Array.length_toList, List.length_append, List.length_take, List.length_drop] at this
    omega
  obtain ⟨W2, eW2⟩ : ∃ W2, W2 = w.drew.setCells g ((i + 1) * 2) (fc (l.drop i)) := ⟨_, rfl⟩
  rw [← eW2] at k1
  obtain ⟨cur3, k3, k4⟩ := setCells_at [.string f.p, .string f.d] (i * 2) W2 cur2 k1 (by simp; omega)
  have hz3 : cur3.size = cap * 2 := by
    have := congrArg List.length k4
    simp only [Array.length_toList, List.length_append, List.length_take, List.length_drop, List.length_cons, List.length_nil] at this
    omega
  obtain ⟨W3, eW3⟩ : ∃ W3, W3 = W2.setCells g (i * 2) [.string f.p, .string f.d] := ⟨_, rfl⟩
  rw [← eW3] at k3
  have hcp1 : ∀ ty n1 c1 n2 c2, Nat.min n2 n1 = l.length - i → (Builtin.copy_ #[23, 23] ty #[.slice (some ⟨g, (i + 1) * 2, none⟩) n1 c1, .slice (some ⟨g, i * 2, none⟩) n2 c2]).run Tryz.prog w.drew = .ok (goInt (l.length - i : Nat)) W2 := fun ty n1 c1 n2 c2 hm => by
    rw [eW2, ← hm]
    exact run_copy2 w.drew _ _ ty 37 g ((i + 1) * 2) n1 c1 ⟨g, i * 2, none⟩ n2 c2 (fc (l.drop i)) Tryz.underlying23 size2 (by rw [hdl, hm])
      (fun j v hj => by
        rw [Addr.add_lit, cell_heap (w := w.drew) hh]
        rw [← fc_drop, List.getElem?_drop] at hj
        exact cur_at hcc hj)
      (fun j hj => by rw [cell_heap (w := w.drew) hh, Array.getElem?_eq_getElem (by omega)]; rfl) (fun j hj => frozen_heap (w := w.drew) hh _) (fc_cell _)
  have hcp2 : ∀ ty n1 c1, 0 < n1 → (Builtin.copy_ #[23, 23] ty #[.slice (some ⟨g, i * 2, none⟩) n1 c1, .slice (some ⟨vb, 0, none⟩) 1 1]).run Tryz.prog W2 = .ok (goInt (1 : Nat)) W3 := fun ty n1 c1 hm => by
    have hmin : Nat.min 1 n1 = 1 := Nat.min_eq_left hm
    have hv2 : W2.heap[vb]? = some (.cells #[.string f.p, .string f.d] 37 (0, 0)) := by rw [eW2, setCells_ne (fun e => hne e.symm)]; exact hv
    have hf1 := fc_cell [f]
    rw [fc_one] at hf1
    have := run_copy2 (P := Tryz.prog) W2 23 23 ty 37 g (i * 2) n1 c1 ⟨vb, 0, none⟩ 1 1 [.string f.p, .string f.d] Tryz.underlying23 size2 (by rw [hmin]; rfl)
      (fun j v hj => by rw [Lg.add_eq, cell_heap hv2]; simpa using hj)
      (fun j hj => by rw [cell_heap k1, Array.getElem?_eq_getElem (by simp at hj; omega)]; rfl) (fun j hj => frozen_heap k1 _) hf1
    rw [this, hmin, eW3]
  have hov : ∀ lb cb, (callFunc 187 #[.slice (some ⟨vb, 0, none⟩) 1 1, .slice (some ⟨g, (i + 1) * 2, none⟩) lb cb]).run Tryz.prog w = .ok (.value (.bool false)) w := fun lb cb => by
    rw [run_callFunc_extern Tryz.func187 (by kernel_rfl) (by kernel_rfl) (by kernel_rfl) (e := Extern.SlicesOverlaps.overlaps #[23, 23] #[4]) (by kernel_rfl),
      Lib.run_overlaps_apart w 23 4 37 Tryz.underlying23 2 (fun _ => by kernel_rfl) ⟨vb, 0, none⟩ ⟨g, (i + 1) * 2, none⟩ 1 1 lb cb hne 37 37 2 (cap * 2) (by simp [World.shape?, hv]) (by simp [World.shape?, hh, hcs]) (by omega) (frozen_heap hv _) (frozen_heap hv _)]
    rfl
  have EN : Hid (InsSays B0 l f i w (.returned (.slice (some ⟨g, 0, none⟩) (l.length + 1) cap)) W3) := Lib.hid (by
    refine ⟨_, rfl, ?_, ?_⟩
    · rw [← ins_len (f := f) (Nat.le_of_lt hi)]
      refine own_shut hBg k3 (by rw [ins_len (Nat.le_of_lt hi)]; exact hr) hc2 hz3 ?_
      rw [ins_len (Nat.le_of_lt hi), fc_ins, k4, k2]
      have := shift_list (C := cur.toList) (P := [.string f.p, .string f.d]) (D := fc (l.drop i)) (a := i * 2) rfl (by simp; omega)
      rw [show (i + 1) * 2 = i * 2 + 2 by omega, show (l.length + 1) * 2 = i * 2 + 2 + (fc (l.drop i)).length by omega]
      rw [show i * 2 + [Value.string f.p, .string f.d].length = i * 2 + 2 from rfl, this]
      congr 2
      rw [← fc_take, ← hcc, List.take_take, Nat.min_eq_left (by omega)]
    · rw [eW3, eW2]
      exact ((Below.refl _ _).drew.trans (setCells_below hBg _ _ _)).trans (setCells_below hBg _ _ _))
  clear eW2 eW3 k1 k2 k3 k4 hz2 hz3 hdl hcs hcc hh hv hne hBg
  generalize InsSays B0 l f i w = Q at *
  unfold maxLen at hc2
  have h1 : ¬ ((i : Int) = (l.length : Int)) := by omega
  have h2 : ¬ (cap : Int) < (l.length : Int) + 1 := by omega
  have h3 : ¬ cap = i := by omega
  have h4 : ¬ cap = i + 1 := by omega
  have h5 : i ≤ l.length := by omega
  have h8 : (i : Int) ≤ (l.length : Int) + 1 := by omega
  have h9 : i ≤ l.length + 1 := by omega
  have hw1 : IntKind.i64.wrap ((i : Int) + 1) = (i : Int) + 1 := by rw [IntKind.wrap_i64]; omega
  have hb1 : (0 : Int) ≤ (i : Int) + 1 := by omega
  have htn : ((i : Int) + 1).toNat = i + 1 := by omega
  have H1 := Lib.hid hcp1
  have H2 := Lib.hid hcp2
  clear hcp1 hcp2
  go_enter Tryz.func141, Tryz.ntmps141
  go_wp2_with (simp only [hov])
  go_region_law (refine step_copy_runI rfl _ _ 23 23 rfl (.slice (some ⟨g, (i + 1) * 2, none⟩) (l.length + 1 - (i + 1)) (cap - (i + 1))) (.slice (some ⟨g, i * 2, none⟩) (l.length + 1 - i) (cap - i)) (by simp [Act.eval, Act.put]) (by simp [Act.eval, Act.put]) (H1.out _ _ _ _ _ (by show min _ _ = _; omega)) ?_)
  have hc2 := H2.out 3 (l.length + 1 - i) (cap - i) (by omega)
  go_wp2_with (fail)
  exact EN.out
set_option maxHeartbeats 4000000 in
theorem insert_grow (B0 g : Nat) (cur : Array Value) (l : List Fl) (f : Fl) (i vb : Nat) (w : World) (hBw : B0 ≤ w.heap.size) (hh : w.heap[g]? = some (.cells cur 37 (0, 0))) (hcs : cur.size = l.length * 2) (hcc : cur.toList.take (l.length * 2) = fc l) (hi : i < l.length) (hl : l.length ≤ 1000)
    (hv : w.heap[vb]? = some (.cells #[.string f.p, .string f.d] 37 (0, 0))) :
    Calls Tryz.prog 141 #[.slice (some ⟨g, 0, none⟩) l.length l.length, .int .i64 i, .slice (some ⟨vb, 0, none⟩) 1 1] w (InsSays B0 l f i w) := by
  obtain ⟨z, hzi, hzs⟩ := infoF
  obtain ⟨i0, hi0, hz0, hz1, hzb⟩ := Lg.info_parts hzi
  have hdl : (fc (l.drop i)).length = (l.length - i) * 2 := by rw [fc_len, List.length_drop]
  have htl : (fc (l.take i)).length = i * 2 := by rw [fc_len, List.length_take, Nat.min_eq_left (by omega)]
  obtain ⟨G, hG⟩ : ∃ G, G = grownCap w (l.length + 1) l.length 37 := ⟨_, rfl⟩
  have hGn : l.length + 1 ≤ G := by rw [hG]; exact grownCap_ge w _ _ _
  have hGm : G ≤ maxLen := by rw [hG]; exact grownCap_le_maxLen w (l.length + 1) l.length 37 (by unfold maxLen; omega)
  obtain ⟨ROW, hROW⟩ : ∃ ROW : Array Value, ROW = (fc (l.take i)).toArray ++ Builtin.zeroCells z.cells (l.length + 1 - i) ++ Builtin.zeroCells z.cells (G - (l.length + 1)) := ⟨_, rfl⟩
  have hRs : ROW.size = G * 2 := by
    rw [hROW]
    simp only [Array.size_append, List.size_toArray, Builtin.zeroCells, Array.size_map, Array.size_range, hzs, htl]
    omega
  have hRt : ROW.toList.take (i * 2) = fc (l.take i) := by
    rw [hROW]
    simp only [Array.toList_append]
    rw [List.append_assoc, List.take_append_of_le_length (by rw [htl]; exact Nat.le_refl _), List.take_of_length_le (by rw [htl]; exact Nat.le_refl _)]
  obtain ⟨W1, eW1⟩ : ∃ W1, W1 = w.drew.alloc (.cells ROW 37) := ⟨_, rfl⟩
  have q1 : W1.heap[w.heap.size]? = some (.cells ROW 37 (0, 0)) := by rw [eW1]; exact heap_alloc_new w.drew _
  have hlg := lt_heap hh
  have hlv := lt_heap hv
  have hh1 : W1.heap[g]? = some (.cells cur 37 (0, 0)) := by rw [eW1]; exact heap_alloc_lt (w := w.drew) hh
  have hv1 : W1.heap[vb]? = some (.cells #[.string f.p, .string f.d] 37 (0, 0)) := by rw [eW1]; exact heap_alloc_lt (w := w.drew) hv
  obtain ⟨cur2, k1, k2⟩ := setCells_at [.string f.p, .string f.d] (i * 2) W1 ROW q1 (by simp; omega)
  have hz2 : cur2.size = G * 2 := by
    have := congrArg List.length k2
    simp only [Array.length_toList, List.length_append, List.length_take, List.length_drop, List.length_cons, List.length_nil] at this
    omega
  obtain ⟨W2, eW2⟩ : ∃ W2, W2 = W1.setCells w.heap.size (i * 2) [.string f.p, .string f.d] := ⟨_, rfl⟩
  rw [← eW2] at k1
  obtain ⟨cur3, k3, k4⟩ := setCells_at (fc (l.drop i)) ((i + 1) * 2) W2.drew cur2 k1 (by omega)
  have hz3 : cur3.size = G * 2 := by
    have := congrArg List.length k4
    simp only [Array.length_toList, List.length_append, List.length_take, List.length_drop] at this
    omega
  obtain ⟨W3, eW3⟩ : ∃ W3, W3 = W2.drew.setCells w.heap.size ((i + 1) * 2) (fc (l.drop i)) := ⟨_, rfl⟩
  rw [← eW3] at k3
  have hold : (Builtin.firstCells i0.size i (.slice (some ⟨g, 0, none⟩) i l.length)).run Tryz.prog w.drew = .ok (fc (l.take i)).toArray w.drew := by
    rw [hz1]
    have hl0 := run_loadCells_list (P := Tryz.prog) w.drew ⟨g, 0, none⟩ (fc (l.take i)) (fun j v hj => by
      rw [Lg.add_eq, cell_heap (w := w.drew) hh]
      rw [← fc_take, List.getElem?_take] at hj
      split at hj
      · exact cur_at hcc hj
      · cases hj)
    rw [htl] at hl0
    simpa [Builtin.firstCells] using hl0
  have hrz : ∀ ty, (Builtin.append_ #[23, 3] ty #[.slice (some ⟨g, 0, none⟩) i l.length, .int .i64 ((l.length : Int) + 1 - (i : Int))]).run Tryz.prog w = .ok (.slice (some ⟨w.heap.size, 0, none⟩) (l.length + 1) G) W1 := fun ty => by
    have h := Lib.run_append_grow_zeros (P := Tryz.prog) w 23 3 ty 37 i0 _ .i64 .i64 Tryz.underlying23 Tryz.underlying3 hi0 hz0 (some ⟨g, 0, none⟩) i l.length (fc (l.take i)) hold (l.length + 1 - i) (by omega) (by rw [hz1]; omega) (by omega) (by omega) (by rw [hzb]; omega) (by rw [hzb, show i + (l.length + 1 - i) = l.length + 1 by omega]; exact growslice_fits (by omega) (by omega))
    rw [show i + (l.length + 1 - i) = l.length + 1 by omega, ← hG, ← hROW, ← eW1] at h
    rw [show (l.length : Int) + 1 - (i : Int) = ((l.length + 1 - i : Nat) : Int) by omega]
    exact h
  have hcpA : ∀ ty n1 c1, 0 < n1 → (Builtin.copy_ #[23, 23] ty #[.slice (some ⟨w.heap.size, i * 2, none⟩) n1 c1, .slice (some ⟨vb, 0, none⟩) 1 1]).run Tryz.prog W1 = .ok (goInt (1 : Nat)) W2 := fun ty n1 c1 hm => by
    have hmin : Nat.min 1 n1 = 1 := Nat.min_eq_left hm
    have hf1 := fc_cell [f]
    rw [fc_one] at hf1
    have := run_copy2 (P := Tryz.prog) W1 23 23 ty 37 w.heap.size (i * 2) n1 c1 ⟨vb, 0, none⟩ 1 1 [.string f.p, .string f.d] Tryz.underlying23 size2 (by rw [hmin]; rfl)
      (fun j v hj => by rw [Lg.add_eq, cell_heap hv1]; simpa using hj)
      (fun j hj => by rw [cell_heap q1, Array.getElem?_eq_getElem (by simp at hj; omega)]; rfl) (fun j hj => frozen_heap q1 _) hf1
    rw [this, hmin, eW2]
  have hcpB : ∀ ty n1 c1 n2 c2, Nat.min n2 n1 = l.length - i → (Builtin.copy_ #[23, 23] ty #[.slice (some ⟨w.heap.size, (i + 1) * 2, none⟩) n1 c1, .slice (some ⟨g, i * 2, none⟩) n2 c2]).run Tryz.prog W2.drew = .ok (goInt (l.length - i : Nat)) W3 := fun ty n1 c1 n2 c2 hm => by
    have hh2 : W2.drew.heap[g]? = some (.cells cur 37 (0, 0)) := by rw [heap_drew, eW2, setCells_ne (by omega)]; exact hh1
    rw [eW3, ← hm]
    exact run_copy2 W2.drew _ _ ty 37 w.heap.size ((i + 1) * 2) n1 c1 ⟨g, i * 2, none⟩ n2 c2 (fc (l.drop i)) Tryz.underlying23 size2 (by rw [hdl, hm])
      (fun j v hj => by
        rw [Addr.add_lit, cell_heap hh2]
        rw [← fc_drop, List.getElem?_drop] at hj
        exact cur_at hcc hj)
      (fun j hj => by rw [cell_heap (w := W2.drew) k1, Array.getElem?_eq_getElem (by omega)]; rfl) (fun j hj => frozen_heap (w := W2.drew) k1 _) (fc_cell _)
  have EN : Hid (InsSays B0 l f i w (.returned (.slice (some ⟨w.heap.size, 0, none⟩) (l.length + 1) G)) W3) := Lib.hid (by
    refine ⟨_, rfl, ?_, ?_⟩
    · rw [← ins_len (f := f) (Nat.le_of_lt hi)]
      refine own_shut hBw k3 (by rw [ins_len (Nat.le_of_lt hi)]; exact hGn) hGm hz3 ?_
      rw [ins_len (Nat.le_of_lt hi), fc_ins, k4, k2]
      have := grow_list (C := ROW.toList) (P := [.string f.p, .string f.d]) (D := fc (l.drop i)) (a := i * 2) rfl (by simp; omega)
      rw [show (i + 1) * 2 = i * 2 + 2 by omega, show (l.length + 1) * 2 = i * 2 + 2 + (fc (l.drop i)).length by omega]
      rw [show i * 2 + [Value.string f.p, .string f.d].length = i * 2 + 2 from rfl, this, hRt]
    · rw [eW3, eW2, eW1]
      exact (((Below.refl _ _).drew.alloc hBw _).trans (setCells_below hBw _ _ _)).drew.trans (setCells_below hBw _ _ _))
  clear eW1 eW2 eW3 k1 k2 k3 k4 hz2 hz3 hdl htl hcs hcc hh hv hh1 hv1 q1 hold hROW hRs hRt hG hlg hlv hBw hzi hzs hi0 hz0 hz1 hzb
  generalize InsSays B0 l f i w = Q at *
  generalize w.heap.size = N at *
  unfold maxLen at hGm
  have h1 : ¬ ((i : Int) = (l.length : Int)) := by omega
  have h2 : (l.length : Int) < (l.length : Int) + 1 := by omega
  have h3 : ¬ l.length = i := by omega
  have h4 : ¬ G = i + 1 := by omega
  have h5 : i ≤ l.length := by omega
  have h8 : (i : Int) ≤ (l.length : Int) + 1 := by omega
  have h9 : i ≤ l.length + 1 := by omega
  have h6 : ¬ G = i := by omega
  have h7 : (i : Int) ≤ (l.length : Int) := by omega
  have hw1 : IntKind.i64.wrap ((i : Int) + 1) = (i : Int) + 1 := by rw [IntKind.wrap_i64]; omega
  have hb1 : (0 : Int) ≤ (i : Int) + 1 := by omega
  have htn : ((i : Int) + 1).toNat = i + 1 := by omega
  have HZ := Lib.hid hrz
  have H1 := Lib.hid hcpA
  have H2 := Lib.hid hcpB
  clear hcpA hcpB hrz
  go_enter Tryz.func141, Tryz.ntmps141
  have hc2 := H1.out 3 (l.length + 1 - i) (G - i) (by omega)
  go_wp2_with (at_builtin; refine Lib.wpList_append_run _ rfl _ _ _ _ rfl _ _ rfl rfl _ _ (HZ.out _) ?_)
  go_region_law (refine step_copy_runI rfl _ _ 23 23 rfl (.slice (some ⟨N, (i + 1) * 2, none⟩) (l.length + 1 - (i + 1)) (G - (i + 1))) (.slice (some ⟨g, i * 2, none⟩) (l.length - i) (l.length - i)) (by simp [Act.eval, Act.put]) (by simp [Act.eval, Act.put]) (H2.out _ _ _ _ _ (by show min _ _ = _; omega)) ?_)
  go_wp2
  exact EN.out
theorem insert_any (B0 : Nat) (v : Value) (l : List Fl) (f : Fl) (i vb : Nat) (w : World) (ho : w.ownsRow B0 37 2 v l.length (fc l)) (hv : w.heap[vb]? = some (.cells #[.string f.p, .string f.d] 37 (0, 0))) (hB : B0 ≤ w.heap.size) (hl : l.length ≤ 1000) (hi : i ≤ l.length) (hne : v.ownBlock ≠ some vb) :
    Calls Tryz.prog 141 #[v, .int .i64 i, .slice (some ⟨vb, 0, none⟩) 1 1] w (InsSays B0 l f i w) := by
  rcases Nat.lt_or_ge i l.length with h | h
  · obtain ⟨_, ⟨_, rfl⟩ | ⟨g, cap, cur, rfl, hBg, hh, hc, hc2, h3, h4⟩⟩ := own_open ho
    · simp at h
    · have hg : vb ≠ g := fun e => hne (by rw [e]; rfl)
      rcases Nat.lt_or_ge l.length cap with h5 | h5
      · exact insert_room B0 g cap cur l f i vb w hBg hh h3 h4 h h5 hc2 hv hg
      · obtain rfl : cap = l.length := by omega
        exact insert_grow B0 g cur l f i vb w hB hh h3 h4 h hl hv
  · obtain rfl : i = l.length := by omega
    exact insert_end B0 v l f vb w ho hv hB hl
end Go.Proofs.YthkaehnhdldbbaaGreatDoor.Bx
