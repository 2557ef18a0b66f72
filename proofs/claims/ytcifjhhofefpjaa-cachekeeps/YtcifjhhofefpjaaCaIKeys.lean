/- The walks of the cache's Keys at int. -/
import Derived.Test.YtcifjhhofefpjaaCaI
import Derived.Test.YtcifjhhofefpjaaShelf
import Derived.Test.YtcifjhhofefpjaaCaLays
import Derived.Test.YtcifjhhofefpjaaSortCall
import Derived.Deep.QuietTactic
import Derived.BigQuiet
namespace Go.Proofs.Ytcifjhhofefpjaa.Ca.I
open Go.RowKit Go.Maps Go.Sort Go.Shelf
set_option linter.unusedVariables false
set_option maxRecDepth 100000
section
variable {w : World} {B c m most t clock : Nat} {D : DataW Unit} {E : List (En Int)}
theorem keysfn_any (h : Ca_ w B c m most t clock D E) {bx : Nat} (hbx : w.heap[bx]? = some (.cells #[.pointer (some ⟨c, 0, none⟩)] 23 (0, 0))) {x y : En Int} (hx : x ∈ E) (hy : y ∈ E) :
    Calls Try.prog 35 #[.string x.k, .string y.k, .pointer (some ⟨bx, 0, none⟩)] w fun e w' => e = .returned (.int .i64 (Lib.compareInt x.s y.s)) ∧ ∃ q, w' = w.drewN q := by
  have l1 := h.look Try.underlying53 zP hx
  have l2 := h.look Try.underlying53 zP hy
  have l1' := fun n => (show Ca_ (w.drewN n) B c m most t clock D E from { h with map := own_move h.map rfl }).look Try.underlying53 zP hx
  have l2' := fun n => (show Ca_ (w.drewN n) B c m most t clock D E from { h with map := own_move h.map rfl }).look Try.underlying53 zP hy
  have c1 : w.cell? ⟨bx, 0, none⟩ = some (.pointer (some ⟨c, 0, none⟩)) := (cell_at hbx 0).trans rfl
  have c2 : w.cell? ⟨c, 2, none⟩ = some (.map (some m)) := (cell_at h.hdr 2).trans rfl
  have c3 : w.cell? ⟨x.b, 2, none⟩ = some (.int .i64 x.s) := (cell_at (h.things x hx) 2).trans rfl
  have c4 : w.cell? ⟨y.b, 2, none⟩ = some (.int .i64 y.s) := (cell_at (h.things y hy) 2).trans rfl
  clear h hx hy hbx
  go_enter Try.func35, Try.ntmps35
  go_wp2_with (fail)
  go_quiet ((go_at_call 36; exact Calls.quiet_of_same (Try.cmp_Compare_int _ _ _)))
  go_wp2
  go_ret
  exact ⟨rfl, _, rfl⟩
theorem ltOf_cmp (x y : Int) : decide (Lib.compareInt x y < 0) = decide (x < y) := by
  unfold Lib.compareInt
  by_cases h1 : x < y
  · simp [h1]
  · by_cases h2 : y < x <;> simp [h1, h2]
theorem rising_at (h : Ca_ w B c m most t clock D E) : ∀ i j : Fin E.length, i < j → E[i].s < E[j].s := fun i j hij => List.pairwise_iff_getElem.1 h.rising i.1 j.1 i.2 j.2 hij
set_option maxHeartbeats 1000000 in
/-- slices.SortedFunc over the map's keys, by when they were put or got: the keys in their order, in a new slice -/
theorem sorted_any (h : Ca_ w B c m most t clock D E) {bx bk : Nat} (hbx : w.heap[bx]? = some (.cells #[.pointer (some ⟨c, 0, none⟩)] 23 (0, 0))) (hbk : w.cell? ⟨bk, 0, none⟩ = some (.map (some m))) (hbl : bk < w.heap.size) (hn : E.length ≤ 1000) :
    Calls Try.prog 33 #[.func (.func 47) #[] #[.pointer (some ⟨bk, 0, none⟩)], .func (.func 35) #[] #[.pointer (some ⟨bx, 0, none⟩)]] w
      fun e w' => ∃ v, e = .returned v ∧ w'.ownsRow w.heap.size 9 1 v E.length (E.map fun e => .string e.k) ∧ Below w.heap.size w w' := by
  have hseq := AnyZ.keys_gives (ρ := Try.l34_ren) { Try.l34 with } Fence.wide 2 trivial rfl (by omega) bk m E.length D w hbl hbk h.map
  have hsz := h.size
  have hC := callsIn_wide.1 (AnyZ.collect_in Try.l45 Fence.wide 4 trivial trivial rfl (by omega) 47 #[.pointer (some ⟨bk, 0, none⟩)] trivial
    (enters_of Try.func47 (by kernel_rfl) rfl) _ _ (by rw [hsz]; unfold maxLen; omega) (by rw [hsz]; omega) w hseq)
  have CC := Lib.hid (show Calls Try.prog 45 #[.func (.func 47) #[] #[.pointer (some ⟨bk, 0, none⟩)]] w
    (fun e w' => ∃ (v : Value) (ss : List (List UInt8)), e = .returned v ∧ ss.Perm (strKeys D) ∧ w'.ownsRow w.heap.size 9 1 v ss.length (ss.map encStr) ∧ (v = .slice none 0 0 ↔ ss = []) ∧ Below w.heap.size w w') from hC)
  clear hC hseq
  go_enter Try.func33, Try.ntmps33
  go_wp2_with (fail)
  refine (CC.out).mono ?_
  rintro e W ⟨v, ss, rfl, hS, hrow, hnil, hb⟩
  have hperm : ss.Perm (E.map (fun e => tl e.k)) := hS.trans h.keys.symm
  have hlen : ss.length = E.length := by rw [hperm.length_eq, List.length_map]
  rcases hrow.2 with ⟨rfl, hz⟩ | ⟨gb, cap, cur, rfl, hbase, hgb, r1, r2, r3, r4⟩
  · have hE : E = [] := List.eq_nil_of_length_eq_zero (by omega)
    subst hE
    have N0 : Hid (Calls Try.prog 46 #[.slice none 0 0, .func (.func 35) #[] #[.pointer (some ⟨bx, 0, none⟩)]] W fun e w' => e = .returned (.tuple #[]) ∧ w' = W) := Lib.hid (AnyF.slices_SortFunc_none (ρ := Try.l46_ren) { Try.l46 with } none 0 (.func (.func 35) #[] #[.pointer (some ⟨bx, 0, none⟩)]) W)
    clear h hS hperm hlen hnil hz hrow hsz
    go_wp2_with (go_at_call 46; ((with_reducible refine (N0.out).mono ?_); rintro e w' ⟨rfl, rfl⟩))
    go_ret
    exact ⟨_, rfl, by simpa using World.ownsRow_nil _ _ _ _, hb⟩
  · have hpos : 0 < E.length := by
      rcases Nat.eq_zero_or_pos E.length with h0 | h0
      · have : ss = [] := List.eq_nil_of_length_eq_zero (by omega)
        exact absurd (hnil.2 this) (by simp)
      · exact h0
    haveI : Inhabited (Fin E.length) := ⟨⟨0, hpos⟩⟩
    obtain ⟨is, his, hip⟩ := perm_lift hperm (List.finRange E.length) (f := fun i : Fin E.length => tl E[i].k) (by exact map_places E (fun e => tl e.k))
    have hil : is.length = E.length := by rw [hip.length_eq, List.length_finRange]
    have henc : ss.map encStr = is.map (fun i : Fin E.length => Value.string E[i].k) := by
      have h1 := congrArg (List.map encStr) his
      rw [List.map_map] at h1
      exact h1.symm
    have r4' : cur.toList.take ss.length = ss.map encStr := by simpa using r4
    have hgl : gb < W.heap.size := heap_lt hgb
    have hH : Holds (fun i : Fin E.length => Value.string E[i].k) W gb 0 is.toArray := holds_gen _ hgb ((congrArg (fun n => cur.toList.take n) (hil.trans hlen.symm)).trans (r4'.trans henc))
    have hcmp : CmpLays1 Try.prog 35 #[.pointer (some ⟨bx, 0, none⟩)] (fun i : Fin E.length => Value.string E[i].k) (fun i j => Lib.compareInt E[i].s E[j].s) gb 0 is.toArray.size W := by
      refine CmpReads.lays ?_
      intro mm os dk hdk x y
      have hk : ∀ k, k < w.heap.size → (sortWorld (fun i : Fin E.length => Value.string E[i].k) W gb 0 mm dk os).heap[k]? = w.heap[k]? := fun k hk => by
        have hg := grown_gen (fun i : Fin E.length => Value.string E[i].k) (w := W) (g := gb) (n := mm) (os := os) dk
        exact (hg.block k (Nat.lt_of_lt_of_le hk hb.size) (fun e => by injection e with e; omega)).trans (hb.block k hk)
      exact keysfn_any (h.keep (hk _ (heap_lt h.hdr)) (hk _ h.map.lt) (fun e he => hk _ (heap_lt (h.things e he)))) ((hk _ (heap_lt hbx)).trans hbx) (List.getElem_mem x.2) (List.getElem_mem y.2)
    have hlt : (ltOf fun i j : Fin E.length => Lib.compareInt E[i].s E[j].s) = fun i j => decide (E[i].s < E[j].s) := by
      funext i j
      unfold ltOf
      rw [ltOf_cmp]
      exact decide_eq_decide.2 (by omega)
    have hO : SWO (ltOf fun i j : Fin E.length => Lib.compareInt E[i].s E[j].s) := by
      rw [hlt]
      exact ⟨fun x => by simp, fun x y z h1 h2 => by simp at *; omega, fun x y z h1 h2 => by simp at *; omega⟩
    have hT : ∀ x y, (ltOf fun i j : Fin E.length => Lib.compareInt E[i].s E[j].s) x y = false → (ltOf fun i j : Fin E.length => Lib.compareInt E[i].s E[j].s) y x = false → x = y := by
      rw [hlt]
      intro x y h1 h2
      simp at h1 h2
      rcases Nat.lt_trichotomy x.1 y.1 with h3 | h3 | h3
      · have := rising_at h x y h3; simp at this; omega
      · exact Fin.ext h3
      · have := rising_at h y x h3; simp at this; omega
    have hsort := Any.slices_SortFunc_total Try.l46 (fun i : Fin E.length => Value.string E[i].k) (fun _ => rfl) (fun i j => Lib.compareInt E[i].s E[j].s) hO 35 #[.pointer (some ⟨bx, 0, none⟩)] gb 0 cap is.toArray W
      (enters_of Try.func35 (by kernel_rfl) rfl) hcmp hH hgl (by simp; omega) hT
    have hms : (is.toArray.toList.mergeSort fun x y => !(ltOf fun i j : Fin E.length => Lib.compareInt E[i].s E[j].s) y x) = List.finRange E.length := by
      rw [hlt]
      exact sort_places (fun i => E[i].s) (rising_at h) is hip
    rw [hms, show is.toArray.size = ss.length from by simp; omega] at hsort
    have HS : Hid (Calls Try.prog 46 #[.slice (some ⟨gb, 0, none⟩) ss.length cap, .func (.func 35) #[] #[.pointer (some ⟨bx, 0, none⟩)]] W
      (fun e w' => e = .returned (.tuple #[]) ∧ w'.ownsRow w.heap.size 9 1 (.slice (some ⟨gb, 0, none⟩) ss.length cap) E.length (E.map fun e => .string e.k) ∧ Below w.heap.size w w')) := Lib.hid (hsort.mono (by
        rintro e w' ⟨rfl, n, os, rfl⟩
        refine ⟨rfl, ?_, hb.grown (grown_gen _ _) hb.size (fun j hj => by injection hj with hj; omega)⟩
        have := owns_gen (fun i : Fin E.length => Value.string E[i].k) (n := n) (os := os) (ts := List.finRange E.length) hbase hgb (by simp; omega) r2 r3
        rw [List.length_finRange, map_places E (fun e => Value.string e.k)] at this
        rw [hlen]
        exact this))
    clear hsort hms hT hO hlt hcmp hH hgl henc hil hip his hperm hS hnil h hrow hsz r4 r4' hgb hb hlen
    go_wp2_with (go_at_call 46; ((with_reducible refine (HS.out).mono ?_); rintro e w' ⟨rfl, ho, hbb⟩))
    go_ret
    exact ⟨_, rfl, ho, hbb⟩
end
variable {w : World} {B c m most t : Nat} {L : List (Th Int)}
theorem keys_nil (w : World) : Calls Try.prog 10 #[.pointer none] w fun e w' => e = .returned (.slice none 0 0) ∧ Below w.heap.size w w' := by
  go_enter Try.func10, Try.ntmps10
  go_wp2
  go_ret
  exact ⟨rfl, (Below.refl _ _).alloc (Nat.le_refl _) _⟩
theorem keys_any (h : Is w B c m most t L) (hn : L.length ≤ 1000) :
    Calls Try.prog 10 #[.pointer (some ⟨c, 0, none⟩)] w fun e w' => ∃ v, e = .returned v ∧ w'.ownsRow w.heap.size 9 1 v L.length (L.map fun x => .string x.k) ∧ Below w.heap.size w w' := by
  obtain ⟨clock, D, E, h, rfl⟩ := h
  obtain ⟨W0, eW0⟩ : ∃ W0, W0 = w.alloc (.cells #[.pointer (some ⟨c, 0, none⟩)] 23) := ⟨_, rfl⟩
  obtain ⟨W1, eW1⟩ : ∃ W1, W1 = W0.alloc (.cells #[.map (some m)] 53) := ⟨_, rfl⟩
  have b0 : Below w.heap.size w W0 := by rw [eW0]; exact (Below.refl _ _).alloc (Nat.le_refl _) _
  have z0 : W0.heap.size = w.heap.size + 1 := by rw [eW0]; simp
  have b1 : Below W0.heap.size W0 W1 := by rw [eW1]; exact (Below.refl _ _).alloc (Nat.le_refl _) _
  have b01 := b0.trans (b1.mono b0.size)
  have h1 := h.below b01
  have x0 : W0.heap[w.heap.size]? = some (.cells #[.pointer (some ⟨c, 0, none⟩)] 23 (0, 0)) := by rw [eW0]; exact heap_alloc_new w _
  have x1 : W1.heap[w.heap.size]? = some (.cells #[.pointer (some ⟨c, 0, none⟩)] 23 (0, 0)) := (b1.block _ (heap_lt x0)).trans x0
  have k1 : W1.heap[W0.heap.size]? = some (.cells #[.map (some m)] 53 (0, 0)) := by rw [eW1]; exact heap_alloc_new W0 _
  have hS := sorted_any h1 x1 ((cell_at k1 0).trans rfl) (heap_lt k1) (by simpa using hn)
  have HS : Hid (Calls Try.prog 33 #[.func (.func 47) #[] #[.pointer (some ⟨w.heap.size + 1, 0, none⟩)], .func (.func 35) #[] #[.pointer (some ⟨w.heap.size, 0, none⟩)]] W1
      fun e w' => ∃ v, e = .returned v ∧ w'.ownsRow w.heap.size 9 1 v (E.map En.th).length ((E.map En.th).map fun x => .string x.k) ∧ Below w.heap.size w w') := Lib.hid (by
    rw [← z0]
    refine hS.mono ?_
    rintro e w' ⟨v, rfl, ho, hb⟩
    refine ⟨v, rfl, ?_, b01.trans (hb.mono b01.size)⟩
    rw [List.length_map, List.map_map]
    exact ownsRow_base_a ho b01.size)
  have K : Hid (Calls Try.prog 34 #[.map (some m)] W0 fun e w' => e = .returned (.func (.func 47) #[] #[.pointer (some ⟨W0.heap.size, 0, none⟩)]) ∧ w' = W0.alloc (.cells #[.map (some m)] 53)) := Lib.hid (callsIn_wide.1 (AnyZ.keys_in Try.l34 Fence.wide 1 trivial rfl (some m) W0))
  have c1 : (w.alloc (.cells #[.pointer (some ⟨c, 0, none⟩)] 23)).cell? ⟨c, 2, none⟩ = some (.map (some m)) := by rw [← eW0]; exact (cell_at (h.below b0).hdr 2).trans rfl
  have E1 := Lib.hid eW1
  have E0 := Lib.hid eW0
  have Z0 := Lib.hid z0
  clear h h1 hS x0 x1 k1 b0 b1 b01 eW1 eW0 z0
  go_enter Try.func10, Try.ntmps10
  go_wp2_with (fail)
  rw [← E0.out]
  refine (K.out).mono ?_
  rintro e w' ⟨rfl, rfl⟩
  rw [Z0.out, ← E1.out]
  clear c1
  have c0 : W1.cell? ⟨w.heap.size, 0, none⟩ = some (.pointer (some ⟨c, 0, none⟩)) := by rw [E1.out]; exact (cell_at (by rw [E0.out]; exact (Below.heap_alloc _ _ _ (by simp)).trans (heap_alloc_new w _)) 0).trans rfl
  go_wp2_with (go_at_call 33; ((with_reducible refine (HS.out).mono ?_); rintro e w' ⟨v, rfl, ho, hbb⟩))
  go_ret
  exact ⟨_, rfl, ho, hbb⟩
end Go.Proofs.Ytcifjhhofefpjaa.Ca.I
