/- Joined by mkmerged.py: SvCache, SvPut. -/
import Derived.Test.YtifiipmmgnmciaaGreatDoorMi29
import Derived.Test.YtifiipmmgnmciaaGreatDoorMi16
import Derived.Test.YtifiipmmgnmciaaGreatDoorMi01
import Derived.Deep.RegionHeld3
import Derived.StillTailTactics
/- SvCache, what a claim needs of it (prune.py). -/
namespace Go.Proofs.YtifiipmmgnmciaaGreatDoor.Sv
open Go.RowKit Go.Maps Go.Sort Go.Shelf
open Dk (Kp)
set_option linter.unusedVariables false
set_option maxRecDepth 100000
def CB (W : World) (cb mc : Nat) (clock : Int) : Prop := W.heap[cb]? = some (.cells #[.int .i64 1000, .int .i64 clock, .map (some mc)] 106 (0, 0))
theorem CB.keep {W W' : World} {cb mc : Nat} {clock : Int} (h : CB W cb mc clock) (hb : W'.heap[cb]? = W.heap[cb]?) : CB W' cb mc clock := hb.trans h
theorem CB.lt {W : World} {cb mc : Nat} {clock : Int} (h : CB W cb mc clock) : cb < W.heap.size := Lg.lt_heap h
theorem CB.ne {W : World} {cb mc n : Nat} {clock : Int} {f : ByteArray → Option Value} (h : CB W cb mc clock) (hm : Mv.VMap W mc n f) : cb ≠ mc := fun e => by
  have hc : W.cell? ⟨cb, 0, none⟩ = some (.int .i64 1000) := (cell_heap h 0).trans rfl
  exact hm.nocell hc e
def TH (W : World) (th gf cf : Nat) (since : Int) : Prop := W.heap[th]? = some (.cells #[.int .i64 1, .slice (some ⟨gf, 0, none⟩) 1 cf, .string ⟨#[]⟩, .int .i64 0, .string ⟨#[]⟩, .int .i64 2, .int .i64 0, .int .i64 since] 109 (0, 0))
abbrev oneM (K : ByteArray) (th : Nat) : ByteArray → Option Value := Mv.putM NoM K (.pointer (some ⟨th, 0, none⟩))
theorem cnew_any (W : World) : Calls Tryz.prog 47 #[.int .i64 1000] W fun e w' => e = .returned (.tuple #[.pointer (some ⟨W.heap.size + 1, 0, none⟩), .int .i64 0]) ∧ w' = (W.alloc (.map #[] 0)).alloc (.cells #[.int .i64 1000, .int .i64 0, .map (some W.heap.size)] 106) := by
  have hmm := @run_makeMap Tryz.prog
  go_enter Tryz.func47, Tryz.ntmps47
  go_wp2_with (fail)
  go_ret2
  exact ⟨rfl, rfl⟩
theorem ctick_any (W : World) (cb mc : Nat) (k : Nat) (h : CB W cb mc (k : Int)) (hk : k ≤ 1000) : Calls Tryz.prog 41 #[.pointer (some ⟨cb, 0, none⟩)] W fun e w' => e = .returned (.int .i64 ((k : Int) + 1)) ∧ w' = W.setCell ⟨cb, 1, none⟩ (.int .i64 ((k : Int) + 1)) := by
  have c1 : W.cell? ⟨cb, 1, none⟩ = some (.int .i64 (k : Int)) := (cell_heap h 1).trans rfl
  have f1 := frozen_heap h 1
  have ec : IntKind.i64.wrap ((k : Int) + 1) = (k : Int) + 1 := IntWalk.i64_in _ (by omega)
  clear h
  go_enter Tryz.func41, Tryz.ntmps41
  go_wp2_with (fail)
  go_ret
  exact ⟨rfl, rfl⟩
theorem keys_one {W : World} {m n : Nat} {K : ByteArray} {v : Value} (h : Mv.VMap W m n (Mv.putM NoM K v)) : ∃ D : DataW Value, W.ownsMap Tryz.prog 9 Mv.rv m n D ∧ Maps.size D ≤ n ∧ [K.data.toList].Perm (strKeys D) := by
  obtain ⟨D, hown, hs⟩ := h
  have hown' := hown
  obtain ⟨es, rfl, hpw⟩ := hown.tidy Mv.kstr
  obtain ⟨es', cl, h1, F, h3, hD⟩ := hown'
  injection hD with hD
  have hko : ∀ p ∈ es, ∃ x, p.1 = .string x := by
    intro p hp
    rw [hD] at hp
    obtain ⟨v, hv⟩ := (keys_perm (WideShapes.sorted_perm _).symm (fit_keys F)) p hp
    obtain ⟨x, _, hx, _⟩ := Maps.keyOf_str Tryz.underlying9 hv
    exact ⟨x, hx⟩
  refine ⟨_, hown, hown.size_le, perm_strKeys hpw hko (by simp) fun x => ?_⟩
  have := (hs ⟨x.toArray⟩).1
  simp only at this
  rw [this]
  unfold Mv.putM NoM
  by_cases e : (⟨x.toArray⟩ : ByteArray) = K
  · rw [if_pos e]
    subst e
    simp
  · rw [if_neg e]
    simp only [List.mem_singleton, Option.isSome_none, Bool.false_eq_true, iff_false]
    intro h2
    exact e (by rw [h2])
theorem zP (W : World) : (zeroValue 102).run Tryz.prog W = .ok (.pointer none) W := rfl
theorem lkT {W : World} {m n : Nat} {f : ByteArray → Option Value} (h : Mv.VMap W m n f) {K : ByteArray} (hK : K.size ≤ maxLen) : (Instr.lookup 104 (.map (some m)) (.string K) false).run Tryz.prog W = .ok ((f K).getD (.pointer none)) W := h.look1 (by kernel_rfl) (zP W) hK
theorem keysfn_one (W : World) (cb mc bx th gf cf n : Nat) (clock since : Int) (K : ByteArray) (h : CB W cb mc clock) (hm : Mv.VMap W mc n (oneM K th)) (ht : TH W th gf cf since) (hK : K.size ≤ maxLen) (hbx : W.heap[bx]? = some (.cells #[.pointer (some ⟨cb, 0, none⟩)] 53 (0, 0))) :
    Calls Tryz.prog 77 #[.string K, .string K, .pointer (some ⟨bx, 0, none⟩)] W fun e w' => e = .returned (.int .i64 0) ∧ ∃ q, w' = W.drewN q := by
  have l1 := lkT hm hK
  have l2 := fun n => lkT (show Mv.VMap (W.drewN n) mc _ (oneM K th) from hm.keep rfl) hK
  rw [show oneM K th K = some (.pointer (some ⟨th, 0, none⟩)) from if_pos rfl] at l1
  simp only [show oneM K th K = some (.pointer (some ⟨th, 0, none⟩)) from if_pos rfl, Option.getD_some] at l1 l2
  have c1 : W.cell? ⟨bx, 0, none⟩ = some (.pointer (some ⟨cb, 0, none⟩)) := (cell_heap hbx 0).trans rfl
  have c2 : W.cell? ⟨cb, 2, none⟩ = some (.map (some mc)) := (cell_heap h 2).trans rfl
  have c3 : W.cell? ⟨th, 7, none⟩ = some (.int .i64 since) := (cell_heap ht 7).trans rfl
  have CM := Lib.hid (fun W => Tryz.cmp_Compare_int since since W)
  have Z : Hid (Lib.compareInt since since = 0) := Lib.hid (by unfold Lib.compareInt; simp)
  clear h hm ht hbx
  go_enter Tryz.func77, Tryz.ntmps77
  go_wp2_with (fail)
  go_quiet ((go_at_call 78; exact Calls.quiet_of_same (Tryz.cmp_Compare_int _ _ _)))
  go_wp2
  go_ret
  exact ⟨(by show Ending.returned (.int .i64 (Lib.compareInt since since)) = _; rw [Z.out]), _, rfl⟩
theorem keysIn (W : World) (mc : Nat) : Calls Tryz.prog 76 #[.map (some mc)] W fun e w' => e = .returned (.func (.func 147) #[] #[.pointer (some ⟨W.heap.size, 0, none⟩)]) ∧ w' = W.alloc (.cells #[.map (some mc)] 104) := callsIn_wide.1 (AnyZ.keys_in Tryz.l76 Fence.wide 1 trivial rfl (some mc) W)
theorem collectC (W : World) (bk mc n : Nat) (D : DataW Value) (hown : W.ownsMap Tryz.prog 9 Mv.rv mc n D) (hn : Maps.size D ≤ 1000) (hbl : bk < W.heap.size) (hbk : W.cell? ⟨bk, 0, none⟩ = some (.map (some mc))) :
    Calls Tryz.prog 145 #[.func (.func 147) #[] #[.pointer (some ⟨bk, 0, none⟩)]] W
    (fun e w' => ∃ (v : Value) (ss : List (List UInt8)), e = .returned v ∧ ss.Perm (strKeys D) ∧ w'.ownsRow W.heap.size 9 1 v ss.length (ss.map encStr) ∧ (v = .slice none 0 0 ↔ ss = []) ∧ Below W.heap.size W w') := by
  have hseq := AnyZ.keys_gives (ρ := Tryz.l76_ren) { Tryz.l76 with } Fence.wide 2 trivial rfl (by omega) bk mc n D W hbl hbk hown
  exact callsIn_wide.1 (AnyZ.collect_in Tryz.l145 Fence.wide 4 trivial trivial rfl (by omega) 147 #[.pointer (some ⟨bk, 0, none⟩)] trivial
    (enters_of Tryz.func147 (by kernel_rfl) rfl) _ _ (by unfold maxLen; omega) (by omega) W hseq)
theorem sortfn_none (W : World) (f : Value) : Calls Tryz.prog 146 #[.slice none 0 0, f] W fun e w' => e = .returned (.tuple #[]) ∧ w' = W := AnyF.slices_SortFunc_none (ρ := Tryz.l146_ren) { Tryz.l146 with } none 0 f W
set_option maxHeartbeats 1000000 in
theorem ckeys_none (W : World) (cb mc n : Nat) (clock : Int) (h : CB W cb mc clock) (hm : Mv.VMap W mc n NoM) (hn : n ≤ 1000) : Calls Tryz.prog 42 #[.pointer (some ⟨cb, 0, none⟩)] W fun e w' => e = .returned (.slice none 0 0) ∧ Below W.heap.size W w' := by
  obtain ⟨D, hown, hsz, hk⟩ := keys_none hm
  obtain ⟨W0, e0⟩ : ∃ W0, W0 = W.alloc (.cells #[.pointer (some ⟨cb, 0, none⟩)] 53) := ⟨_, rfl⟩
  obtain ⟨W1, e1⟩ : ∃ W1, W1 = W0.alloc (.cells #[.map (some mc)] 104) := ⟨_, rfl⟩
  have b0 : Below W.heap.size W W0 := by rw [e0]; exact (Below.refl _ _).alloc (Nat.le_refl _) _
  have z0 : W0.heap.size = W.heap.size + 1 := by rw [e0]; simp
  have b1 : Below W0.heap.size W0 W1 := by rw [e1]; exact (Below.refl _ _).alloc (Nat.le_refl _) _
  have b01 := b0.trans (b1.mono b0.size)
  have k1 : W1.heap[W0.heap.size]? = some (.cells #[.map (some mc)] 104 (0, 0)) := by rw [e1]; exact heap_alloc_new W0 _
  have hown1 : W1.ownsMap Tryz.prog 9 Mv.rv mc n D := by
    obtain ⟨es, cl, h1, h2, h3, h4⟩ := hown
    exact ⟨es, cl, (b01.block _ hm.lt).trans h1, h2, h3, h4⟩
  have CO := collectC W1 W0.heap.size mc n D hown1 (by omega) (Lg.lt_heap k1) ((cell_heap k1 0).trans rfl)
  rw [hk] at CO
  have HS : Hid (Calls Tryz.prog 75 #[.func (.func 147) #[] #[.pointer (some ⟨W.heap.size + 1, 0, none⟩)], .func (.func 77) #[] #[.pointer (some ⟨W.heap.size, 0, none⟩)]] W1 fun e w' => e = .returned (.slice none 0 0) ∧ Below W.heap.size W w') := Lib.hid (by
    have C2 := Lib.hid CO
    have HB := Lib.hid b01
    have SN := Lib.hid sortfn_none
    rw [← z0]
    clear CO h hm hown hown1 k1 b0 b1 b01 e0 e1 z0
    go_enter Tryz.func75, Tryz.ntmps75
    go_wp2_with (fail)
    refine (C2.out).mono ?_
    rintro e W2 ⟨v, ss, rfl, hS, hrow, hnil, hb⟩
    obtain rfl : ss = [] := hS.eq_nil
    obtain rfl : v = .slice none 0 0 := hnil.2 rfl
    clear hS hrow hnil
    go_wp2_with (go_at_call 146; ((with_reducible refine (SN.out _ _).mono ?_); rintro e w' ⟨rfl, rfl⟩))
    go_ret
    exact ⟨rfl, HB.out.trans (hb.mono HB.out.size)⟩)
  have KI := Lib.hid (keysIn W0 mc)
  have c1 : W0.cell? ⟨cb, 2, none⟩ = some (.map (some mc)) := (cell_heap ((b0.block _ h.lt).trans h) 2).trans rfl
  have c0 : W0.cell? ⟨W.heap.size, 0, none⟩ = some (.pointer (some ⟨cb, 0, none⟩)) := by rw [e0]; exact (cell_heap (heap_alloc_new W _) 0).trans rfl
  have c01 : W1.cell? ⟨W.heap.size, 0, none⟩ = some (.pointer (some ⟨cb, 0, none⟩)) := by rw [b1.cell (p := ⟨W.heap.size, 0, none⟩) (by show W.heap.size < _; omega)]; exact c0
  have hmf : ∀ (fn : Fn) (first cap : Array Value) (w : World), (Instr.makeFunc fn first cap).run Tryz.prog w = .ok (.func fn first cap) w := fun _ _ _ _ => rfl
  have E1 := Lib.hid e1
  have Z0 := Lib.hid z0
  clear h hm hown hown1 k1 b0 b1 b01 CO e1 z0 hk hsz
  go_enter Tryz.func42, Tryz.ntmps42
  go_upto_region 1 with (fail)
  rw [← e0]
  clear e0
  go_wp2_with (first
    | (go_at_call 76; (with_reducible refine (KI.out).mono ?_); rintro e w' ⟨rfl, rfl⟩; rw [Z0.out, ← E1.out])
    | (go_at_call 75; (with_reducible refine (HS.out).mono ?_); rintro e w' ⟨rfl, hbb⟩))
  go_ret
  exact ⟨rfl, hbb⟩
theorem sortfn_one (W : World) (gb cap cb mc bx th gf cf n : Nat) (clock since : Int) (K : ByteArray) (cur : Array Value) (hgb : W.heap[gb]? = some (.cells cur 9 (0, 0))) (hcur : cur.toList.take 1 = [.string K]) (h : CB W cb mc clock) (hm : Mv.VMap W mc n (oneM K th)) (ht : TH W th gf cf since) (hK : K.size ≤ maxLen) (hbx : W.heap[bx]? = some (.cells #[.pointer (some ⟨cb, 0, none⟩)] 53 (0, 0))) (ne1 : gb ≠ cb) (ne2 : gb ≠ mc) (ne3 : gb ≠ th) (ne4 : gb ≠ bx) :
    Calls Tryz.prog 146 #[.slice (some ⟨gb, 0, none⟩) 1 cap, .func (.func 77) #[] #[.pointer (some ⟨bx, 0, none⟩)]] W
      (fun e w' => e = .returned (.tuple #[]) ∧ w'.cell? ⟨gb, 0, none⟩ = some (.string K) ∧ W.grownBy w' (some gb)) := by
  have hH : Holds (fun _ : Unit => Value.string K) W gb 0 [()].toArray := holds_gen _ hgb (by simpa using hcur)
  have hcmp : CmpLays1 Tryz.prog 77 #[.pointer (some ⟨bx, 0, none⟩)] (fun _ : Unit => Value.string K) (fun _ _ => 0) gb 0 [()].toArray.size W := by
    refine CmpReads.lays ?_
    intro mm os dk hdk x y
    have hg := grown_gen (fun _ : Unit => Value.string K) (w := W) (g := gb) (n := mm) (os := os) dk
    exact keysfn_one _ cb mc bx th gf cf n clock since K (h.keep (hg.block _ h.lt (fun e => by injection e with e; exact ne1 e.symm))) (hm.keep (hg.block _ hm.lt (fun e => by injection e with e; exact ne2 e.symm))) ((hg.block _ (Lg.lt_heap ht) (fun e => by injection e with e; exact ne3 e.symm)).trans ht) hK ((hg.block _ (Lg.lt_heap hbx) (fun e => by injection e with e; exact ne4 e.symm)).trans hbx)
  have hO : SWO (ltOf fun _ _ : Unit => (0 : Int)) := ⟨fun x => by simp [ltOf], fun x y z h1 h2 => by simp [ltOf] at *, fun x y z h1 h2 => by simp [ltOf] at *⟩
  have hsort := Any.slices_SortFunc_total Tryz.l146 (fun _ : Unit => Value.string K) (fun _ => rfl) (fun _ _ => 0) hO 77 #[.pointer (some ⟨bx, 0, none⟩)] gb 0 cap [()].toArray W
    (enters_of Tryz.func77 (by kernel_rfl) rfl) hcmp hH (Lg.lt_heap hgb) (by simp) (fun x y _ _ => rfl)
  refine hsort.mono ?_
  rintro e w' ⟨rfl, n2, os, rfl⟩
  refine ⟨rfl, ?_, grown_gen _ _⟩
  have hms : ([()].toArray.toList.mergeSort fun x y => !(ltOf fun _ _ : Unit => (0 : Int)) y x) = [()] := List.mergeSort_singleton _
  have h2 := heap_gen (fun _ : Unit => Value.string K) (n := n2) (os := os) ([()].toArray.toList.mergeSort fun x y => !(ltOf fun _ _ : Unit => (0 : Int)) y x).toArray hgb
  refine (cell_heap h2 0).trans ?_
  rw [hms]
  have h3 : 0 < cur.size := by
    rcases Nat.eq_zero_or_pos cur.size with h0 | h0
    · have : cur.toList = [] := by simpa using h0
      rw [this] at hcur
      cases hcur
    · exact h0
  simp [putCells, h3]
set_option maxHeartbeats 1000000 in
theorem ckeys_one (W : World) (cb mc th gf cf n : Nat) (clock since : Int) (K : ByteArray) (h : CB W cb mc clock) (hm : Mv.VMap W mc n (oneM K th)) (ht : TH W th gf cf since) (hK : K.size ≤ maxLen) (hn : n ≤ 1000) : Calls Tryz.prog 42 #[.pointer (some ⟨cb, 0, none⟩)] W fun e w' => (∃ gb cap, e = .returned (.slice (some ⟨gb, 0, none⟩) 1 cap) ∧ w'.cell? ⟨gb, 0, none⟩ = some (.string K)) ∧ Below W.heap.size W w' := by
  obtain ⟨D, hown, hsz, hk⟩ := keys_one hm
  obtain ⟨W0, e0⟩ : ∃ W0, W0 = W.alloc (.cells #[.pointer (some ⟨cb, 0, none⟩)] 53) := ⟨_, rfl⟩
  obtain ⟨W1, e1⟩ : ∃ W1, W1 = W0.alloc (.cells #[.map (some mc)] 104) := ⟨_, rfl⟩
  have b0 : Below W.heap.size W W0 := by rw [e0]; exact (Below.refl _ _).alloc (Nat.le_refl _) _
  have z0 : W0.heap.size = W.heap.size + 1 := by rw [e0]; simp
  have b1 : Below W0.heap.size W0 W1 := by rw [e1]; exact (Below.refl _ _).alloc (Nat.le_refl _) _
  have z1 : W1.heap.size = W.heap.size + 2 := by rw [e1]; simp; omega
  have b01 := b0.trans (b1.mono b0.size)
  have k1 : W1.heap[W0.heap.size]? = some (.cells #[.map (some mc)] 104 (0, 0)) := by rw [e1]; exact heap_alloc_new W0 _
  have x0 : W1.heap[W.heap.size]? = some (.cells #[.pointer (some ⟨cb, 0, none⟩)] 53 (0, 0)) := (b1.block _ (by omega)).trans (by rw [e0]; exact heap_alloc_new W _)
  have hown1 : W1.ownsMap Tryz.prog 9 Mv.rv mc n D := by
    obtain ⟨es, cl, h1, h2, h3, h4⟩ := hown
    exact ⟨es, cl, (b01.block _ hm.lt).trans h1, h2, h3, h4⟩
  have CO := collectC W1 W0.heap.size mc n D hown1 (by omega) (Lg.lt_heap k1) ((cell_heap k1 0).trans rfl)
  have l1 := h.lt
  have l2 := hm.lt
  have l3 := Lg.lt_heap ht
  have SF : Hid (∀ W2 gb cap cur, Below W1.heap.size W1 W2 → W1.heap.size ≤ gb → W2.heap[gb]? = some (.cells cur 9 (0, 0)) → cur.toList.take 1 = [.string K] → Calls Tryz.prog 146 #[.slice (some ⟨gb, 0, none⟩) 1 cap, .func (.func 77) #[] #[.pointer (some ⟨W.heap.size, 0, none⟩)]] W2 (fun e w' => e = .returned (.tuple #[]) ∧ w'.cell? ⟨gb, 0, none⟩ = some (.string K) ∧ Below W.heap.size W w')) := Lib.hid fun W2 gb cap cur hb hg hcell hcur => by
    have hb2 := b01.trans (hb.mono b01.size)
    refine (sortfn_one W2 gb cap cb mc W.heap.size th gf cf n clock since K cur hcell hcur (h.keep (hb2.block _ l1)) (hm.later hb2) ((hb2.block _ l3).trans ht) hK ((hb.block _ (by omega)).trans x0) (by omega) (by omega) (by omega) (by omega)).mono ?_
    rintro e w' ⟨h1, h2, h3⟩
    exact ⟨h1, h2, hb2.grown h3 hb2.size (fun j hj => by injection hj with hj; omega)⟩
  have HS : Hid (Calls Tryz.prog 75 #[.func (.func 147) #[] #[.pointer (some ⟨W.heap.size + 1, 0, none⟩)], .func (.func 77) #[] #[.pointer (some ⟨W.heap.size, 0, none⟩)]] W1 fun e w' => (∃ gb cap, e = .returned (.slice (some ⟨gb, 0, none⟩) 1 cap) ∧ w'.cell? ⟨gb, 0, none⟩ = some (.string K)) ∧ Below W.heap.size W w') := Lib.hid (by
    have C2 := Lib.hid CO
    have HK := Lib.hid hk
    rw [← z0]
    clear CO h hm ht hown hown1 k1 x0 b0 b1 b01 e0 e1 z0 z1 l1 l2 l3 hk hsz
    go_enter Tryz.func75, Tryz.ntmps75
    go_wp2_with (fail)
    refine (C2.out).mono ?_
    rintro e W2 ⟨v, ss, rfl, hS, hrow, hnil, hb⟩
    obtain rfl : ss = [K.data.toList] := List.perm_singleton.1 (hS.trans HK.out.symm)
    obtain ⟨gb, cap, cur, rfl, hgb, hbase, hcur⟩ : ∃ gb cap cur, v = .slice (some ⟨gb, 0, none⟩) 1 cap ∧ W2.heap[gb]? = some (.cells cur 9 (0, 0)) ∧ W1.heap.size ≤ gb ∧ cur.toList.take 1 = [.string K] := by
      rcases hrow.2 with ⟨_, h0⟩ | ⟨gb, cap, cur, rfl, hB, hg, h1, h2, h3, h4⟩
      · cases h0
      · exact ⟨gb, cap, cur, rfl, hg, hB, h4⟩
    have S2 := Lib.hid (SF.out W2 gb cap cur hb hbase hgb hcur)
    clear hS hrow hnil HK hgb hbase hcur
    go_wp2_with (go_at_call 146; ((with_reducible refine (S2.out).mono ?_); rintro e w' ⟨rfl, hc, hb'⟩))
    go_ret
    exact ⟨⟨gb, cap, rfl, hc⟩, hb'⟩)
  have KI := Lib.hid (keysIn W0 mc)
  have c1 : W0.cell? ⟨cb, 2, none⟩ = some (.map (some mc)) := (cell_heap ((b0.block _ h.lt).trans h) 2).trans rfl
  have c0 : W0.cell? ⟨W.heap.size, 0, none⟩ = some (.pointer (some ⟨cb, 0, none⟩)) := by rw [e0]; exact (cell_heap (heap_alloc_new W _) 0).trans rfl
  have c01 : W1.cell? ⟨W.heap.size, 0, none⟩ = some (.pointer (some ⟨cb, 0, none⟩)) := (cell_heap x0 0).trans rfl
  have hmf : ∀ (fn : Fn) (first cap : Array Value) (w : World), (Instr.makeFunc fn first cap).run Tryz.prog w = .ok (.func fn first cap) w := fun _ _ _ _ => rfl
  have E1 := Lib.hid e1
  have Z0 := Lib.hid z0
  clear h hm ht hown hown1 k1 x0 b0 b1 b01 CO e1 z0 z1 hk hsz l1 l2 l3 SF
  go_enter Tryz.func42, Tryz.ntmps42
  go_upto_region 1 with (fail)
  rw [← e0]
  clear e0
  go_wp2_with (first
    | (go_at_call 76; (with_reducible refine (KI.out).mono ?_); rintro e w' ⟨rfl, rfl⟩; rw [Z0.out, ← E1.out])
    | (go_at_call 75; (with_reducible refine (HS.out).mono ?_); rintro e w' ⟨⟨gb, cap, rfl, hc⟩, hbb⟩))
  go_ret
  exact ⟨⟨gb, cap, rfl, hc⟩, hbb⟩
abbrev noOut : Array Value := #[.int .i64 0, .slice none 0 0, .string ⟨#[]⟩, .int .i64 0, .string ⟨#[]⟩, .int .i64 0]
def GetSays (W : World) (cb mc th gf cf : Nat) (e : Ending) (w' : World) : Prop := e = .returned (.tuple #[.agg #[.int .i64 1, .slice (some ⟨gf, 0, none⟩) 1 cf, .string ⟨#[]⟩, .int .i64 0, .string ⟨#[]⟩, .int .i64 2], .bool true]) ∧ TH w' th gf cf 2 ∧ CB w' cb mc 2 ∧ Kp (fun k => k = cb ∨ k = th) W w'
set_option maxHeartbeats 1000000 in
theorem cget_one (W : World) (cb mc th gf cf n : Nat) (K : ByteArray) (h : CB W cb mc 1) (hm : Mv.VMap W mc n (oneM K th)) (ht : TH W th gf cf 1) (hK : K.size ≤ maxLen) : Calls Tryz.prog 72 #[.pointer (some ⟨cb, 0, none⟩), .string K] W (GetSays W cb mc th gf cf) := by
  obtain ⟨W0, e0⟩ : ∃ W0, W0 = (W.alloc (.cells noOut 44)).alloc (.cells noOut 44) := ⟨_, rfl⟩
  have B0 : Below W.heap.size W W0 := by rw [e0]; exact ((Below.refl _ _).alloc (Nat.le_refl _) _).alloc (by simp) _
  have r0 : W0.heap[W.heap.size]? = some (.cells noOut 44 (0, 0)) := by rw [e0]; exact Lg.heap_two
  have h0 := h.keep (B0.block _ h.lt)
  have m0 := hm.later B0
  have t0 : TH W0 th gf cf 1 := (B0.block _ (Lg.lt_heap ht)).trans ht
  have lk := m0.look (t := 104) (e := 102) (by kernel_rfl) (z := .pointer none) (zP W0) hK
  rw [show oneM K th K = some (.pointer (some ⟨th, 0, none⟩)) from if_pos rfl] at lk
  simp only [Option.getD_some, Option.isSome_some] at lk
  have c2 : W0.cell? ⟨cb, 2, none⟩ = some (.map (some mc)) := (cell_heap h0 2).trans rfl
  have nt : cb ≠ th := fun e => by
    have h2 : W0.heap[th]? = _ := t0
    rw [← e, show W0.heap[cb]? = _ from h0] at h2
    injection h2 with h2
    injection h2 with _ h2 _
    exact absurd h2 (by decide)
  have T := Lib.hid (ctick_any W0 cb mc 1 h0 (by omega))
  obtain ⟨W1, e1⟩ : ∃ W1, W1 = W0.setCell ⟨cb, 1, none⟩ (.int .i64 2) := ⟨_, rfl⟩
  have h1 : CB W1 cb mc 2 := by rw [e1]; exact (heap_set h0).trans rfl
  have t1 : TH W1 th gf cf 1 := by rw [e1]; exact (heap_set_ne nt).trans t0
  have T1 : Hid (Calls Tryz.prog 41 #[.pointer (some ⟨cb, 0, none⟩)] W0 fun e w' => e = .returned (.int .i64 2) ∧ w' = W1) := Lib.hid (by rw [e1]; exact T.out)
  have K1 : Kp (fun k => k = cb ∨ k = th) W W1 := by rw [e1]; exact (Kp.of_below B0).setCell (p := ⟨cb, 1, none⟩) (.inl rfl) _
  have f7 := frozen_heap t1 7
  have g7 : W1.cell? ⟨th, 7, none⟩ = some (.int .i64 1) := (cell_heap t1 7).trans rfl
  obtain ⟨W2, e2⟩ : ∃ W2, W2 = W1.setCell ⟨th, 7, none⟩ (.int .i64 2) := ⟨_, rfl⟩
  have t2 : TH W2 th gf cf 2 := by rw [e2]; exact (heap_set t1).trans rfl
  have r2 : W2.heap[W.heap.size]? = some (.cells noOut 44 (0, 0)) := by
    have lt := Lg.lt_heap ht
    have lc := h.lt
    rw [e2, heap_set_ne (by omega), e1, heap_set_ne (by omega)]
    exact r0
  have h2 : CB W2 cb mc 2 := by rw [e2]; exact (heap_set_ne (fun e => nt e.symm)).trans h1
  have K2 : Kp (fun k => k = cb ∨ k = th) W W2 := by rw [e2]; exact K1.setCell (p := ⟨th, 7, none⟩) (.inr rfl) _
  have x0 : W2.cell? ⟨th, 0, none⟩ = some (.int .i64 1) := (cell_heap t2 0).trans rfl
  have x1 : W2.cell? ⟨th, 1, none⟩ = some (.slice (some ⟨gf, 0, none⟩) 1 cf) := (cell_heap t2 1).trans rfl
  have x2 : W2.cell? ⟨th, 2, none⟩ = some (.string ⟨#[]⟩) := (cell_heap t2 2).trans rfl
  have x3 : W2.cell? ⟨th, 3, none⟩ = some (.int .i64 0) := (cell_heap t2 3).trans rfl
  have x4 : W2.cell? ⟨th, 4, none⟩ = some (.string ⟨#[]⟩) := (cell_heap t2 4).trans rfl
  have x5 : W2.cell? ⟨th, 5, none⟩ = some (.int .i64 2) := (cell_heap t2 5).trans rfl
  have hlt : cb < W.heap.size ∧ th < W.heap.size := ⟨h.lt, Lg.lt_heap ht⟩
  clear h hm ht h0 m0 t0 h1 t1 K1 e1 B0 r0 T
  go_enter Tryz.func72, Tryz.ntmps72
  go_upto_region 2 with (fail)
  rw [← e0]
  clear e0
  go_upto_region 8 with (go_at_call 41; (with_reducible refine (T1.out).mono ?_); rintro e w' ⟨rfl, hw⟩; subst hw)
  rw [← e2]
  clear e2
  have y0 := cell_heap r2 0
  have y1 := cell_heap r2 1
  have y2 := cell_heap r2 2
  have y3 := cell_heap r2 3
  have y4 := cell_heap r2 4
  have y5 := cell_heap r2 5
  have u0 := frozen_heap r2 0
  have u1 := frozen_heap r2 1
  have u2 := frozen_heap r2 2
  have u3 := frozen_heap r2 3
  have u4 := frozen_heap r2 4
  have u5 := frozen_heap r2 5
  have R2 := Lib.hid r2
  have FN : Hid (GetSays W cb mc th gf cf (.returned (.tuple #[.agg #[.int .i64 1, .slice (some ⟨gf, 0, none⟩) 1 cf, .string ⟨#[]⟩, .int .i64 0, .string ⟨#[]⟩, .int .i64 2], .bool true])) ((((((W2.setCell ⟨W.heap.size, 0, none⟩ (.int .i64 1)).setCell ⟨W.heap.size, 1, none⟩ (.slice (some ⟨gf, 0, none⟩) 1 cf)).setCell ⟨W.heap.size, 2, none⟩ (.string ⟨#[]⟩)).setCell ⟨W.heap.size, 3, none⟩ (.int .i64 0)).setCell ⟨W.heap.size, 4, none⟩ (.string ⟨#[]⟩)).setCell ⟨W.heap.size, 5, none⟩ (.int .i64 2))) := Lib.hid (by
    have o6 : ∀ j, j < W.heap.size → ((((((W2.setCell ⟨W.heap.size, 0, none⟩ (.int .i64 1)).setCell ⟨W.heap.size, 1, none⟩ (.slice (some ⟨gf, 0, none⟩) 1 cf)).setCell ⟨W.heap.size, 2, none⟩ (.string ⟨#[]⟩)).setCell ⟨W.heap.size, 3, none⟩ (.int .i64 0)).setCell ⟨W.heap.size, 4, none⟩ (.string ⟨#[]⟩)).setCell ⟨W.heap.size, 5, none⟩ (.int .i64 2)).heap[j]? = W2.heap[j]? := fun j hj => by
      have e : W.heap.size ≠ j := by omega
      rw [heap_set_ne e, heap_set_ne e, heap_set_ne e, heap_set_ne e, heap_set_ne e, heap_set_ne e]
    exact ⟨rfl, (o6 _ hlt.2).trans t2, h2.keep (o6 _ hlt.1), (((((K2.setNew (p := ⟨W.heap.size, 0, none⟩) (Nat.le_refl _) _).setNew (p := ⟨W.heap.size, 1, none⟩) (Nat.le_refl _) _).setNew (p := ⟨W.heap.size, 2, none⟩) (Nat.le_refl _) _).setNew (p := ⟨W.heap.size, 3, none⟩) (Nat.le_refl _) _).setNew (p := ⟨W.heap.size, 4, none⟩) (Nat.le_refl _) _).setNew (p := ⟨W.heap.size, 5, none⟩) (Nat.le_refl _) _⟩)
  clear r2 t2 h2 K2
  generalize GetSays W cb mc th gf cf = Q at *
  go_wp2_with (fail)
  refine bodyPost_ret_by (Lg.results_cell_row2 rfl _ _ W.heap.size 44 _ (0, 0) _ rfl (heap_set (off := 5) (v := .int .i64 2) (heap_set (off := 4) (v := .string ⟨#[]⟩) (heap_set (off := 3) (v := .int .i64 0) (heap_set (off := 2) (v := .string ⟨#[]⟩) (heap_set (off := 1) (v := .slice (some ⟨gf, 0, none⟩) 1 cf) (heap_set (off := 0) (v := .int .i64 1) R2.out)))))) rfl rfl (by kernel_rfl)) rfl ?_
  exact FN.out
end Go.Proofs.YtifiipmmgnmciaaGreatDoor.Sv
/- SvPut, what a claim needs of it (prune.py). -/
namespace Go.Proofs.YtifiipmmgnmciaaGreatDoor.Sv
open Go.RowKit Go.Maps Go.Sort Go.Shelf
open Dk (Kp)
set_option linter.unusedVariables false
set_option maxRecDepth 100000
def PutSays (W : World) (cb mc n : Nat) (K : ByteArray) (gf cf : Nat) (e : Ending) (w' : World) : Prop := e = .returned (.int .i64 0) ∧ (∃ th, W.heap.size ≤ th ∧ TH w' th gf cf 1 ∧ Mv.VMap w' mc (n + 1) (oneM K th)) ∧ CB w' cb mc 1 ∧ Kp (fun k => k = cb ∨ k = mc) W w'
abbrev thC (gf cf : Nat) : Array Value := #[.int .i64 1, .slice (some ⟨gf, 0, none⟩) 1 cf, .string ⟨#[]⟩, .int .i64 0, .string ⟨#[]⟩, .int .i64 2, .int .i64 0, .int .i64 1]
theorem cadd_step {W : World} {cb mc n gf cf : Nat} {K : ByteArray} (h : CB W cb mc 0) (hm : Mv.VMap W mc n NoM) (hK : K.size ≤ maxLen) (hn : n ≤ 900) :
    ∃ W2, (Instr.mapUpdate 104 (.map (some mc)) (.string K) (.pointer (some ⟨W.heap.size, 0, none⟩))).run Tryz.prog ((W.setCell ⟨cb, 1, none⟩ (.int .i64 1)).alloc (.cells (thC gf cf) 109)).drew = .ok () W2 ∧ TH W2 W.heap.size gf cf 1 ∧ Mv.VMap W2 mc (n + 1) (oneM K W.heap.size) ∧ CB W2 cb mc 1 ∧ Kp (fun k => k = cb ∨ k = mc) W W2 := by
  have hlb := h.lt
  have hlm := hm.lt
  have hne := h.ne hm
  obtain ⟨W1, e1⟩ : ∃ W1, W1 = W.setCell ⟨cb, 1, none⟩ (.int .i64 1) := ⟨_, rfl⟩
  have z1 : W1.heap.size = W.heap.size := by rw [e1]; simp [World.setCell]
  have h1 : CB W1 cb mc 1 := by rw [e1]; exact (heap_set h).trans rfl
  have m1 := hm.keep (w' := W1) (by rw [e1]; exact heap_set_ne hne)
  have K1 : Kp (fun k => k = cb ∨ k = mc) W W1 := by rw [e1]; exact kp_set _ _ _ (.inl rfl)
  rw [← e1]
  obtain ⟨W3, e3⟩ : ∃ W3, W3 = (W1.alloc (.cells (thC gf cf) 109)).drew := ⟨_, rfl⟩
  have B3 : Below W1.heap.size W1 W3 := by rw [e3]; exact ((Below.refl _ _).alloc (Nat.le_refl _) _).drew
  have t3 : TH W3 W.heap.size gf cf 1 := by rw [e3, ← z1]; exact heap_alloc_new W1 _
  have h3 := h1.keep (B3.block _ (by omega))
  have m3 := m1.later B3
  rw [← e3]
  obtain ⟨W2, hrun, m2, hg⟩ := m3.put (t := 104) (e := 102) (by kernel_rfl) (by unfold maxLen; omega) hK (.pointer (some ⟨W.heap.size, 0, none⟩))
  have lt3 := Lg.lt_heap t3
  exact ⟨W2, hrun, (hg.block _ lt3 (fun e => by injection e with e; omega)).trans t3, m2, h3.keep (hg.block _ h3.lt (fun e => by injection e with e; exact hne e)), (K1.then B3).grown hg (fun k e => .inl (.inr (by injection e with e; exact e.symm)))⟩
set_option maxHeartbeats 2000000 in
theorem cput_new (W : World) (cb mc n gf cf : Nat) (K : ByteArray) (h : CB W cb mc 0) (hm : Mv.VMap W mc n NoM) (hK : K.size ≤ maxLen) (hn : n ≤ 900) : Calls Tryz.prog 23 #[.pointer (some ⟨cb, 0, none⟩), .string K, .agg #[.int .i64 1, .slice (some ⟨gf, 0, none⟩) 1 cf, .string ⟨#[]⟩, .int .i64 0, .string ⟨#[]⟩, .int .i64 2]] W (PutSays W cb mc n K gf cf) := by
  obtain ⟨W0, e0⟩ : ∃ W0, W0 = (W.alloc (.cells #[.pointer (some ⟨cb, 0, none⟩)] 53)).alloc (.cells #[.int .i64 1, .slice (some ⟨gf, 0, none⟩) 1 cf, .string ⟨#[]⟩, .int .i64 0, .string ⟨#[]⟩, .int .i64 2] 44) := ⟨_, rfl⟩
  have B0 : Below W.heap.size W W0 := by rw [e0]; exact ((Below.refl _ _).alloc (Nat.le_refl _) _).alloc (by simp) _
  have z0 : W0.heap.size = W.heap.size + 2 := by rw [e0]; simp
  have x0 : W0.heap[W.heap.size]? = some (.cells #[.pointer (some ⟨cb, 0, none⟩)] 53 (0, 0)) := by rw [e0]; exact Lg.heap_two
  have y0 : W0.heap[W.heap.size + 1]? = some (.cells #[.int .i64 1, .slice (some ⟨gf, 0, none⟩) 1 cf, .string ⟨#[]⟩, .int .i64 0, .string ⟨#[]⟩, .int .i64 2] 44 (0, 0)) := by rw [e0]; exact heap_alloc2_new W _ _
  have h0 := h.keep (B0.block _ h.lt)
  have m0 := hm.later B0
  have lk := m0.look (t := 104) (e := 102) (by kernel_rfl) (z := .pointer none) (zP W0) hK
  simp only [NoM, Option.getD_none, Option.isSome_none] at lk
  have c0 : W0.cell? ⟨cb, 0, none⟩ = some (.int .i64 1000) := (cell_heap h0 0).trans rfl
  have c2 : W0.cell? ⟨cb, 2, none⟩ = some (.map (some mc)) := (cell_heap h0 2).trans rfl
  have q0 : W0.cell? ⟨W.heap.size, 0, none⟩ = some (.pointer (some ⟨cb, 0, none⟩)) := (cell_heap x0 0).trans rfl
  obtain ⟨l, hl, hlen⟩ : ∃ l : Nat, l ≤ n ∧ ∀ j, (Builtin.len_ #[104] 3 #[.map (some mc)]).run Tryz.prog (W0.drewN j) = .ok (.int .i64 (l : Int)) (W0.drewN j) := by
    obtain ⟨D, hown, _⟩ := m0
    refine ⟨Maps.size D, hown.size_le, fun j => ?_⟩
    have : (W0.drewN j).ownsMap Tryz.prog 9 Mv.rv mc n D := by
      obtain ⟨es, cl, h1, h2, h3, h4⟩ := hown
      exact ⟨es, cl, h1, h2, h3, h4⟩
    exact this.len Tryz.underlying104 3
  have hd : decide ((1000 : Int) ≤ (l : Int)) = false := decide_eq_false (by omega)
  have HB := Lib.hid B0
  have EW := Lib.hid e0
  have H0 := Lib.hid h0
  have M0 := Lib.hid m0
  have X0 := Lib.hid x0
  have Y0 := Lib.hid y0
  have hlb := h.lt
  have hlm := hm.lt
  have HZ := Lib.hid z0
  clear h h0 e0 B0 x0 y0 m0 hm z0
  go_enter Tryz.func23, Tryz.ntmps23
  go_upto_region 1 with (fail)
  rw [← EW.out]
  go_wp2_with (fail)
  go_quiet (fail)
  go_wp2_with (fail)
  generalize hW : W0.drewN _ = V
  have HW := Lib.hid hW
  have zz : V.heap.size = W.heap.size + 2 := by rw [← hW]; exact HZ.out
  have hh : CB V cb mc 0 := by rw [← hW]; exact H0.out
  have mm : Mv.VMap V mc n NoM := by rw [← hW]; exact M0.out.keep rfl
  have xx : V.heap[W.heap.size]? = some (.cells #[.pointer (some ⟨cb, 0, none⟩)] 53 (0, 0)) := by rw [← hW]; exact X0.out
  have yy : V.heap[W.heap.size + 1]? = some (.cells #[.int .i64 1, .slice (some ⟨gf, 0, none⟩) 1 cf, .string ⟨#[]⟩, .int .i64 0, .string ⟨#[]⟩, .int .i64 2] 44 (0, 0)) := by rw [← hW]; exact Y0.out
  have KV : Kp (fun k => k = cb ∨ k = mc) W V := by rw [← hW]; exact ⟨HB.out.os, HB.out.tape, HB.out.output, HB.out.size, fun k h1 _ => HB.out.block k h1⟩
  clear hW lk hlen c0 c2 q0
  have SX : Hid (∀ V' : World, V'.heap[W.heap.size]? = V.heap[W.heap.size]? → V'.heap[W.heap.size + 1]? = V.heap[W.heap.size + 1]? → (∀ t, CB V' cb mc t → (fun V' : World => V'.cell? ⟨W.heap.size, 0, none⟩ = some (.pointer (some ⟨cb, 0, none⟩)) ∧ V'.cell? ⟨cb, 2, none⟩ = some (.map (some mc)) ∧ V'.cell? ⟨W.heap.size + 1, 0, none⟩ = some (.int .i64 1) ∧ V'.cell? ⟨W.heap.size + 1, 1, none⟩ = some (.slice (some ⟨gf, 0, none⟩) 1 cf) ∧ V'.cell? ⟨W.heap.size + 1, 2, none⟩ = some (.string ⟨#[]⟩) ∧ V'.cell? ⟨W.heap.size + 1, 3, none⟩ = some (.int .i64 0) ∧ V'.cell? ⟨W.heap.size + 1, 4, none⟩ = some (.string ⟨#[]⟩) ∧ V'.cell? ⟨W.heap.size + 1, 5, none⟩ = some (.int .i64 2)) V')) := Lib.hid fun V' e1 e2 t hc => by
    have h1 := e1.trans xx
    have h2 := e2.trans yy
    exact ⟨(cell_heap h1 0).trans rfl, (cell_heap hc 2).trans rfl, (cell_heap h2 0).trans rfl, (cell_heap h2 1).trans rfl, (cell_heap h2 2).trans rfl, (cell_heap h2 3).trans rfl, (cell_heap h2 4).trans rfl, (cell_heap h2 5).trans rfl⟩
  obtain ⟨W2, hmu, t2, m2, h2, k2⟩ := cadd_step (gf := gf) (cf := cf) hh mm hK hn
  have hcV := hh.lt
  have hmV := mm.lt
  have h1 : CB (V.setCell ⟨cb, 1, none⟩ (.int .i64 1)) cb mc 1 := (heap_set hh).trans rfl
  have kS0 : (fun V' : World => V'.cell? ⟨W.heap.size, 0, none⟩ = some (.pointer (some ⟨cb, 0, none⟩)) ∧ V'.cell? ⟨cb, 2, none⟩ = some (.map (some mc)) ∧ V'.cell? ⟨W.heap.size + 1, 0, none⟩ = some (.int .i64 1) ∧ V'.cell? ⟨W.heap.size + 1, 1, none⟩ = some (.slice (some ⟨gf, 0, none⟩) 1 cf) ∧ V'.cell? ⟨W.heap.size + 1, 2, none⟩ = some (.string ⟨#[]⟩) ∧ V'.cell? ⟨W.heap.size + 1, 3, none⟩ = some (.int .i64 0) ∧ V'.cell? ⟨W.heap.size + 1, 4, none⟩ = some (.string ⟨#[]⟩) ∧ V'.cell? ⟨W.heap.size + 1, 5, none⟩ = some (.int .i64 2)) V := SX.out V rfl rfl 0 hh
  have kS0d : (fun V' : World => V'.cell? ⟨W.heap.size, 0, none⟩ = some (.pointer (some ⟨cb, 0, none⟩)) ∧ V'.cell? ⟨cb, 2, none⟩ = some (.map (some mc)) ∧ V'.cell? ⟨W.heap.size + 1, 0, none⟩ = some (.int .i64 1) ∧ V'.cell? ⟨W.heap.size + 1, 1, none⟩ = some (.slice (some ⟨gf, 0, none⟩) 1 cf) ∧ V'.cell? ⟨W.heap.size + 1, 2, none⟩ = some (.string ⟨#[]⟩) ∧ V'.cell? ⟨W.heap.size + 1, 3, none⟩ = some (.int .i64 0) ∧ V'.cell? ⟨W.heap.size + 1, 4, none⟩ = some (.string ⟨#[]⟩) ∧ V'.cell? ⟨W.heap.size + 1, 5, none⟩ = some (.int .i64 2)) V.drew := SX.out V.drew rfl rfl 0 hh
  have kS1 : (fun V' : World => V'.cell? ⟨W.heap.size, 0, none⟩ = some (.pointer (some ⟨cb, 0, none⟩)) ∧ V'.cell? ⟨cb, 2, none⟩ = some (.map (some mc)) ∧ V'.cell? ⟨W.heap.size + 1, 0, none⟩ = some (.int .i64 1) ∧ V'.cell? ⟨W.heap.size + 1, 1, none⟩ = some (.slice (some ⟨gf, 0, none⟩) 1 cf) ∧ V'.cell? ⟨W.heap.size + 1, 2, none⟩ = some (.string ⟨#[]⟩) ∧ V'.cell? ⟨W.heap.size + 1, 3, none⟩ = some (.int .i64 0) ∧ V'.cell? ⟨W.heap.size + 1, 4, none⟩ = some (.string ⟨#[]⟩) ∧ V'.cell? ⟨W.heap.size + 1, 5, none⟩ = some (.int .i64 2)) (V.setCell ⟨cb, 1, none⟩ (.int .i64 1)) := SX.out _ (heap_set_ne (by omega)) (heap_set_ne (by omega)) 1 h1
  have kS1d : (fun V' : World => V'.cell? ⟨W.heap.size, 0, none⟩ = some (.pointer (some ⟨cb, 0, none⟩)) ∧ V'.cell? ⟨cb, 2, none⟩ = some (.map (some mc)) ∧ V'.cell? ⟨W.heap.size + 1, 0, none⟩ = some (.int .i64 1) ∧ V'.cell? ⟨W.heap.size + 1, 1, none⟩ = some (.slice (some ⟨gf, 0, none⟩) 1 cf) ∧ V'.cell? ⟨W.heap.size + 1, 2, none⟩ = some (.string ⟨#[]⟩) ∧ V'.cell? ⟨W.heap.size + 1, 3, none⟩ = some (.int .i64 0) ∧ V'.cell? ⟨W.heap.size + 1, 4, none⟩ = some (.string ⟨#[]⟩) ∧ V'.cell? ⟨W.heap.size + 1, 5, none⟩ = some (.int .i64 2)) (V.setCell ⟨cb, 1, none⟩ (.int .i64 1)).drew := kS1
  have kS2 : ∀ o, (fun V' : World => V'.cell? ⟨W.heap.size, 0, none⟩ = some (.pointer (some ⟨cb, 0, none⟩)) ∧ V'.cell? ⟨cb, 2, none⟩ = some (.map (some mc)) ∧ V'.cell? ⟨W.heap.size + 1, 0, none⟩ = some (.int .i64 1) ∧ V'.cell? ⟨W.heap.size + 1, 1, none⟩ = some (.slice (some ⟨gf, 0, none⟩) 1 cf) ∧ V'.cell? ⟨W.heap.size + 1, 2, none⟩ = some (.string ⟨#[]⟩) ∧ V'.cell? ⟨W.heap.size + 1, 3, none⟩ = some (.int .i64 0) ∧ V'.cell? ⟨W.heap.size + 1, 4, none⟩ = some (.string ⟨#[]⟩) ∧ V'.cell? ⟨W.heap.size + 1, 5, none⟩ = some (.int .i64 2)) ((V.setCell ⟨cb, 1, none⟩ (.int .i64 1)).alloc o) := fun o => SX.out _ ((Below.heap_alloc _ _ _ (by simp [World.setCell]; omega)).trans (heap_set_ne (by omega))) ((Below.heap_alloc _ _ _ (by simp [World.setCell]; omega)).trans (heap_set_ne (by omega))) 1 ((Below.heap_alloc _ _ _ (by simp [World.setCell]; omega)).trans h1)
  have kS2d : ∀ o, (fun V' : World => V'.cell? ⟨W.heap.size, 0, none⟩ = some (.pointer (some ⟨cb, 0, none⟩)) ∧ V'.cell? ⟨cb, 2, none⟩ = some (.map (some mc)) ∧ V'.cell? ⟨W.heap.size + 1, 0, none⟩ = some (.int .i64 1) ∧ V'.cell? ⟨W.heap.size + 1, 1, none⟩ = some (.slice (some ⟨gf, 0, none⟩) 1 cf) ∧ V'.cell? ⟨W.heap.size + 1, 2, none⟩ = some (.string ⟨#[]⟩) ∧ V'.cell? ⟨W.heap.size + 1, 3, none⟩ = some (.int .i64 0) ∧ V'.cell? ⟨W.heap.size + 1, 4, none⟩ = some (.string ⟨#[]⟩) ∧ V'.cell? ⟨W.heap.size + 1, 5, none⟩ = some (.int .i64 2)) ((V.setCell ⟨cb, 1, none⟩ (.int .i64 1)).alloc o).drew := kS2
  have kS3 : (fun V' : World => V'.cell? ⟨W.heap.size, 0, none⟩ = some (.pointer (some ⟨cb, 0, none⟩)) ∧ V'.cell? ⟨cb, 2, none⟩ = some (.map (some mc)) ∧ V'.cell? ⟨W.heap.size + 1, 0, none⟩ = some (.int .i64 1) ∧ V'.cell? ⟨W.heap.size + 1, 1, none⟩ = some (.slice (some ⟨gf, 0, none⟩) 1 cf) ∧ V'.cell? ⟨W.heap.size + 1, 2, none⟩ = some (.string ⟨#[]⟩) ∧ V'.cell? ⟨W.heap.size + 1, 3, none⟩ = some (.int .i64 0) ∧ V'.cell? ⟨W.heap.size + 1, 4, none⟩ = some (.string ⟨#[]⟩) ∧ V'.cell? ⟨W.heap.size + 1, 5, none⟩ = some (.int .i64 2)) W2 := SX.out _ (k2.block _ (by omega) (fun e => by rcases e with e | e <;> omega)) (k2.block _ (by omega) (fun e => by rcases e with e | e <;> omega)) 1 h2
  have T0 := ctick_any V.drew cb mc 0 hh (by omega)
  have T : Hid (Calls Tryz.prog 41 #[.pointer (some ⟨cb, 0, none⟩)] V.drew fun e w' => e = .returned (.int .i64 1) ∧ w' = V.drew.setCell ⟨cb, 1, none⟩ (.int .i64 1)) := Lib.hid T0
  have FIN : Hid (PutSays W cb mc n K gf cf (.returned (.int .i64 0)) W2) := Lib.hid ⟨rfl, ⟨V.heap.size, by omega, t2, m2⟩, h2, KV.trans k2⟩
  clear T0 hh mm xx yy KV t2 m2 h2 k2 h1 SX zz
  generalize PutSays W cb mc n K gf cf = Q at *
  go_region_held3 (fun V' : World => V'.cell? ⟨W.heap.size, 0, none⟩ = some (.pointer (some ⟨cb, 0, none⟩)) ∧ V'.cell? ⟨cb, 2, none⟩ = some (.map (some mc)) ∧ V'.cell? ⟨W.heap.size + 1, 0, none⟩ = some (.int .i64 1) ∧ V'.cell? ⟨W.heap.size + 1, 1, none⟩ = some (.slice (some ⟨gf, 0, none⟩) 1 cf) ∧ V'.cell? ⟨W.heap.size + 1, 2, none⟩ = some (.string ⟨#[]⟩) ∧ V'.cell? ⟨W.heap.size + 1, 3, none⟩ = some (.int .i64 0) ∧ V'.cell? ⟨W.heap.size + 1, 4, none⟩ = some (.string ⟨#[]⟩) ∧ V'.cell? ⟨W.heap.size + 1, 5, none⟩ = some (.int .i64 2)) (first | (with_reducible exact kS0) | (with_reducible exact kS0d) | (with_reducible exact kS1) | (with_reducible exact kS1d) | (with_reducible exact kS2 _) | (with_reducible exact kS2d _) | (with_reducible exact kS3) | go_keep) ((go_at_call 41; (with_reducible refine (T.out).mono ?_); rintro e w' ⟨rfl, rfl⟩))
  go_wp2_with (fail)
  exact FIN.out
end Go.Proofs.YtifiipmmgnmciaaGreatDoor.Sv
