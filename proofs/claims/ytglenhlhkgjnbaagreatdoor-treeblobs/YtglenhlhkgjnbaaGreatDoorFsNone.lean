/- tree.Files at no blobs: nothing is there. -/
import Derived.Test.YtglenhlhkgjnbaaGreatDoorFsMem
import Derived.RangeFuncNested
import Derived.RangeFuncBound
import Derived.RangeFuncCalls
import Derived.RangeFuncLeaves
import Derived.Shelf.Abstract
import Derived.Shelf.RegionOpen
import Derived.OwnWalkIn
import Derived.TacticsInMore
import Derived.LoopNIn
import Derived.LoopIn
import Derived.Test.YtglenhlhkgjnbaaGreatDoorFsDir
import Derived.Test.YtglenhlhkgjnbaaGreatDoorFsEnc
import Derived.Test.YtglenhlhkgjnbaaGreatDoorRefSum
namespace Go.Proofs.YtglenhlhkgjnbaaGreatDoor.Fs
open Go.RowKit Go.Maps Go.Shelf
set_option linter.unusedVariables false
set_option maxRecDepth 100000
theorem down_none (d a : ByteArray) (hd : d.size ≤ 1000000) (b1 b2 b3 b4 m n : Nat) (w : World) (h1 : w.heap[b1]? = some (.cells #[.int .i64 0] 3 (0, 0))) (h2 : w.heap[b2]? = some (.cells #[.map (some m)] 81 (0, 0))) (h12 : b1 ≠ b2) (hK : KnAt w m n fun _ => none) :
    Calls Tryz.prog 63 #[.string d, .string a, .pointer (some ⟨b1, 0, none⟩), .pointer (some ⟨b2, 0, none⟩), .pointer (some ⟨b3, 0, none⟩), .pointer (some ⟨b4, 0, none⟩)] w fun e w' => e = .returned (.int .i64 17) ∧ w' = w.setCell ⟨b1, 0, none⟩ (.int .i64 1) := by
  have c1 : w.cell? ⟨b1, 0, none⟩ = some (.int .i64 0) := (cell_heap h1 0).trans rfl
  have f1 : w.frozen? ⟨b1, 0, none⟩ = false := frozen_heap h1 0
  have c2 : w.cell? ⟨b2, 0, none⟩ = some (.map (some m)) := (cell_heap h2 0).trans rfl
  have hne : b2 ≠ b1 := fun e => h12 e.symm
  have hm1 : m ≠ b1 := fun e => by
    subst e
    obtain ⟨D, ⟨es, cl, h, _⟩, _⟩ := hK
    rw [h1] at h
    cases h
  have LK := KnAt.look (hK.setCell (p := ⟨b1, 0, none⟩) hm1 (.int .i64 1)) (s := d) (by unfold maxLen; omega)
  simp only [Option.getD_none, Option.isSome_none] at LK
  clear h1 h2 hK
  go_enter Tryz.func63, Tryz.ntmps63
  go_wp2_with (fail)
  go_ret
  exact ⟨rfl, by first | rfl | trivial⟩
set_option maxHeartbeats 1000000 in
theorem backward_in (F : Fence) (n : Nat) (hF : F.fn 62) (hro : F.round = none) (a : Option Addr) (len cap : Nat) (w : World) :
    CallsIn F n Tryz.prog 62 #[.slice a len cap] w fun e w' => e = .returned (.func (.func 105) #[] #[.pointer (some ⟨w.heap.size, 0, none⟩)]) ∧ w' = w.alloc (.cells #[.slice a len cap] 42) := by
  refine callsIn_of_wp Tryz.func62 rfl hF ?_ hro
  simp only [Tryz.ntmps62, List.size_toArray, List.length_cons, List.length_nil, Nat.reduceAdd, Nat.reduceSub, Array.replicate_succ, Array.replicate_zero, List.push_toArray, List.append_toArray, List.nil_append, List.cons_append]
  gi_wp2
  go_ret
  exact ⟨rfl, rfl⟩
set_option maxHeartbeats 2000000 in
theorem backward_nil (F : Fence) (n : Nat) (hF : F.fn 105) (hro : F.round = none) (Bs : Nat) (w : World) (hBs : Bs < w.heap.size) (hc : w.cell? ⟨Bs, 0, none⟩ = some (.slice none 0 0)) :
    SeqStopsK F n Tryz.prog 105 #[.pointer (some ⟨Bs, 0, none⟩)] (fun x : Empty => #[.int .i64 0, .int .i64 0]) (Below w.heap.size) (fun ys => ys = []) (fun pre => False) 0 w := fun l J Jx W hW _ _ hY h0 => by
  have hc' := (hW.cell (p := ⟨Bs, 0, none⟩) hBs).trans hc
  refine callsIn_of_wp Tryz.func105 rfl hF ?_ hro
  simp only [Tryz.ntmps105, List.size_toArray, List.length_cons, List.length_nil, Nat.reduceAdd, Nat.reduceSub, Array.replicate_succ, Array.replicate_zero, List.push_toArray, List.append_toArray, List.nil_append, List.cons_append]
  gi_wp2
  gi_loopw [3] (fun i wr => i = .int .i64 (-1) ∧ J [] wr) (fun _ _ => 0)
  case atStart => exact ⟨rfl, h0⟩
  case round =>
    obtain ⟨rfl, hJs⟩ := hrel
    gi_wp2
    go_end0
    exact ⟨⟨_, rfl⟩, .inl ⟨_, rfl, hJs⟩⟩
set_option maxHeartbeats 4000000 in
/-- tree.Files at no blobs -/
theorem pfiles_none (d : ByteArray) (hd : d.size ≤ 1000000) (w : World) :
    Calls Tryz.prog 26 #[.string d, .slice none 0 0] w fun e w' => e = .returned (.tuple #[.slice none 0 0, .int .i64 17]) ∧ Below w.heap.size w w' := by
  refine (callsIn_wide (n := 10)).1 ?_
  refine callsIn_of_wp_marks Tryz.func26 rfl trivial ?_ rfl
  have hmm := @run_makeMap Tryz.prog
  simp only [Tryz.ntmps26, List.size_toArray, List.length_cons, List.length_nil, Nat.reduceAdd, Nat.reduceSub, Array.replicate_succ, Array.replicate_zero, List.push_toArray, List.append_toArray, List.nil_append, List.cons_append]
  gi_wp2_with (refine ⟨trivial, ?_⟩; gi_at_call 62; refine (backward_in Fence.wide (10 - 1) trivial rfl _ _ _ _).mono ?_; rintro e w' ⟨rfl, rfl⟩)
  obtain ⟨W0, eW⟩ : ∃ W0, (((w.alloc (.map #[] 0)).alloc (.cells #[.map (some w.heap.size)] 81)).alloc (.cells #[.slice none 0 0] 42)) = W0 := ⟨_, rfl⟩
  rw [eW]
  have hz0 : W0.heap.size = w.heap.size + 3 := by rw [← eW]; simp
  have hb0 : Below w.heap.size w W0 := by rw [← eW]; exact (((Below.refl _ _).alloc (Nat.le_refl _) _).alloc (by simp) _).alloc (by simp; omega) _
  have hk0 : KnAt W0 w.heap.size 0 fun _ => none := by rw [← eW]; exact ((KnAt.made w).alloc _).alloc _
  have hm0 : W0.heap[w.heap.size + 1]? = some (.cells #[.map (some w.heap.size)] 81 (0, 0)) := by
    rw [← eW]
    have := heap_alloc2_new w (.map #[] 0) (.cells #[.map (some w.heap.size)] 81)
    exact (Below.heap_alloc _ _ _ (by simp)).trans this
  have hs0 : W0.heap[w.heap.size + 2]? = some (.cells #[.slice none 0 0] 42 (0, 0)) := by
    rw [← eW]
    have := heap_alloc_new ((w.alloc (.map #[] 0)).alloc (.cells #[.map (some w.heap.size)] 81)) (.cells #[.slice none 0 0] 42)
    simpa using this
  clear eW
  refine wpIn_rangeFunc_ownG (α := Empty) (F := Fence.wide) (n := 10) rfl (by omega) (gf := 105) (lb := #[.pointer (some ⟨w.heap.size + 2, 0, none⟩)]) rfl trivial (enters_of Tryz.func105 (by kernel_rfl) rfl)
    (backward_nil Fence.wide (10 - 1) trivial rfl (w.heap.size + 2) W0 (by omega) ((cell_heap hs0 0).trans rfl)) belowK_t (belowK_b (Nat.le_refl _)) (Below.refl _ _) (fun _ => rfl)
    (fun pre W => KnAt W w.heap.size 0 (fun _ => none) ∧ W.heap[w.heap.size + 1]? = some (.cells #[.map (some w.heap.size)] 81 (0, 0)) ∧ Below w.heap.size w W)
    (fun _ _ _ => False)
    (fun s A B row hs hg hr => ⟨hs.1.grown hg (fun e => by have := (hr _ e.symm).1; omega), (hg.block _ (Lg.lt_heap hs.2.1) (fun e => by have := (hr _ e.symm).1; omega)).trans hs.2.1, hs.2.2.grown hg hs.2.2.size (fun r e => by have := (hr r e).1; omega)⟩)
    (fun _ _ _ _ _ hs _ _ => hs)
    ⟨hk0, hm0, hb0⟩
    (fun x => x.elim) ?assign ?body ?done ?stop
  case assign =>
    intro l x
    exact x.elim
  case body =>
    intro l pre x
    exact x.elim
  case stop =>
    rintro D c pre W _ h
    exact h.elim
  case done =>
    rintro D xs W hD rfl ⟨hk, hm, hb⟩ hDW
    have hmf : ∀ (fn : Fn) (first cap : Array Value) (w : World), (Instr.makeFunc fn first cap).run Tryz.prog w = .ok (.func fn first cap) w := fun _ _ _ _ => rfl
    have hsf := fun (fn : Fn) (first cap : Array Value) (a : Addr) (w : World) => run_store Tryz.prog w a (.func fn first cap) .plain rfl
    have hwW := hb.size
    have hkl := hk.lt
    have hml := Lg.lt_heap hm
    have DN : Hid (∀ W2, W2 = (((W.alloc (.cells #[.slice none 0 0] 22)).alloc (.cells #[.int .i64 0] 3)).alloc (.cells #[.func (.func 63) #[] #[.pointer (some ⟨W.heap.size + 1, 0, none⟩), .pointer (some ⟨w.heap.size + 1, 0, none⟩), .pointer (some ⟨W.heap.size + 1 + 1, 0, none⟩), .pointer (some ⟨W.heap.size, 0, none⟩)]] 85)) →
        Calls Tryz.prog 63 #[.string d, .string ⟨#[]⟩, .pointer (some ⟨W.heap.size + 1, 0, none⟩), .pointer (some ⟨w.heap.size + 1, 0, none⟩), .pointer (some ⟨W.heap.size + 1 + 1, 0, none⟩), .pointer (some ⟨W.heap.size, 0, none⟩)] W2 fun e w' => e = .returned (.int .i64 17) ∧ Below W.heap.size W w' ∧ (W.heap.size + 3 ≤ w'.heap.size)) := Lib.hid fun W2 e2 => by
      have hbw : Below W.heap.size W W2 := by rw [e2]; exact (((Below.refl _ _).alloc (Nat.le_refl _) _).alloc (by simp) _).alloc (by simp; omega) _
      have hz2 : W2.heap.size = W.heap.size + 3 := by rw [e2]; simp
      have h1 : W2.heap[W.heap.size + 1]? = some (.cells #[.int .i64 0] 3 (0, 0)) := by
        rw [e2]
        have a1 := heap_alloc2_new W (.cells #[.slice none 0 0] 22) (.cells #[.int .i64 0] 3)
        exact (Below.heap_alloc _ _ _ (by simp)).trans a1
      have h2 : W2.heap[w.heap.size + 1]? = some (.cells #[.map (some w.heap.size)] 81 (0, 0)) := (hbw.block _ hml).trans hm
      refine (down_none d ⟨#[]⟩ hd (W.heap.size + 1) (w.heap.size + 1) (W.heap.size + 1 + 1) W.heap.size w.heap.size 0 W2 h1 h2 (by omega) (hk.later hbw)).mono ?_
      rintro e w' ⟨rfl, rfl⟩
      exact ⟨rfl, hbw.setCell (by show W.heap.size ≤ W.heap.size + 1; omega) _, by simp; omega⟩
    gi_wp2_with (refine ⟨trivial, ?_⟩; gi_at_call 63; refine (callsIn_wide.2 (DN.out _ rfl)).mono ?_; rintro e w3 ⟨rfl, hb3, hz3⟩)
    have hK3 : w3.heap[D]? = some (.deferred (some [])) := (hb3.block D (Lg.lt_heap hDW)).trans hDW
    refine ⟨by simp, .inl ⟨_, _, rfl, run_takeDeferred hK3, ?_⟩⟩
    refine ⟨_, results_tmp2 rfl _ _ _, ?_, ?_⟩
    · rfl
    · exact (hb.trans (hb3.mono hwW)).grown (grownBy_putObj' w3 D (.deferred none)) (by have := hb3.size; omega) (fun r e => by cases e; omega)
end Go.Proofs.YtglenhlhkgjnbaaGreatDoor.Fs
/- The contract of ch 04's awake. -/
namespace Go.Proofs.YtglenhlhkgjnbaaGreatDoor.Fs
open Go.RowKit
set_option linter.unusedVariables false
set_option maxRecDepth 100000
def exF : List Fl := [⟨⟨#[97, 47, 98]⟩, ⟨#[]⟩⟩, ⟨⟨#[99]⟩, ⟨#[]⟩⟩]
theorem ex_names : names exF = [[97], [99]] := by
  exact (names_eq exF).trans rfl
theorem ex_get1 : get exF [97] = none := by decide
theorem ex_get2 : get exF [99] = some ⟨#[]⟩ := by rfl
theorem ex_dir : dir exF = [⟨[97], true, digest (under exF [97])⟩, ⟨[99], false, Blk.sum []⟩] := by
  rw [dir_map, ex_names]
  show [entry exF [97], entry exF [99]] = _
  rw [entry_dir ex_get1, entry_file ex_get2]
def exD : B := List.replicate 32 0
theorem ex_enc : encode [⟨[97], false, exD⟩, ⟨[97], false, exD⟩] = ([], 11) := by
  refine encode_no (right_bad (i := 1) (by simp) ?_)
  intro h
  have := h.2.2.2 (by omega)
  exact absurd this (by decide)
theorem exD_conv (w : World) : (convert 63 9 (.slice (some ⟨w.heap.size, 0, none⟩) 32 32)).run Tryz.prog (w.alloc (.cells (zc 32) 5)) = .ok (.string (bs exD)) (w.alloc (.cells (zc 32) 5)) :=
  conv_own (B := 0) (n := 32) (l := exD) Tryz.underlying63 Tryz.underlying5 Tryz.underlying9
    ⟨rfl, .inr ⟨w.heap.size, 32, zc 32, rfl, Nat.zero_le _, heap_alloc_new w _, Nat.le_refl _, by unfold maxLen; decide, rfl, rfl⟩⟩
set_option maxHeartbeats 2000000 in
theorem awake_any (w : World) (hE : Env w) : Calls Tryz.prog 14 #[] w fun e w' => e = .returned (.bool true) ∧ Below w.heap.size w w' := by
  have EV := Lib.hid (fun W (h : Below w.heap.size w W) => hE.below h)
  have MK : ∀ W : World, (Instr.makeSlice 63 (.int .i64 32) (.int .i64 32)).run Tryz.prog W = .ok (.slice (some ⟨W.heap.size, 0, none⟩) 32 32) (W.alloc (.cells (zc 32) 5)) := make_zc 32 (by omega)
  have CV := exD_conv
  have ZC : Hid (Below w.heap.size w (w.alloc (.cells (zc 32) 5))) := Lib.hid ((Below.refl _ _).alloc (Nat.le_refl _) _)
  have DI : Hid (∀ W b, b = W.heap.size → Below w.heap.size w W → Calls Tryz.prog 16 #[.slice (some ⟨b, 0, none⟩) 2 2, .string ⟨#[]⟩] (W.alloc (.cells #[.string ⟨#[97, 47, 98]⟩, .string ⟨#[]⟩, .string ⟨#[99]⟩, .string ⟨#[]⟩] 62)) fun e w' => (∃ g c, e = .returned (.slice (some g) 2 c) ∧ w'.cell? g = some (.string ⟨#[97]⟩) ∧ w'.cell? ⟨g.block, g.off + 1, none⟩ = some (.bool true) ∧ w'.cell? (g.add 3) = some (.string ⟨#[99]⟩) ∧ w'.cell? ⟨(g.add 3).block, (g.add 3).off + 1, none⟩ = some (.bool false) ∧ g.block < w'.heap.size) ∧ Below w.heap.size w w') := Lib.hid fun W b eb hW => by
    subst eb
    have hb1 : Below w.heap.size w (W.alloc (.cells #[.string ⟨#[97, 47, 98]⟩, .string ⟨#[]⟩, .string ⟨#[99]⟩, .string ⟨#[]⟩] 62)) := hW.alloc hW.size _
    have hr : Fls (W.alloc (.cells #[.string ⟨#[97, 47, 98]⟩, .string ⟨#[]⟩, .string ⟨#[99]⟩, .string ⟨#[]⟩] 62)) (some ⟨W.heap.size, 0, none⟩) exF :=
      ⟨rfl, fun _ => ⟨_, rfl, by simp, fun j u hu => by
        rw [Lg.add_eq, Lg.cell_at (heap_alloc_new W _)]
        simpa [exF, fc] using hu⟩⟩
    refine (pdir_any (some ⟨W.heap.size, 0, none⟩) exF 2 [] (by simp) _ (EV.out _ hb1) hr ⟨by decide, by decide⟩).mono ?_
    rintro e w' ⟨⟨A, c, rfl, hr'⟩, hb'⟩
    rw [at_nil, ex_dir] at hr'
    obtain ⟨g, rfl, hg, c0, c1, c2⟩ := Ens.at_ (l := [⟨[97], true, digest (under exF [97])⟩, ⟨[99], false, Blk.sum []⟩]) hr' (k := 0) (by simp)
    obtain ⟨g', e', hg', d0, d1, d2⟩ := Ens.at_ (l := [⟨[97], true, digest (under exF [97])⟩, ⟨[99], false, Blk.sum []⟩]) hr' (k := 1) (by simp)
    obtain rfl := Option.some.inj e'
    have z : g.add (0 * 3) = g := by unfold Addr.add; simp
    rw [z] at c0 c1
    refine ⟨⟨g, c, ?_, c0, c1, d0, d1, hg⟩, hb1.trans (hb'.mono hb1.size)⟩
    rw [at_nil, ex_dir]; rfl
  have EC : Hid (∀ W, Below w.heap.size w W → Calls Tryz.prog 21 #[.slice (some ⟨W.heap.size, 0, none⟩) 2 2] (W.alloc (.cells #[.string ⟨#[97]⟩, .bool false, .string (bs exD), .string ⟨#[97]⟩, .bool false, .string (bs exD)] 33)) fun e w' => e = .returned (.tuple #[.string ⟨#[]⟩, .int .i64 11]) ∧ Below W.heap.size W w') := Lib.hid fun W hW => by
    have hb1 : Below w.heap.size w (W.alloc (.cells #[.string ⟨#[97]⟩, .bool false, .string (bs exD), .string ⟨#[97]⟩, .bool false, .string (bs exD)] 33)) := hW.alloc hW.size _
    have hb2 : Below W.heap.size W (W.alloc (.cells #[.string ⟨#[97]⟩, .bool false, .string (bs exD), .string ⟨#[97]⟩, .bool false, .string (bs exD)] 33)) := (Below.refl _ _).alloc (Nat.le_refl _) _
    have hr : Ens (W.alloc (.cells #[.string ⟨#[97]⟩, .bool false, .string (bs exD), .string ⟨#[97]⟩, .bool false, .string (bs exD)] 33)) (some ⟨W.heap.size, 0, none⟩) [⟨[97], false, exD⟩, ⟨[97], false, exD⟩] :=
      ⟨rfl, fun _ => ⟨_, rfl, by simp, fun j u hu => by
        rw [Lg.add_eq, Lg.cell_at (heap_alloc_new W _)]
        simpa [ec, ec1, show bs [97] = ⟨#[97]⟩ from rfl] using hu⟩⟩
    refine (pencode_any (some ⟨W.heap.size, 0, none⟩) [⟨[97], false, exD⟩, ⟨[97], false, exD⟩] 2 _ (EV.out _ hb1) hr (by
      have := bytesE_le (l := [⟨[97], false, exD⟩, ⟨[97], false, exD⟩]) (by intro x hx; simp at hx; subst hx; exact ⟨by simp, by simp [exD]⟩)
      simp at this; omega)).mono ?_
    rintro e w' ⟨rfl, hb'⟩
    rw [ex_enc]
    exact ⟨rfl, hb2.trans (hb'.mono hb2.size)⟩
  have FI : Hid (∀ W, Calls Tryz.prog 26 #[.string (bs exD), .slice none 0 0] W fun e w' => e = .returned (.tuple #[.slice none 0 0, .int .i64 17]) ∧ Below W.heap.size W w') := Lib.hid fun W => pfiles_none (bs exD) (by rw [bs_len]; simp [exD]) W
  clear hE EV
  go_enter Tryz.func14, Tryz.ntmps14
  go_wp2_with (first
    | (go_at_call 16; (with_reducible refine (DI.out _ _ (by simp) ZC.out).mono ?_); rintro e w1 ⟨⟨g, c, rfl, c0, c1, d0, d1, hg⟩, hb1⟩)
    | (go_at_call 21; (with_reducible refine (EC.out _ hb1).mono ?_); rintro e w2 ⟨rfl, hb2⟩)
    | (go_at_call 26; (with_reducible refine (FI.out _).mono ?_); rintro e w3 ⟨rfl, hb3⟩; have h23 := hb2.trans (hb3.mono hb2.size); have e0 := (h23.cell (p := g) hg).trans c0; have e1 := (h23.cell (p := ⟨g.block, g.off + 1, none⟩) hg).trans c1; have e2 : w3.cell? ⟨g.block, g.off + 3, none⟩ = some (.string ⟨#[99]⟩) := (h23.cell (p := ⟨g.block, g.off + 3, none⟩) hg).trans d0; have e3 : w3.cell? ⟨g.block, g.off + 3 + 1, none⟩ = some (.bool false) := (h23.cell (p := ⟨g.block, g.off + 3 + 1, none⟩) hg).trans d1; have e4 : w3.cell? ⟨g.block, g.off + 4, none⟩ = some (.bool false) := e3; clear c0 c1 d0 d1))
  go_ret
  exact ⟨rfl, hb1.trans (h23.mono hb1.size)⟩
end Go.Proofs.YtglenhlhkgjnbaaGreatDoor.Fs
