/- Joined by mkmerged.py: FsNone, FsBack, FsWalk, FsFilesP. -/
import Derived.Test.YtlndnpfjneeeeaaGreatDoorMh13
import Derived.RangeFuncNested
import Derived.RangeFuncBound
import Derived.RangeFuncCalls
import Derived.RangeFuncLeaves
import Derived.Shelf.Abstract
import Derived.Shelf.RegionOpen
import Derived.OwnWalkIn
import Derived.TacticsInMore
import Derived.LoopNIn
import Derived.LoopIn
import Derived.Test.YtlndnpfjneeeeaaGreatDoorMh15
import Derived.Test.YtlndnpfjneeeeaaGreatDoorMh16
import Derived.Test.YtlndnpfjneeeeaaGreatDoorMh08
/- FsNone, what a claim needs of it (prune.py). -/
namespace Go.Proofs.YtlndnpfjneeeeaaGreatDoor.Fs
open Go.RowKit Go.Maps Go.Shelf
set_option linter.unusedVariables false
set_option maxRecDepth 100000
theorem down_none (d a : ByteArray) (hd : d.size ≤ 1000000) (b1 b2 b3 b4 m n : Nat) (w : World) (h1 : w.heap[b1]? = some (.cells #[.int .i64 0] 3 (0, 0))) (h2 : w.heap[b2]? = some (.cells #[.map (some m)] 80 (0, 0))) (h12 : b1 ≠ b2) (hK : KnAt w m n fun _ => none) :
    Calls Tryz.prog 36 #[.string d, .string a, .pointer (some ⟨b1, 0, none⟩), .pointer (some ⟨b2, 0, none⟩), .pointer (some ⟨b3, 0, none⟩), .pointer (some ⟨b4, 0, none⟩)] w fun e w' => e = .returned (.int .i64 17) ∧ w' = w.setCell ⟨b1, 0, none⟩ (.int .i64 1) := by
  have c1 : w.cell? ⟨b1, 0, none⟩ = some (.int .i64 0) := (cell_heap h1 0).trans rfl
  have f1 : w.frozen? ⟨b1, 0, none⟩ = false := frozen_heap h1 0
  have c2 : w.cell? ⟨b2, 0, none⟩ = some (.map (some m)) := (cell_heap h2 0).trans rfl
  have hne : b2 ≠ b1 := fun e => h12 e.symm
  have hm1 : m ≠ b1 := fun e => by
    subst e
    obtain ⟨D, ⟨es, cl, h, _⟩, _⟩ := hK
    rw [h1] at h
    cases h
  have LK := KnAt.look (hK.setCell (p := ⟨b1, 0, none⟩) hm1 (.int .i64 1)) (s := d) (by unfold maxLen; omega)
  simp only [Option.getD_none, Option.isSome_none] at LK
  clear h1 h2 hK
  go_enter Tryz.func36, Tryz.ntmps36
  go_wp2_with (fail)
  go_ret
  exact ⟨rfl, by first | rfl | trivial⟩
set_option maxHeartbeats 1000000 in
theorem backward_in (F : Fence) (n : Nat) (hF : F.fn 34) (hro : F.round = none) (a : Option Addr) (len cap : Nat) (w : World) :
    CallsIn F n Tryz.prog 34 #[.slice a len cap] w fun e w' => e = .returned (.func (.func 87) #[] #[.pointer (some ⟨w.heap.size, 0, none⟩)]) ∧ w' = w.alloc (.cells #[.slice a len cap] 22) := by
  refine callsIn_of_wp Tryz.func34 rfl hF ?_ hro
  simp only [Tryz.ntmps34, List.size_toArray, List.length_cons, List.length_nil, Nat.reduceAdd, Nat.reduceSub, Array.replicate_succ, Array.replicate_zero, List.push_toArray, List.append_toArray, List.nil_append, List.cons_append]
  gi_wp2
  go_ret
  exact ⟨rfl, rfl⟩
set_option maxHeartbeats 2000000 in
theorem backward_nil (F : Fence) (n : Nat) (hF : F.fn 87) (hro : F.round = none) (Bs : Nat) (w : World) (hBs : Bs < w.heap.size) (hc : w.cell? ⟨Bs, 0, none⟩ = some (.slice none 0 0)) :
    SeqStopsK F n Tryz.prog 87 #[.pointer (some ⟨Bs, 0, none⟩)] (fun x : Empty => #[.int .i64 0, .int .i64 0]) (Below w.heap.size) (fun ys => ys = []) (fun pre => False) 0 w := fun l J Jx W hW _ _ hY h0 => by
  have hc' := (hW.cell (p := ⟨Bs, 0, none⟩) hBs).trans hc
  refine callsIn_of_wp Tryz.func87 rfl hF ?_ hro
  simp only [Tryz.ntmps87, List.size_toArray, List.length_cons, List.length_nil, Nat.reduceAdd, Nat.reduceSub, Array.replicate_succ, Array.replicate_zero, List.push_toArray, List.append_toArray, List.nil_append, List.cons_append]
  gi_wp2
  gi_loopw [3] (fun i wr => i = .int .i64 (-1) ∧ J [] wr) (fun _ _ => 0)
  case atStart => exact ⟨rfl, h0⟩
  case round =>
    obtain ⟨rfl, hJs⟩ := hrel
    gi_wp2
    go_end0
    exact ⟨⟨_, rfl⟩, .inl ⟨_, rfl, hJs⟩⟩
set_option maxHeartbeats 4000000 in
theorem pfiles_none (d : ByteArray) (hd : d.size ≤ 1000000) (w : World) :
    Calls Tryz.prog 8 #[.string d, .slice none 0 0] w fun e w' => e = .returned (.tuple #[.slice none 0 0, .int .i64 17]) ∧ Below w.heap.size w w' := by
  refine (callsIn_wide (n := 10)).1 ?_
  refine callsIn_of_wp_marks Tryz.func8 rfl trivial ?_ rfl
  have hmm := @run_makeMap Tryz.prog
  simp only [Tryz.ntmps8, List.size_toArray, List.length_cons, List.length_nil, Nat.reduceAdd, Nat.reduceSub, Array.replicate_succ, Array.replicate_zero, List.push_toArray, List.append_toArray, List.nil_append, List.cons_append]
  gi_wp2_with (refine ⟨trivial, ?_⟩; gi_at_call 34; refine (backward_in Fence.wide (10 - 1) trivial rfl _ _ _ _).mono ?_; rintro e w' ⟨rfl, rfl⟩)
  obtain ⟨W0, eW⟩ : ∃ W0, (((w.alloc (.map #[] 0)).alloc (.cells #[.map (some w.heap.size)] 80)).alloc (.cells #[.slice none 0 0] 22)) = W0 := ⟨_, rfl⟩
  rw [eW]
  have hz0 : W0.heap.size = w.heap.size + 3 := by rw [← eW]; simp
  have hb0 : Below w.heap.size w W0 := by rw [← eW]; exact (((Below.refl _ _).alloc (Nat.le_refl _) _).alloc (by simp) _).alloc (by simp; omega) _
  have hk0 : KnAt W0 w.heap.size 0 fun _ => none := by rw [← eW]; exact ((KnAt.made w).alloc _).alloc _
  have hm0 : W0.heap[w.heap.size + 1]? = some (.cells #[.map (some w.heap.size)] 80 (0, 0)) := by
    rw [← eW]
    have := heap_alloc2_new w (.map #[] 0) (.cells #[.map (some w.heap.size)] 80)
    exact (Below.heap_alloc _ _ _ (by simp)).trans this
  have hs0 : W0.heap[w.heap.size + 2]? = some (.cells #[.slice none 0 0] 22 (0, 0)) := by
    rw [← eW]
    have := heap_alloc_new ((w.alloc (.map #[] 0)).alloc (.cells #[.map (some w.heap.size)] 80)) (.cells #[.slice none 0 0] 22)
    simpa using this
  clear eW
  refine wpIn_rangeFunc_ownG (α := Empty) (F := Fence.wide) (n := 10) rfl (by omega) (gf := 87) (lb := #[.pointer (some ⟨w.heap.size + 2, 0, none⟩)]) rfl trivial (enters_of Tryz.func87 (by kernel_rfl) rfl)
    (backward_nil Fence.wide (10 - 1) trivial rfl (w.heap.size + 2) W0 (by omega) ((cell_heap hs0 0).trans rfl)) belowK_t (belowK_b (Nat.le_refl _)) (Below.refl _ _) (fun _ => rfl)
    (fun pre W => KnAt W w.heap.size 0 (fun _ => none) ∧ W.heap[w.heap.size + 1]? = some (.cells #[.map (some w.heap.size)] 80 (0, 0)) ∧ Below w.heap.size w W)
    (fun _ _ _ => False)
    (fun s A B row hs hg hr => ⟨hs.1.grown hg (fun e => by have := (hr _ e.symm).1; omega), (hg.block _ (Lg.lt_heap hs.2.1) (fun e => by have := (hr _ e.symm).1; omega)).trans hs.2.1, hs.2.2.grown hg hs.2.2.size (fun r e => by have := (hr r e).1; omega)⟩)
    (fun _ _ _ _ _ hs _ _ => hs)
    ⟨hk0, hm0, hb0⟩
    (fun x => x.elim) ?assign ?body ?done ?stop
  case assign =>
    intro l x
    exact x.elim
  case body =>
    intro l pre x
    exact x.elim
  case stop =>
    rintro D c pre W _ h
    exact h.elim
  case done =>
    rintro D xs W hD rfl ⟨hk, hm, hb⟩ hDW
    have hmf : ∀ (fn : Fn) (first cap : Array Value) (w : World), (Instr.makeFunc fn first cap).run Tryz.prog w = .ok (.func fn first cap) w := fun _ _ _ _ => rfl
    have hsf := fun (fn : Fn) (first cap : Array Value) (a : Addr) (w : World) => run_store Tryz.prog w a (.func fn first cap) .plain rfl
    have hwW := hb.size
    have hkl := hk.lt
    have hml := Lg.lt_heap hm
    have DN : Hid (∀ W2, W2 = (((W.alloc (.cells #[.slice none 0 0] 25)).alloc (.cells #[.int .i64 0] 3)).alloc (.cells #[.func (.func 36) #[] #[.pointer (some ⟨W.heap.size + 1, 0, none⟩), .pointer (some ⟨w.heap.size + 1, 0, none⟩), .pointer (some ⟨W.heap.size + 1 + 1, 0, none⟩), .pointer (some ⟨W.heap.size, 0, none⟩)]] 63)) →
        Calls Tryz.prog 36 #[.string d, .string ⟨#[]⟩, .pointer (some ⟨W.heap.size + 1, 0, none⟩), .pointer (some ⟨w.heap.size + 1, 0, none⟩), .pointer (some ⟨W.heap.size + 1 + 1, 0, none⟩), .pointer (some ⟨W.heap.size, 0, none⟩)] W2 fun e w' => e = .returned (.int .i64 17) ∧ Below W.heap.size W w' ∧ (W.heap.size + 3 ≤ w'.heap.size)) := Lib.hid fun W2 e2 => by
      have hbw : Below W.heap.size W W2 := by rw [e2]; exact (((Below.refl _ _).alloc (Nat.le_refl _) _).alloc (by simp) _).alloc (by simp; omega) _
      have hz2 : W2.heap.size = W.heap.size + 3 := by rw [e2]; simp
      have h1 : W2.heap[W.heap.size + 1]? = some (.cells #[.int .i64 0] 3 (0, 0)) := by
        rw [e2]
        have a1 := heap_alloc2_new W (.cells #[.slice none 0 0] 25) (.cells #[.int .i64 0] 3)
        exact (Below.heap_alloc _ _ _ (by simp)).trans a1
      have h2 : W2.heap[w.heap.size + 1]? = some (.cells #[.map (some w.heap.size)] 80 (0, 0)) := (hbw.block _ hml).trans hm
      refine (down_none d ⟨#[]⟩ hd (W.heap.size + 1) (w.heap.size + 1) (W.heap.size + 1 + 1) W.heap.size w.heap.size 0 W2 h1 h2 (by omega) (hk.later hbw)).mono ?_
      rintro e w' ⟨rfl, rfl⟩
      exact ⟨rfl, hbw.setCell (by show W.heap.size ≤ W.heap.size + 1; omega) _, by simp; omega⟩
    gi_wp2_with (refine ⟨trivial, ?_⟩; gi_at_call 36; refine (callsIn_wide.2 (DN.out _ rfl)).mono ?_; rintro e w3 ⟨rfl, hb3, hz3⟩)
    have hK3 : w3.heap[D]? = some (.deferred (some [])) := (hb3.block D (Lg.lt_heap hDW)).trans hDW
    refine ⟨by simp, .inl ⟨_, _, rfl, run_takeDeferred hK3, ?_⟩⟩
    refine ⟨_, results_tmp2 rfl _ _ _, ?_, ?_⟩
    · rfl
    · exact (hb.trans (hb3.mono hwW)).grown (grownBy_putObj' w3 D (.deferred none)) (by have := hb3.size; omega) (fun r e => by cases e; omega)
end Go.Proofs.YtlndnpfjneeeeaaGreatDoor.Fs
namespace Go.Proofs.YtlndnpfjneeeeaaGreatDoor.Fs
open Go.RowKit
set_option linter.unusedVariables false
set_option maxRecDepth 100000
def exF : List Fl := [⟨⟨#[97, 47, 98]⟩, ⟨#[]⟩⟩, ⟨⟨#[99]⟩, ⟨#[]⟩⟩]
theorem ex_names : names exF = [[97], [99]] := by
  exact (names_eq exF).trans rfl
theorem ex_get1 : get exF [97] = none := by decide
theorem ex_get2 : get exF [99] = some ⟨#[]⟩ := by rfl
theorem ex_dir : dir exF = [⟨[97], true, digest (under exF [97])⟩, ⟨[99], false, Blk.sum []⟩] := by
  rw [dir_map, ex_names]
  show [entry exF [97], entry exF [99]] = _
  rw [entry_dir ex_get1, entry_file ex_get2]
def exD : B := List.replicate 32 0
theorem ex_enc : encode [⟨[97], false, exD⟩, ⟨[97], false, exD⟩] = ([], 11) := by
  refine encode_no (right_bad (i := 1) (by simp) ?_)
  intro h
  have := h.2.2.2 (by omega)
  exact absurd this (by decide)
theorem exD_conv (w : World) : (convert 71 9 (.slice (some ⟨w.heap.size, 0, none⟩) 32 32)).run Tryz.prog (w.alloc (.cells (zc 32) 5)) = .ok (.string (bs exD)) (w.alloc (.cells (zc 32) 5)) :=
  conv_own (B := 0) (n := 32) (l := exD) Tryz.underlying71 Tryz.underlying5 Tryz.underlying9
    ⟨rfl, .inr ⟨w.heap.size, 32, zc 32, rfl, Nat.zero_le _, heap_alloc_new w _, Nat.le_refl _, by unfold maxLen; decide, rfl, rfl⟩⟩
set_option maxHeartbeats 2000000 in
theorem awake_any (w : World) (hE : Env w) : Calls Tryz.prog 7 #[] w fun e w' => e = .returned (.bool true) ∧ Below w.heap.size w w' := by
  have EV := Lib.hid (fun W (h : Below w.heap.size w W) => hE.below h)
  have MK : ∀ W : World, (Instr.makeSlice 71 (.int .i64 32) (.int .i64 32)).run Tryz.prog W = .ok (.slice (some ⟨W.heap.size, 0, none⟩) 32 32) (W.alloc (.cells (zc 32) 5)) := make_zc 32 (by omega)
  have CV := exD_conv
  have ZC : Hid (Below w.heap.size w (w.alloc (.cells (zc 32) 5))) := Lib.hid ((Below.refl _ _).alloc (Nat.le_refl _) _)
  have DI : Hid (∀ W b, b = W.heap.size → Below w.heap.size w W → Calls Tryz.prog 32 #[.slice (some ⟨b, 0, none⟩) 2 2, .string ⟨#[]⟩] (W.alloc (.cells #[.string ⟨#[97, 47, 98]⟩, .string ⟨#[]⟩, .string ⟨#[99]⟩, .string ⟨#[]⟩] 75)) fun e w' => (∃ g c, e = .returned (.slice (some g) 2 c) ∧ w'.cell? g = some (.string ⟨#[97]⟩) ∧ w'.cell? ⟨g.block, g.off + 1, none⟩ = some (.bool true) ∧ w'.cell? (g.add 3) = some (.string ⟨#[99]⟩) ∧ w'.cell? ⟨(g.add 3).block, (g.add 3).off + 1, none⟩ = some (.bool false) ∧ g.block < w'.heap.size) ∧ Below w.heap.size w w') := Lib.hid fun W b eb hW => by
    subst eb
    have hb1 : Below w.heap.size w (W.alloc (.cells #[.string ⟨#[97, 47, 98]⟩, .string ⟨#[]⟩, .string ⟨#[99]⟩, .string ⟨#[]⟩] 75)) := hW.alloc hW.size _
    have hr : Fls (W.alloc (.cells #[.string ⟨#[97, 47, 98]⟩, .string ⟨#[]⟩, .string ⟨#[99]⟩, .string ⟨#[]⟩] 75)) (some ⟨W.heap.size, 0, none⟩) exF :=
      ⟨rfl, fun _ => ⟨_, rfl, by simp, fun j u hu => by
        rw [Lg.add_eq, Lg.cell_at (heap_alloc_new W _)]
        simpa [exF, fc] using hu⟩⟩
    refine (pdir_any (some ⟨W.heap.size, 0, none⟩) exF 2 [] (by simp) _ (EV.out _ hb1) hr ⟨by decide, by decide⟩).mono ?_
    rintro e w' ⟨⟨A, c, rfl, hr'⟩, hb'⟩
    rw [at_nil, ex_dir] at hr'
    obtain ⟨g, rfl, hg, c0, c1, c2⟩ := Ens.at_ (l := [⟨[97], true, digest (under exF [97])⟩, ⟨[99], false, Blk.sum []⟩]) hr' (k := 0) (by simp)
    obtain ⟨g', e', hg', d0, d1, d2⟩ := Ens.at_ (l := [⟨[97], true, digest (under exF [97])⟩, ⟨[99], false, Blk.sum []⟩]) hr' (k := 1) (by simp)
    obtain rfl := Option.some.inj e'
    have z : g.add (0 * 3) = g := by unfold Addr.add; simp
    rw [z] at c0 c1
    refine ⟨⟨g, c, ?_, c0, c1, d0, d1, hg⟩, hb1.trans (hb'.mono hb1.size)⟩
    rw [at_nil, ex_dir]; rfl
  have EC : Hid (∀ W, Below w.heap.size w W → Calls Tryz.prog 33 #[.slice (some ⟨W.heap.size, 0, none⟩) 2 2] (W.alloc (.cells #[.string ⟨#[97]⟩, .bool false, .string (bs exD), .string ⟨#[97]⟩, .bool false, .string (bs exD)] 79)) fun e w' => e = .returned (.tuple #[.string ⟨#[]⟩, .int .i64 11]) ∧ Below W.heap.size W w') := Lib.hid fun W hW => by
    have hb1 : Below w.heap.size w (W.alloc (.cells #[.string ⟨#[97]⟩, .bool false, .string (bs exD), .string ⟨#[97]⟩, .bool false, .string (bs exD)] 79)) := hW.alloc hW.size _
    have hb2 : Below W.heap.size W (W.alloc (.cells #[.string ⟨#[97]⟩, .bool false, .string (bs exD), .string ⟨#[97]⟩, .bool false, .string (bs exD)] 79)) := (Below.refl _ _).alloc (Nat.le_refl _) _
    have hr : Ens (W.alloc (.cells #[.string ⟨#[97]⟩, .bool false, .string (bs exD), .string ⟨#[97]⟩, .bool false, .string (bs exD)] 79)) (some ⟨W.heap.size, 0, none⟩) [⟨[97], false, exD⟩, ⟨[97], false, exD⟩] :=
      ⟨rfl, fun _ => ⟨_, rfl, by simp, fun j u hu => by
        rw [Lg.add_eq, Lg.cell_at (heap_alloc_new W _)]
        simpa [ec, ec1, show bs [97] = ⟨#[97]⟩ from rfl] using hu⟩⟩
    refine (pencode_any (some ⟨W.heap.size, 0, none⟩) [⟨[97], false, exD⟩, ⟨[97], false, exD⟩] 2 _ (EV.out _ hb1) hr (by
      have := bytesE_le (l := [⟨[97], false, exD⟩, ⟨[97], false, exD⟩]) (by intro x hx; simp at hx; subst hx; exact ⟨by simp, by simp [exD]⟩)
      simp at this; omega)).mono ?_
    rintro e w' ⟨rfl, hb'⟩
    rw [ex_enc]
    exact ⟨rfl, hb2.trans (hb'.mono hb2.size)⟩
  have FI : Hid (∀ W, Calls Tryz.prog 8 #[.string (bs exD), .slice none 0 0] W fun e w' => e = .returned (.tuple #[.slice none 0 0, .int .i64 17]) ∧ Below W.heap.size W w') := Lib.hid fun W => pfiles_none (bs exD) (by rw [bs_len]; simp [exD]) W
  clear hE EV
  go_enter Tryz.func7, Tryz.ntmps7
  go_wp2_with (first
    | (go_at_call 32; (with_reducible refine (DI.out _ _ (by simp) ZC.out).mono ?_); rintro e w1 ⟨⟨g, c, rfl, c0, c1, d0, d1, hg⟩, hb1⟩)
    | (go_at_call 33; (with_reducible refine (EC.out _ hb1).mono ?_); rintro e w2 ⟨rfl, hb2⟩)
    | (go_at_call 8; (with_reducible refine (FI.out _).mono ?_); rintro e w3 ⟨rfl, hb3⟩; have h23 := hb2.trans (hb3.mono hb2.size); have e0 := (h23.cell (p := g) hg).trans c0; have e1 := (h23.cell (p := ⟨g.block, g.off + 1, none⟩) hg).trans c1; have e2 : w3.cell? ⟨g.block, g.off + 3, none⟩ = some (.string ⟨#[99]⟩) := (h23.cell (p := ⟨g.block, g.off + 3, none⟩) hg).trans d0; have e3 : w3.cell? ⟨g.block, g.off + 3 + 1, none⟩ = some (.bool false) := (h23.cell (p := ⟨g.block, g.off + 3 + 1, none⟩) hg).trans d1; have e4 : w3.cell? ⟨g.block, g.off + 4, none⟩ = some (.bool false) := e3; clear c0 c1 d0 d1))
  go_ret
  exact ⟨rfl, hb1.trans (h23.mono hb1.size)⟩
end Go.Proofs.YtlndnpfjneeeeaaGreatDoor.Fs
/- FsBack, what a claim needs of it (prune.py). -/
namespace Go.Proofs.YtlndnpfjneeeeaaGreatDoor.Fs
open Go.RowKit Go.Maps Go.Shelf
set_option linter.unusedVariables false
set_option maxRecDepth 100000
abbrev Sm := { s : ByteArray // s.size ≤ 1000000 }
theorem getD_size {ss : List ByteArray} (hz : ∀ s ∈ ss, s.size ≤ 1000000) (i : Nat) : (ss.getD i ⟨#[]⟩).size ≤ 1000000 := by
  rw [List.getD_eq_getElem?_getD]
  cases h : ss[i]? with
  | none => exact Nat.zero_le _
  | some s => exact hz s (List.mem_of_getElem? h)
def backAt (ss : List ByteArray) (hz : ∀ s ∈ ss, s.size ≤ 1000000) (q : Nat) : Nat × Sm := (q, ⟨ss.getD q ⟨#[]⟩, getD_size hz q⟩)
def backTo (ss : List ByteArray) (hz : ∀ s ∈ ss, s.size ≤ 1000000) (k : Nat) : List (Nat × Sm) := (List.range k).map fun j => backAt ss hz (ss.length - 1 - j)
theorem backTo_succ (ss : List ByteArray) (hz : ∀ s ∈ ss, s.size ≤ 1000000) {k q : Nat} (h : ss.length - 1 - k = q) : backTo ss hz (k + 1) = backTo ss hz k ++ [backAt ss hz q] := by simp [backTo, List.range_succ, h]
theorem backTo_len (ss : List ByteArray) (hz : ∀ s ∈ ss, s.size ≤ 1000000) (k : Nat) : (backTo ss hz k).length = k := by simp [backTo]
structure KpM (n₀ m : Nat) (W W' : World) : Prop where
  size : W.heap.size ≤ W'.heap.size
  block : ∀ b, b < n₀ → b ≠ m → W'.heap[b]? = W.heap[b]?
theorem KpM.refl (n₀ m : Nat) (W : World) : KpM n₀ m W W := ⟨Nat.le_refl _, fun _ _ _ => rfl⟩
theorem KpM.trans {n₀ m : Nat} {A B C : World} (h : KpM n₀ m A B) (k : KpM n₀ m B C) : KpM n₀ m A C := ⟨Nat.le_trans h.size k.size, fun b h1 h2 => (k.block b h1 h2).trans (h.block b h1 h2)⟩
theorem KpM.cell {n₀ m : Nat} {W W' : World} (h : KpM n₀ m W W') {p : Addr} (h1 : p.block < n₀) (h2 : p.block ≠ m) : W'.cell? p = W.cell? p := World.cell?_of_block (h.block _ h1 h2)
theorem KpM.put {n₀ m : Nat} {w : World} (hn : n₀ ≤ w.heap.size) (W : World) (l : Nat) (o o' : Obj) (hl : w.heap.size ≤ l) (h : W.heap[l]? = some o) (_ : o.isCells = false) (_ : o.isWalk = false) : KpM n₀ m W (W.putObj l o') := by
  have hg := grownBy_putObj' W l o'
  exact ⟨hg.size, fun b h1 h2 => hg.block b (by have := (Array.getElem?_eq_some_iff.1 h).1; omega) (fun e => by injection e with e; omega)⟩
set_option maxHeartbeats 2000000 in
theorem back1_in (F : Fence) (n : Nat) (hF : F.fn 87) (hro : F.round = none) (hn : 1 ≤ n) (l Bs n₀ cap : Nat) (ad : Addr) (ss : List ByteArray) (hz : ∀ s ∈ ss, s.size ≤ 1000000) (hl : ss.length ≤ 1000000000) (hg : ad.block < n₀) (hBn : Bs < n₀) (mm : Nat) (hgm : ad.block ≠ mm) (hBm : Bs ≠ mm) (J Jx : List (Nat × Sm) → World → Prop)
    (hY : ∀ pre x W, J pre W → pre.length < ss.length → YieldAt F (n - 1) Tryz.prog l #[.int .i64 (x.1 : Int), .string x.2.1] W fun e W' =>
      (e = .returned (.bool true) ∧ J (pre ++ [x]) W' ∧ KpM n₀ mm W W') ∨ (e = .returned (.bool false) ∧ Jx (pre ++ [x]) W'))
    (W : World) (hBs : W.cell? ⟨Bs, 0, none⟩ = some (.slice (some ad) ss.length cap)) (hc : ∀ j, j < ss.length → W.cell? (ad.add j) = some (.string (ss.getD j ⟨#[]⟩))) (h0 : J [] W) :
    CallsIn F n Tryz.prog 87 #[.func (.yield l) #[] #[], .pointer (some ⟨Bs, 0, none⟩)] W fun e W' => (∃ v, e = .returned v) ∧
      ((∃ ys, ys = backTo ss hz ss.length ∧ J ys W') ∨ (∃ pre, (∃ k, k ≤ ss.length ∧ pre = backTo ss hz k) ∧ Jx pre W')) := by
  have v0 : IntKind.i64.wrap ((ss.length : Int) - 1) = (ss.length : Int) - 1 := IntWalk.i64_in _ (by omega)
  refine callsIn_of_wp Tryz.func87 rfl hF ?_ hro
  simp only [Tryz.ntmps87, List.size_toArray, List.length_cons, List.length_nil, Nat.reduceAdd, Nat.reduceSub, Array.replicate_succ, Array.replicate_zero, List.push_toArray, List.append_toArray, List.nil_append, List.cons_append]
  gi_wp2
  gi_loopw [3] (fun i wr => ∃ (k : Nat) (z : Int), i = .int .i64 z ∧ k ≤ ss.length ∧ z = (ss.length : Int) - 1 - k ∧ J (backTo ss hz k) wr ∧ KpM n₀ mm W wr)
    (fun i _ => (intOf i + 1).toNat)
  case atStart => exact ⟨0, _, rfl, Nat.zero_le _, by omega, h0, KpM.refl _ _ _⟩
  case round =>
    obtain ⟨k, z, rfl, hk, ez, hJs, hnx⟩ := hrel
    by_cases hlt : k < ss.length
    · obtain ⟨q, eq⟩ : ∃ q, q = ss.length - 1 - k := ⟨_, rfl⟩
      obtain rfl : z = (q : Int) := by omega
      have hql : q < ss.length := by omega
      have hqI : (q : Int) < (ss.length : Int) := by omega
      have hcx : wr.cell? (ad.add q) = some (.string (ss.getD q ⟨#[]⟩)) := (hnx.cell (p := ad.add q) (by rw [block_of_add]; exact hg) (by rw [block_of_add]; exact hgm)).trans (hc q hql)
      have hbx : wr.cell? ⟨Bs, 0, none⟩ = some (.slice (some ad) ss.length cap) := (hnx.cell (p := ⟨Bs, 0, none⟩) hBn hBm).trans hBs
      obtain ⟨fn, tmps, assign, body, hy, hR⟩ := hY _ (backAt ss hz q) wr hJs (by rw [backTo_len]; exact hlt)
      dsimp only [backAt] at hy
      have v1 : IntKind.i64.wrap ((q : Int) - 1) = (q : Int) - 1 := IntWalk.i64_in _ (by omega)
      have NX := Lib.hid (backTo_succ ss hz eq.symm)
      have EZ := Lib.hid ez
      clear eq ez
      generalize ss.getD q ⟨#[]⟩ = sq at *
      gi_wp2
      refine hR.mono ?_
      rintro e W3 (⟨rfl, hJ3, hk3⟩ | ⟨rfl, hJx3⟩)
      · gi_wp2
        go_roundw
        case rel => exact ⟨k + 1, _, rfl, by omega, by have := EZ.out; omega, by rw [NX.out]; exact hJ3, hnx.trans hk3⟩
        case measure => first | (simp [intOf]; done) | (simp [intOf]; omega)
      · gi_wp2
        refine bodyPost_ret (results_none rfl _ _ _) rfl ?_
        exact ⟨⟨_, rfl⟩, .inr ⟨_, ⟨k + 1, by omega, rfl⟩, by rw [NX.out]; exact hJx3⟩⟩
    · obtain rfl : k = ss.length := by omega
      obtain rfl : z = -1 := by omega
      gi_wp2
      go_end0
      exact ⟨⟨_, rfl⟩, .inl ⟨_, rfl, hJs⟩⟩
theorem back_stops (F : Fence) (n : Nat) (hF : F.fn 87) (hro : F.round = none) (hn : 1 ≤ n) (Bs c : Nat) (A : Option Addr) (ss : List ByteArray) (hz : ∀ s ∈ ss, s.size ≤ 1000000) (hl : ss.length ≤ 1000000000) (w : World) (hBs : Bs < w.heap.size) (hc : w.cell? ⟨Bs, 0, none⟩ = some (.slice A ss.length c)) (hs : Strs w w.heap.size A ss) (mm : Nat) (hfar : 0 < ss.length → ∀ ad, A = some ad → ad.block ≠ mm) (hBm : Bs ≠ mm) :
    SeqStopsK F n Tryz.prog 87 #[.pointer (some ⟨Bs, 0, none⟩)] (fun x : Nat × Sm => #[Value.int .i64 (x.1 : Int), Value.string x.2.1]) (KpM w.heap.size mm) (fun ys => ys = backTo ss hz ss.length) (fun pre => ∃ k, k ≤ ss.length ∧ pre = backTo ss hz k) ss.length w := fun l J Jx W hW _ _ hY h0 => by
  have hc' := (hW.cell (p := ⟨Bs, 0, none⟩) hBs).trans hc
  by_cases h : 0 < ss.length
  · obtain ⟨ad, rfl, hb, hcs⟩ := hs.2 h
    have hcj : ∀ j, j < ss.length → W.cell? (ad.add j) = some (.string (ss.getD j ⟨#[]⟩)) := fun j hj => (hW.cell (by rw [block_of_add]; exact hb)).trans (hcs j _ (by
      rw [List.getElem?_map, List.getElem?_eq_getElem hj, List.getD_eq_getElem?_getD, List.getElem?_eq_getElem hj]; rfl))
    exact back1_in F n hF hro hn l Bs w.heap.size c ad ss hz hl hb hBs mm (hfar h ad rfl) hBm J Jx hY W hc' hcj h0
  · obtain rfl : ss = [] := List.eq_nil_of_length_eq_zero (by omega)
    refine callsIn_of_wp Tryz.func87 rfl hF ?_ hro
    simp only [Tryz.ntmps87, List.size_toArray, List.length_cons, List.length_nil, Nat.reduceAdd, Nat.reduceSub, Array.replicate_succ, Array.replicate_zero, List.push_toArray, List.append_toArray, List.nil_append, List.cons_append]
    have hc0 : W.cell? ⟨Bs, 0, none⟩ = some (.slice A 0 c) := hc'
    clear hY hs hc hc'
    gi_wp2
    gi_loopw [3] (fun i wr => i = .int .i64 (-1) ∧ J [] wr) (fun _ _ => 0)
    case atStart => exact ⟨rfl, h0⟩
    case round =>
      obtain ⟨rfl, hJs⟩ := hrel
      gi_wp2
      go_end0
      exact ⟨⟨_, rfl⟩, .inl ⟨_, rfl, hJs⟩⟩
end Go.Proofs.YtlndnpfjneeeeaaGreatDoor.Fs
/- FsWalk, what a claim needs of it (prune.py). -/
namespace Go.Proofs.YtlndnpfjneeeeaaGreatDoor.Fs
set_option linter.unusedVariables false
set_option maxRecDepth 100000
def findB (bl : List ByteArray) (d : B) : Option ByteArray := bl.find? fun s => decide (Blk.sum (tl s) = d)
structure Wk where
  dirs : Nat
  out : List Fl
def eachE (bl : List ByteArray) (rec : B → B → Wk → Int × Wk) (ahead : B) : List En → Wk → Int × Wk
  | [], s => (0, s)
  | x :: l, s =>
    if x.dir = true then
      if (rec x.g (ahead ++ x.n ++ [47]) s).1 = 0 then eachE bl rec ahead l (rec x.g (ahead ++ x.n ++ [47]) s).2 else rec x.g (ahead ++ x.n ++ [47]) s
    else match findB bl x.g with
      | none => (17, s)
      | some d => if 32 ≤ s.out.length then (15, s) else eachE bl rec ahead l ⟨s.dirs, s.out ++ [⟨bs (ahead ++ x.n), d⟩]⟩
noncomputable def goF (bl : List ByteArray) : Nat → B → B → Wk → Int × Wk
  | 0, _, _, s => (15, ⟨s.dirs + 1, s.out⟩)
  | f + 1, root, ahead, s =>
    if 1000 < s.dirs + 1 then (15, ⟨s.dirs + 1, s.out⟩) else
    match findB bl root with
    | none => (17, ⟨s.dirs + 1, s.out⟩)
    | some d => if (decode (tl d)).2 = 0 then eachE bl (goF bl f) ahead (decode (tl d)).1 ⟨s.dirs + 1, s.out⟩ else ((decode (tl d)).2, ⟨s.dirs + 1, s.out⟩)
structure Keeps (s : Wk) (r : Int × Wk) : Prop where
  dirs : s.dirs ≤ r.2.dirs
  most : r.1 = 0 → r.2.dirs ≤ 1000
  out : r.2.out.length ≤ 32
theorem out_more {s : Wk} {ahead : B} {x : En} {d : ByteArray} (h : ∀ f ∈ s.out, f.p.size ≤ 49 * 1001) (ha : ahead.length + x.n.length ≤ 49 * 1001) : ∀ f ∈ s.out ++ [⟨bs (ahead ++ x.n), d⟩], f.p.size ≤ 49 * 1001 := fun f hf => by
  rcases List.mem_append.1 hf with hf | hf
  · exact h f hf
  · obtain rfl := List.mem_singleton.1 hf
    show (bs (ahead ++ x.n)).size ≤ _
    rw [bs_len, List.length_append]
    exact ha
theorem each_keeps {bl : List ByteArray} {rec : B → B → Wk → Int × Wk} {ahead : B} {d0 : Nat} (ha : ahead.length ≤ 49 * d0) (hrec : ∀ g a s, d0 < s.dirs → s.dirs ≤ 1000 → s.out.length ≤ 32 → (∀ f ∈ s.out, f.p.size ≤ 49 * 1001) → a.length ≤ 49 * s.dirs → Keeps s (rec g a s) ∧ ∀ f ∈ (rec g a s).2.out, f.p.size ≤ 49 * 1001) :
    ∀ (l : List En) (s : Wk), (∀ x ∈ l, x.n.length ≤ 48) → d0 < s.dirs → s.dirs ≤ 1000 → s.out.length ≤ 32 → (∀ f ∈ s.out, f.p.size ≤ 49 * 1001) → Keeps s (eachE bl rec ahead l s) ∧ ∀ f ∈ (eachE bl rec ahead l s).2.out, f.p.size ≤ 49 * 1001
  | [], s, _, h1, h2, h3, h4 => ⟨⟨Nat.le_refl _, fun _ => h2, h3⟩, h4⟩
  | x :: l, s, hl, h1, h2, h3, h4 => by
    have hx := hl x (by simp)
    have hl' := fun y hy => hl y (List.mem_cons_of_mem _ hy)
    rw [eachE]
    by_cases hd : x.dir = true
    · rw [if_pos hd]
      obtain ⟨k, k4⟩ := hrec x.g (ahead ++ x.n ++ [47]) s h1 h2 h3 h4 (by simp only [List.length_append, List.length_singleton]; omega)
      by_cases h0 : (rec x.g (ahead ++ x.n ++ [47]) s).1 = 0
      · rw [if_pos h0]
        obtain ⟨m, m4⟩ := each_keeps ha hrec l _ hl' (by have := k.dirs; omega) (k.most h0) k.out k4
        exact ⟨⟨Nat.le_trans k.dirs m.dirs, m.most, m.out⟩, m4⟩
      · rw [if_neg h0]
        exact ⟨k, k4⟩
    · rw [if_neg hd]
      cases hf : findB bl x.g with
      | none => exact ⟨⟨Nat.le_refl _, fun h => absurd (show (17 : Int) = 0 from h) (by decide), h3⟩, h4⟩
      | some d =>
        simp only
        by_cases h32 : 32 ≤ s.out.length
        · rw [if_pos h32]
          exact ⟨⟨Nat.le_refl _, fun h => absurd (show (15 : Int) = 0 from h) (by decide), h3⟩, h4⟩
        · rw [if_neg h32]
          obtain ⟨m, m4⟩ := each_keeps ha hrec l ⟨s.dirs, s.out ++ [⟨bs (ahead ++ x.n), d⟩]⟩ hl' h1 h2 (by simp; omega) (out_more h4 (by omega))
          exact ⟨⟨m.dirs, m.most, m.out⟩, m4⟩
theorem right_n {l : List En} (h : Right l) : ∀ x ∈ l, x.n.length ≤ 48 := fun x hx => by
  obtain ⟨i, hi, rfl⟩ := List.mem_iff_getElem.1 hx
  have := (h i hi).1
  unfold Lg.pathOk at this
  simp only [Bool.and_eq_true, decide_eq_true_eq] at this
  exact this.1.2
theorem go_keeps (bl : List ByteArray) : ∀ (f : Nat) (root ahead : B) (s : Wk), s.dirs ≤ 1000 → s.out.length ≤ 32 → (∀ f ∈ s.out, f.p.size ≤ 49 * 1001) → ahead.length ≤ 49 * s.dirs → Keeps s (goF bl f root ahead s) ∧ ∀ x ∈ (goF bl f root ahead s).2.out, x.p.size ≤ 49 * 1001
  | 0, _, _, s, h1, h2, h3, _ => ⟨⟨Nat.le_succ _, fun h => absurd (show (15 : Int) = 0 from h) (by decide), h2⟩, h3⟩
  | f + 1, root, ahead, s, h1, h2, h3, h4 => by
    rw [goF]
    by_cases hd : 1000 < s.dirs + 1
    · rw [if_pos hd]
      exact ⟨⟨Nat.le_succ _, fun h => absurd (show (15 : Int) = 0 from h) (by decide), h2⟩, h3⟩
    · rw [if_neg hd]
      cases hf : findB bl root with
      | none => exact ⟨⟨Nat.le_succ _, fun h => absurd (show (17 : Int) = 0 from h) (by decide), h2⟩, h3⟩
      | some d =>
        simp only
        by_cases he : (decode (tl d)).2 = 0
        · rw [if_pos he]
          obtain ⟨m, m4⟩ := each_keeps (bl := bl) (rec := goF bl f) h4 (fun g a s' k1 k2 k3 k4 k5 => go_keeps bl f g a s' k2 k3 k4 k5) (decode (tl d)).1 ⟨s.dirs + 1, s.out⟩ (right_n (decode_right he)) (Nat.lt_succ_self _) (by show s.dirs + 1 ≤ 1000; omega) h2 h3
          exact ⟨⟨Nat.le_trans (Nat.le_succ _) m.dirs, m.most, m.out⟩, m4⟩
        · rw [if_neg he]
          exact ⟨⟨Nat.le_succ _, fun h => absurd h he, h2⟩, h3⟩
end Go.Proofs.YtlndnpfjneeeeaaGreatDoor.Fs
/- FsFilesP, what a claim needs of it (prune.py). -/
namespace Go.Proofs.YtlndnpfjneeeeaaGreatDoor.Fs
set_option linter.unusedVariables false
set_option maxRecDepth 100000
theorem head_of_free {n r : B} (h : (47 : UInt8) ∉ n) : head (n ++ 47 :: r) = n := by
  unfold head
  induction n with
  | nil => simp
  | cons c n ih =>
    have h1 : c ≠ 47 := fun e => h (by simp [e])
    simp only [List.cons_append, List.takeWhile_cons, ne_eq, h1, not_false_eq_true, decide_true, if_true]
    rw [ih (fun h2 => h (List.mem_cons_of_mem _ h2))]
theorem head_all {n : B} (h : (47 : UInt8) ∉ n) : head n = n := by
  unfold head
  induction n with
  | nil => rfl
  | cons c n ih =>
    have h1 : c ≠ 47 := fun e => h (by simp [e])
    rw [List.takeWhile_cons, if_pos (decide_eq_true h1), ih (fun h2 => h (List.mem_cons_of_mem _ h2))]
def Apart (l : List Fl) : Prop := l.Pairwise fun f g => tl f.p ≠ tl g.p
def Adds (Q : Fl → Prop) (s r : Wk) : Prop := ∃ new, r.out = s.out ++ new ∧ (∀ f ∈ new, Q f) ∧ Apart new
theorem Adds.none (Q : Fl → Prop) (s : Wk) (d : Nat) : Adds Q s ⟨d, s.out⟩ := ⟨[], by simp, by simp, List.Pairwise.nil⟩
theorem Adds.trans {Q1 Q2 Q : Fl → Prop} {s r t : Wk} (h1 : Adds Q1 s r) (h2 : Adds Q2 r t) (k1 : ∀ f, Q1 f → Q f) (k2 : ∀ f, Q2 f → Q f) (h : ∀ f g, Q1 f → Q2 g → tl f.p ≠ tl g.p) : Adds Q s t := by
  obtain ⟨a, ea, qa, pa⟩ := h1
  obtain ⟨b, eb, qb, pb⟩ := h2
  refine ⟨a ++ b, by rw [eb, ea, List.append_assoc], fun f hf => ?_, List.pairwise_append.2 ⟨pa, pb, fun f hf g hg => h f g (qa f hf) (qb g hg)⟩⟩
  rcases List.mem_append.1 hf with hf | hf
  · exact k1 f (qa f hf)
  · exact k2 f (qb f hf)
def OfE (ahead n : B) (f : Fl) : Prop := ahead <+: tl f.p ∧ head ((tl f.p).drop ahead.length) = n
theorem ofE_file {ahead n : B} {d : ByteArray} (h : (47 : UInt8) ∉ n) : OfE ahead n ⟨bs (ahead ++ n), d⟩ := by
  refine ⟨⟨n, rfl⟩, ?_⟩
  show head ((ahead ++ n).drop ahead.length) = n
  rw [List.drop_left]
  exact head_all h
theorem ofE_dir {ahead n : B} {f : Fl} (h : (47 : UInt8) ∉ n) (hp : (ahead ++ n ++ [47]) <+: tl f.p) : OfE ahead n f := by
  obtain ⟨r, hr⟩ := hp
  refine ⟨⟨n ++ 47 :: r, by rw [← hr]; simp⟩, ?_⟩
  rw [← hr, show ahead ++ n ++ [47] ++ r = ahead ++ (n ++ 47 :: r) by simp, List.drop_left]
  exact head_of_free h
theorem each_adds {bl : List ByteArray} {rec : B → B → Wk → Int × Wk} {ahead : B} (hrec : ∀ g a s, Adds (fun f => a <+: tl f.p) s (rec g a s).2) :
    ∀ (l : List En) (s : Wk), (∀ x ∈ l, (47 : UInt8) ∉ x.n) → l.Pairwise (fun x y => x.n ≠ y.n) → Adds (fun f => ∃ x ∈ l, OfE ahead x.n f) s (eachE bl rec ahead l s).2
  | [], s, _, _ => Adds.none _ _ _
  | x :: l, s, hl, hp => by
    have hx := hl x (by simp)
    have hp' := List.pairwise_cons.1 hp
    have far : ∀ f g, OfE ahead x.n f → (∃ y ∈ l, OfE ahead y.n g) → tl f.p ≠ tl g.p := fun f g hf ⟨y, hy, hg⟩ e => hp'.1 y hy (by rw [← hf.2, ← hg.2, e])
    have ih := fun s => each_adds (bl := bl) (ahead := ahead) hrec l s (fun y hy => hl y (List.mem_cons_of_mem _ hy)) hp'.2
    have in1 : ∀ f, OfE ahead x.n f → ∃ y ∈ x :: l, OfE ahead y.n f := fun f h => ⟨x, by simp, h⟩
    have in2 : ∀ f, (∃ y ∈ l, OfE ahead y.n f) → ∃ y ∈ x :: l, OfE ahead y.n f := fun f ⟨y, hy, h⟩ => ⟨y, List.mem_cons_of_mem _ hy, h⟩
    rw [eachE]
    by_cases hd : x.dir = true
    · rw [if_pos hd]
      have h1 : Adds (OfE ahead x.n) s (rec x.g (ahead ++ x.n ++ [47]) s).2 := by
        obtain ⟨a, ea, qa, pa⟩ := hrec x.g (ahead ++ x.n ++ [47]) s
        exact ⟨a, ea, fun f hf => ofE_dir hx (qa f hf), pa⟩
      by_cases h0 : (rec x.g (ahead ++ x.n ++ [47]) s).1 = 0
      · rw [if_pos h0]
        exact h1.trans (ih _) in1 in2 far
      · rw [if_neg h0]
        obtain ⟨a, ea, qa, pa⟩ := h1
        exact ⟨a, ea, fun f hf => in1 f (qa f hf), pa⟩
    · rw [if_neg hd]
      cases hf : findB bl x.g with
      | none => exact Adds.none _ _ _
      | some d =>
        simp only
        by_cases h32 : 32 ≤ s.out.length
        · rw [if_pos h32]; exact Adds.none _ _ _
        · rw [if_neg h32]
          have h1 : Adds (OfE ahead x.n) s ⟨s.dirs, s.out ++ [⟨bs (ahead ++ x.n), d⟩]⟩ := ⟨[⟨bs (ahead ++ x.n), d⟩], rfl, fun f hf => by
            obtain rfl := List.mem_singleton.1 hf
            exact ofE_file hx, by simp [Apart]⟩
          exact h1.trans (ih _) in1 in2 far
theorem right_apart {l : List En} (h : Right l) : (∀ x ∈ l, (47 : UInt8) ∉ x.n) ∧ l.Pairwise (fun x y => x.n ≠ y.n) := by
  refine ⟨fun x hx => ?_, ?_⟩
  · obtain ⟨i, hi, rfl⟩ := List.mem_iff_getElem.1 hx
    exact (h i hi).2.1
  · have key : ∀ i j (hi : i < l.length) (hj : j < l.length), i < j → l[i].n < l[j].n := by
      intro i j hi hj hij
      obtain ⟨k, rfl⟩ : ∃ k, j = i + 1 + k := ⟨j - i - 1, by omega⟩
      clear hij
      induction k with
      | zero => exact (h (i + 1) hj).2.2.2 (by omega)
      | succ k ih => exact lt_tr (ih (by omega)) ((h (i + 1 + (k + 1)) hj).2.2.2 (by omega))
    rw [List.pairwise_iff_getElem]
    intro i j hi hj hij e
    have := key i j hi hj hij
    rw [e] at this
    exact List.lt_irrefl _ this
theorem go_adds (bl : List ByteArray) : ∀ (f : Nat) (root ahead : B) (s : Wk), Adds (fun x => ahead <+: tl x.p) s (goF bl f root ahead s).2
  | 0, _, _, s => Adds.none _ _ _
  | f + 1, root, ahead, s => by
    rw [goF]
    by_cases hd : 1000 < s.dirs + 1
    · rw [if_pos hd]; exact Adds.none _ _ _
    · rw [if_neg hd]
      cases hf : findB bl root with
      | none => exact Adds.none _ _ _
      | some d =>
        simp only
        by_cases he : (decode (tl d)).2 = 0
        · rw [if_pos he]
          obtain ⟨r1, r2⟩ := right_apart (decode_right he)
          obtain ⟨a, ea, qa, pa⟩ := each_adds (bl := bl) (rec := goF bl f) (ahead := ahead) (fun g a s' => go_adds bl f g a s') (decode (tl d)).1 ⟨s.dirs + 1, s.out⟩ r1 r2
          exact ⟨a, ea, fun x hx => by obtain ⟨y, _, h⟩ := qa x hx; exact h.1, pa⟩
        · rw [if_neg he]; exact Adds.none _ _ _
theorem go_apart (bl : List ByteArray) (root : B) : Apart (goF bl 1001 root [] ⟨0, []⟩).2.out := by
  obtain ⟨a, ea, _, pa⟩ := go_adds bl 1001 root [] ⟨0, []⟩
  rw [ea]; exact pa
theorem each_data {bl : List ByteArray} {rec : B → B → Wk → Int × Wk} {ahead : B} (hrec : ∀ g a s, ∀ x ∈ (rec g a s).2.out, x ∈ s.out ∨ x.d ∈ bl) :
    ∀ (l : List En) (s : Wk), ∀ x ∈ (eachE bl rec ahead l s).2.out, x ∈ s.out ∨ x.d ∈ bl
  | [], s => fun x hx => .inl hx
  | y :: l, s => fun x hx => by
    rw [eachE] at hx
    by_cases hd : y.dir = true
    · rw [if_pos hd] at hx
      by_cases h0 : (rec y.g (ahead ++ y.n ++ [47]) s).1 = 0
      · rw [if_pos h0] at hx
        rcases each_data hrec l _ x hx with h | h
        · exact hrec _ _ _ x h
        · exact .inr h
      · rw [if_neg h0] at hx
        exact hrec _ _ _ x hx
    · rw [if_neg hd] at hx
      cases hf : findB bl y.g with
      | none => rw [hf] at hx; exact .inl hx
      | some d =>
        rw [hf] at hx
        simp only at hx
        by_cases h32 : 32 ≤ s.out.length
        · rw [if_pos h32] at hx; exact .inl hx
        · rw [if_neg h32] at hx
          rcases each_data hrec l _ x hx with h | h
          · rcases List.mem_append.1 h with h | h
            · exact .inl h
            · obtain rfl := List.mem_singleton.1 h
              exact .inr (List.mem_of_find?_eq_some hf)
          · exact .inr h
theorem go_data (bl : List ByteArray) : ∀ (f : Nat) (root ahead : B) (s : Wk), ∀ x ∈ (goF bl f root ahead s).2.out, x ∈ s.out ∨ x.d ∈ bl
  | 0, _, _, s => fun x hx => .inl hx
  | f + 1, root, ahead, s => fun x hx => by
    rw [goF] at hx
    by_cases hd : 1000 < s.dirs + 1
    · rw [if_pos hd] at hx; exact .inl hx
    · rw [if_neg hd] at hx
      cases hf : findB bl root with
      | none => rw [hf] at hx; exact .inl hx
      | some d =>
        rw [hf] at hx
        simp only at hx
        by_cases he : (decode (tl d)).2 = 0
        · rw [if_pos he] at hx
          exact each_data (go_data bl f) _ ⟨s.dirs + 1, s.out⟩ x hx
        · rw [if_neg he] at hx; exact .inl hx
def Rise (l : List Fl) : Prop := l.Pairwise fun f g => tl f.p ≤ tl g.p
theorem fl_eq_of {f g : Fl} {l : List Fl} (h : Apart l) (hf : f ∈ l) (hg : g ∈ l) (e : tl f.p = tl g.p) : f = g := by
  induction l with
  | nil => cases hf
  | cons x l ih =>
    obtain ⟨h1, h2⟩ := List.pairwise_cons.1 h
    rcases List.mem_cons.1 hf with rfl | hf'
    · rcases List.mem_cons.1 hg with rfl | hg'
      · rfl
      · exact absurd e (h1 g hg')
    · rcases List.mem_cons.1 hg with rfl | hg'
      · exact absurd e.symm (h1 f hf')
      · exact ih h2 hf' hg'
theorem rise_one {l a b : List Fl} (h : Apart l) (pa : a.Perm l) (pb : b.Perm l) (ra : Rise a) (rb : Rise b) : a = b := by
  unfold Rise at ra rb
  refine List.Perm.eq_of_pairwise (le := fun f g => tl f.p ≤ tl g.p) (fun f g hf hg h1 h2 => ?_) ra rb (pa.trans pb.symm)
  exact fl_eq_of h (pa.subset hf) (pb.subset hg) (List.le_antisymm h1 h2)
theorem find_cons (s : ByteArray) (l : List ByteArray) (d : B) : findB (s :: l) d = if d = Blk.sum (tl s) then some s else findB l d := by
  unfold findB
  rw [List.find?_cons]
  by_cases h : d = Blk.sum (tl s)
  · rw [if_pos h, h]; simp
  · rw [if_neg h]
    have : decide (Blk.sum (tl s) = d) = false := decide_eq_false fun e => h e.symm
    rw [this]
noncomputable def sortP (l : List Fl) : List Fl := l.mergeSort fun a b => decide (tl a.p ≤ tl b.p)
theorem sortP_rise (l : List Fl) : Rise (sortP l) := by
  have h := List.pairwise_mergeSort (le := fun a b : Fl => decide (tl a.p ≤ tl b.p)) (fun a b c h1 h2 => decide_eq_true (List.le_trans (of_decide_eq_true h1) (of_decide_eq_true h2))) (fun a b => by
    rcases List.le_total (tl a.p) (tl b.p) with h | h
    · simp [h]
    · simp [h]) l
  exact h.imp fun h => of_decide_eq_true h
theorem sortP_perm (l : List Fl) : (sortP l).Perm l := List.mergeSort_perm _ _
noncomputable def filesF (bl : List ByteArray) (root : B) : List Fl × Int :=
  if (goF bl 1001 root [] ⟨0, []⟩).1 = 0 then
    if checkE (sortP (goF bl 1001 root [] ⟨0, []⟩).2.out) = 0 then (sortP (goF bl 1001 root [] ⟨0, []⟩).2.out, 0) else ([], checkE (sortP (goF bl 1001 root [] ⟨0, []⟩).2.out))
  else ([], (goF bl 1001 root [] ⟨0, []⟩).1)
end Go.Proofs.YtlndnpfjneeeeaaGreatDoor.Fs
