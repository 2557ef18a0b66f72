/- Joined by mkmerged.py: FsFilesW, FsRDown. -/
import Derived.Test.YtlndnpfjneeeeaaGreatDoorMh17
import Derived.Test.YtlndnpfjneeeeaaGreatDoorMh26
import Derived.Test.YtlndnpfjneeeeaaGreatDoorMh18
import Derived.Test.YtlndnpfjneeeeaaGreatDoorMh21
import Derived.Stop.RegionWithIn
/- FsFilesW, what a claim needs of it (prune.py). -/
namespace Go.Proofs.YtlndnpfjneeeeaaGreatDoor.Fs
open Go.RowKit Go.Maps Go.Shelf
set_option linter.unusedVariables false
set_option maxRecDepth 100000
attribute [local go_sem] Oper.semAt_some
def knOf (pre : List (Nat × Sm)) : B → Option ByteArray := pre.foldl (fun f x => upK f (Blk.sum (tl x.2.1)) x.2.1) (fun _ => none)
theorem knOf_snoc (pre : List (Nat × Sm)) (x : Nat × Sm) : knOf (pre ++ [x]) = upK (knOf pre) (Blk.sum (tl x.2.1)) x.2.1 := by simp [knOf]
theorem knOf_back (ss : List ByteArray) (hz : ∀ s ∈ ss, s.size ≤ 1000000) : ∀ k, k ≤ ss.length → knOf (backTo ss hz k) = findB (ss.drop (ss.length - k))
  | 0, _ => by
    funext d
    show none = _
    rw [Nat.sub_zero, List.drop_length]; rfl
  | k + 1, hk => by
    rw [backTo_succ ss hz (q := ss.length - 1 - k) rfl, knOf_snoc, knOf_back ss hz k (by omega)]
    have hq : ss.length - (k + 1) < ss.length := by omega
    rw [List.drop_eq_getElem_cons hq, show ss.length - (k + 1) + 1 = ss.length - k by omega]
    funext d
    rw [find_cons]
    have hg : ss.getD (ss.length - 1 - k) ⟨#[]⟩ = ss[ss.length - (k + 1)] := by
      rw [List.getD_eq_getElem?_getD, show ss.length - 1 - k = ss.length - (k + 1) by omega, List.getElem?_eq_getElem hq]; rfl
    unfold upK
    show (if d = Blk.sum (tl (ss.getD (ss.length - 1 - k) ⟨#[]⟩)) then some (ss.getD (ss.length - 1 - k) ⟨#[]⟩) else _) = _
    rw [hg]
theorem knOf_all (ss : List ByteArray) (hz : ∀ s ∈ ss, s.size ≤ 1000000) : knOf (backTo ss hz ss.length) = findB ss := by rw [knOf_back ss hz _ (Nat.le_refl _), Nat.sub_self]; rfl
def TfSays (bl : List ByteArray) (root : B) (w : World) (e : Ending) (w' : World) : Prop := (∃ A c, e = .returned (.tuple #[.slice A (filesF bl root).1.length c, .int .i64 (filesF bl root).2]) ∧ Fls w' A (filesF bl root).1) ∧ Below w.heap.size w w'
theorem back_keep {W w3 w4 : World} {bk : Nat} {s : Wk} {A : Option Addr} {c : Nat} {g : Option Nat} (h : WdAt W bk w3 (.slice A s.out.length c) s) (hg : g = none ∨ g = (Value.slice A s.out.length c).ownBlock) (k : w3.grownBy w4 g) : (∀ b, b < W.heap.size + 3 → w4.heap[b]? = w3.heap[b]?) ∧ Below W.heap.size W w4 := by
  have hf := Lg.lt_heap h.fn
  have ne : ∀ b, b < W.heap.size + 3 → some b ≠ g := fun b hb e => by
    rcases hg with rfl | rfl
    · cases e
    · have := (h.row.lt b e.symm).1; omega
  refine ⟨fun b hb => k.block b (by omega) (ne b hb), h.bw.grown k h.bw.size (fun b e => ?_)⟩
  rcases Nat.lt_or_ge b W.heap.size with h1 | h1
  · exact absurd e.symm (ne b (by omega))
  · exact h1
set_option maxHeartbeats 8000000 in
theorem pfiles_any (A : Option Addr) (bl : List ByteArray) (c : Nat) (root : B) (w : World) (hE : Env w) (hr : Strs w w.heap.size A bl) (hl : bl.length ≤ 1000000000) (hz : ∀ s ∈ bl, s.size ≤ 1000000) (hro : root.length ≤ maxLen) :
    Calls Tryz.prog 8 #[.string (bs root), .slice A bl.length c] w (TfSays bl root w) := by
  refine (callsIn_wide (n := 10)).1 ?_
  refine callsIn_of_wp_marks Tryz.func8 rfl trivial ?_ rfl
  have hmm := @run_makeMap Tryz.prog
  simp only [Tryz.ntmps8, List.size_toArray, List.length_cons, List.length_nil, Nat.reduceAdd, Nat.reduceSub, Array.replicate_succ, Array.replicate_zero, List.push_toArray, List.append_toArray, List.nil_append, List.cons_append]
  gi_wp2_with (refine ⟨trivial, ?_⟩; gi_at_call 34; refine (backward_in Fence.wide (10 - 1) trivial rfl _ _ _ _).mono ?_; rintro e w' ⟨rfl, rfl⟩)
  obtain ⟨W0, eW⟩ : ∃ W0, (((w.alloc (.map #[] 0)).alloc (.cells #[.map (some w.heap.size)] 80)).alloc (.cells #[.slice A bl.length c] 22)) = W0 := ⟨_, rfl⟩
  rw [eW]
  have hz0 : W0.heap.size = w.heap.size + 3 := by rw [← eW]; simp
  have hb0 : Below w.heap.size w W0 := by rw [← eW]; exact (((Below.refl _ _).alloc (Nat.le_refl _) _).alloc (by simp) _).alloc (by simp; omega) _
  have hk0 : KnAt W0 w.heap.size 0 fun _ => none := by rw [← eW]; exact ((KnAt.made w).alloc _).alloc _
  have hm0 : W0.heap[w.heap.size + 1]? = some (.cells #[.map (some w.heap.size)] 80 (0, 0)) := by
    rw [← eW]
    have := heap_alloc2_new w (.map #[] 0) (.cells #[.map (some w.heap.size)] 80)
    exact (Below.heap_alloc _ _ _ (by simp)).trans this
  have hs0 : W0.heap[w.heap.size + 2]? = some (.cells #[.slice A bl.length c] 22 (0, 0)) := by
    rw [← eW]
    have := heap_alloc_new ((w.alloc (.map #[] 0)).alloc (.cells #[.map (some w.heap.size)] 80)) (.cells #[.slice A bl.length c] 22)
    simpa using this
  have hrow : Strs W0 W0.heap.size A bl := by
    have h1 : Reads W0 w.heap.size 1 A bl.length (bl.map Value.string) := Reads.below hr hb0
    exact h1.more hb0.size
  clear eW
  refine wpIn_rangeFunc_ownG (α := Nat × Sm) (F := Fence.wide) (n := 10) rfl (by omega) (gf := 87) (lb := #[.pointer (some ⟨w.heap.size + 2, 0, none⟩)]) rfl trivial (enters_of Tryz.func87 (by kernel_rfl) rfl)
    (back_stops Fence.wide (10 - 1) trivial rfl (by omega) (w.heap.size + 2) c A bl hz hl W0 (by omega) ((cell_heap hs0 0).trans rfl) hrow w.heap.size (fun h0 ad e => by
      obtain ⟨ad', e', hb', _⟩ := hr.2 h0
      obtain rfl : ad = ad' := by rw [e] at e'; exact Option.some.inj e'
      omega) (by omega)) KpM.trans (KpM.put (Nat.le_refl _)) (Below.refl _ _) (fun _ => rfl)
    (fun pre W => KnAt W w.heap.size pre.length (knOf pre) ∧ W.heap[w.heap.size + 1]? = some (.cells #[.map (some w.heap.size)] 80 (0, 0)) ∧ Below w.heap.size w W ∧ w.heap.size + 3 ≤ W.heap.size)
    (fun _ _ _ => False)
    (fun s A B row hs hg hr => ⟨hs.1.grown hg (fun e => by have := (hr _ e.symm).1; omega), (hg.block _ (Lg.lt_heap hs.2.1) (fun e => by have := (hr _ e.symm).1; omega)).trans hs.2.1, hs.2.2.1.grown hg hs.2.2.1.size (fun r e => by have := (hr r e).1; omega), Nat.le_trans hs.2.2.2 hg.size⟩)
    (fun _ _ _ _ _ hs _ _ => hs)
    ⟨hk0, hm0, hb0, Nat.le_of_eq hz0.symm⟩
    (fun x => { tmps := #[.string (bs root), .slice A bl.length c, undef, undef, .slice none 0 0, .int .i64 0, .pointer (some ⟨w.heap.size + 1, 0, none⟩), undef, .string x.2.1, undef, undef, undef, undef, undef, .map (some w.heap.size), .slice A bl.length c, .func (.func 87) #[] #[.pointer (some ⟨w.heap.size + 1 + 1, 0, none⟩)], .int .i64 (x.1 : Int), .string x.2.1, undef, undef, undef, undef, undef, undef, undef, undef, undef, undef, undef, undef, undef, undef, undef, undef, undef, undef, undef], defers := [] }) ?assign ?body ?done ?stop
  case assign =>
    intro l x W K hK
    gi_wp2
    exact hK
  case body =>
    rintro l pre x W ⟨hk, hm, hb, h3⟩ hlt
    have hml := Lg.lt_heap hm
    have hkl := hk.lt
    have hx := x.2.2
    have SU : Hid (∀ W', Calls Tryz.prog 35 #[.string x.2.1] W' fun e w' => e = .returned (.string (bs (Blk.sum (tl x.2.1)))) ∧ Below W'.heap.size W' w') := Lib.hid fun W' => sum_any x.2.1 (by omega) W'
    have KN : Hid (∀ W', Below W.heap.size W W' → KnAt W' w.heap.size pre.length (knOf pre)) := Lib.hid fun W' hW => hk.later hW
    have MB : Hid (∀ W', Below W.heap.size W W' → W'.heap[w.heap.size + 1]? = some (.cells #[.map (some w.heap.size)] 80 (0, 0))) := Lib.hid fun W' hW => heap_below hW hml hm
    have HB := Lib.hid hb
    have HL : Hid (pre.length < maxLen) := Lib.hid (by unfold maxLen; omega)
    have kS0 : W.cell? ⟨w.heap.size + 1, 0, none⟩ = some (.map (some w.heap.size)) := (cell_heap hm 0).trans rfl
    clear hk hm hb
    have SZ : (bs (Blk.sum (tl x.2.1))).size ≤ maxLen := by rw [bs_len]; unfold maxLen; have := Blk.sum_len (tl x.2.1); omega
    have hxm : x.2.1.size ≤ maxLen := by unfold maxLen; omega
    have kS1 : W.drew.cell? ⟨w.heap.size + 1, 0, none⟩ = some (.map (some w.heap.size)) := kS0
    generalize hxs : x.2.1 = xs at *
    have HXS := Lib.hid hxs
    clear hxs
    gi_wp2_with (fail)
    gi_region_with (refine ⟨trivial, ?_⟩; gi_at_call 35; refine (CallsIn.inRound _ (callsIn_wide.2 (SU.out _))).mono ?_; rintro e w8 ⟨rfl, hb8⟩; have hW8 : Below W.heap.size W w8 := ((Below.refl _ _).drew).trans hb8; obtain ⟨w9, hrun, hk9, hg9⟩ := KnAt.put (KN.out w8 hW8) HL.out (s := bs (Blk.sum (tl xs))) SZ hxm; have c8 : w8.cell? ⟨w.heap.size + 1, 0, none⟩ = some (.map (some w.heap.size)) := (cell_heap (MB.out w8 hW8) 0).trans rfl; have HK9 := Lib.hid hk9; have HG9 := Lib.hid hg9; clear hk9 hg9)
    all_goals
      have hs8 := hW8.size
      have hgB := HG9.out
      have hz9 := hgB.size
      have hB9 : Below w.heap.size w w9 := (HB.out.trans (hW8.mono HB.out.size)).grown hgB (by have := HB.out.size; omega) (fun g e => by cases e; exact Nat.le_refl _)
      have hm9 : w9.heap[w.heap.size + 1]? = some (.cells #[.map (some w.heap.size)] 80 (0, 0)) := (hgB.block _ (by omega) (fun e => by injection e with e; omega)).trans (MB.out w8 hW8)
      refine ⟨⟨by omega, fun k o h1 h2 h3 => ?_⟩, ⟨by omega, fun b h1 h2 => ?_⟩, ?_, hm9, hB9, by omega⟩
      · have hlt := (Array.getElem?_eq_some_iff.1 h2).1
        exact (hgB.block k (by omega) (fun e => by injection e with e; omega)).trans ((hW8.block k hlt).trans h2)
      · have hWs := HB.out.size
        exact (hgB.block b (by omega) (fun e => by injection e with e; exact h2 e)).trans (hW8.block b (by omega))
      · show KnAt w9 w.heap.size (pre ++ [x]).length (knOf (pre ++ [x]))
        rw [knOf_snoc, HXS.out, List.length_append]
        exact HK9.out
  case stop =>
    rintro D c pre W _ _ h
    exact h.elim
  case done =>
    rintro D xs W hD rfl ⟨hk, hm, hb, h3⟩ hDW
    have hmf : ∀ (fn : Fn) (first cap : Array Value) (w : World), (Instr.makeFunc fn first cap).run Tryz.prog w = .ok (.func fn first cap) w := fun _ _ _ _ => rfl
    have hsf := fun (fn : Fn) (first cap : Array Value) (a : Addr) (w : World) => run_store Tryz.prog w a (.func fn first cap) .plain rfl
    rw [knOf_all] at hk
    have hwW := hb.size
    have hkl := hk.lt
    have hml := Lg.lt_heap hm
    have hDl := Lg.lt_heap hDW
    have EW : Env W := hE.below (hb)
    have KP := go_keeps bl 1001 root [] ⟨0, []⟩ (Nat.zero_le _) (by simp) (by simp) (by simp)
    have AP := go_apart bl root
    have DT : ∀ x ∈ (goF bl 1001 root [] ⟨0, []⟩).2.out, x.d.size ≤ 1000000 := fun x hx => by
      rcases go_data bl 1001 root [] ⟨0, []⟩ x hx with h | h
      · cases h
      · exact hz _ h
    have DN : Hid (∀ W2, W2 = (((W.alloc (.cells #[.slice none 0 0] 25)).alloc (.cells #[.int .i64 0] 3)).alloc (.cells #[.func (.func 36) #[] #[.pointer (some ⟨W.heap.size + 1, 0, none⟩), .pointer (some ⟨w.heap.size + 1, 0, none⟩), .pointer (some ⟨W.heap.size + 1 + 1, 0, none⟩), .pointer (some ⟨W.heap.size, 0, none⟩)]] 63)) →
        Calls Tryz.prog 36 #[.string (bs root), .string ⟨#[]⟩, .pointer (some ⟨W.heap.size + 1, 0, none⟩), .pointer (some ⟨w.heap.size + 1, 0, none⟩), .pointer (some ⟨W.heap.size + 1 + 1, 0, none⟩), .pointer (some ⟨W.heap.size, 0, none⟩)] W2 fun e w' => e = .returned (.int .i64 (goF bl 1001 root [] ⟨0, []⟩).1) ∧ ∃ v', WdAt W (w.heap.size + 1) w' v' (goF bl 1001 root [] ⟨0, []⟩).2 ∧ w'.heap[D]? = some (.deferred (some []))) := Lib.hid fun W2 e2 => by
      have hbw : Below W.heap.size W W2 := by rw [e2]; exact (((Below.refl _ _).alloc (Nat.le_refl _) _).alloc (by simp) _).alloc (by simp; omega) _
      have h0 : W2.heap[W.heap.size]? = some (.cells #[.slice none 0 0] 25 (0, 0)) := by
        rw [e2]
        exact (Below.heap_alloc _ _ _ (by simp; omega)).trans ((Below.heap_alloc _ _ _ (by simp)).trans (heap_alloc_new W _))
      have h1 : W2.heap[W.heap.size + 1]? = some (.cells #[.int .i64 0] 3 (0, 0)) := by
        rw [e2]
        have a1 := heap_alloc2_new W (.cells #[.slice none 0 0] 25) (.cells #[.int .i64 0] 3)
        exact (Below.heap_alloc _ _ _ (by simp)).trans a1
      have h2 : W2.heap[W.heap.size + 2]? = some (.cells #[.func (.func 36) #[] #[.pointer (some ⟨W.heap.size + 1, 0, none⟩), .pointer (some ⟨w.heap.size + 1, 0, none⟩), .pointer (some ⟨W.heap.size + 2, 0, none⟩), .pointer (some ⟨W.heap.size, 0, none⟩)]] 63 (0, 0)) := by
        rw [e2]
        have a2 := heap_alloc_new ((W.alloc (.cells #[.slice none 0 0] 25)).alloc (.cells #[.int .i64 0] 3)) (.cells #[.func (.func 36) #[] #[.pointer (some ⟨W.heap.size + 1, 0, none⟩), .pointer (some ⟨w.heap.size + 1, 0, none⟩), .pointer (some ⟨W.heap.size + 1 + 1, 0, none⟩), .pointer (some ⟨W.heap.size, 0, none⟩)]] 63)
        simpa using a2
      have C := down_walk W bl (w.heap.size + 1) w.heap.size _ EW hk hm hz 1001 root [] ⟨0, []⟩ W2 (.slice none 0 0) ⟨hbw, h0, h1, h2, World.ownsRow_nil _ _ _ _⟩ (by simp) (Nat.zero_le _) (by simp) (by simp) (by simp) hro
      refine Calls.mono C ?_
      rintro e w' ⟨rfl, v', h3, h4⟩
      refine ⟨rfl, v', h3, (h4.block D ?_ (by omega) (by omega) (by rintro ⟨⟩)).trans ((hbw.block D hDl).trans hDW)⟩
      rw [e2]; simp only [World.size_alloc]; omega
    have EV : Hid (∀ W', Below W.heap.size W W' → Env W') := Lib.hid fun W' hW => EW.below hW
    have HB := Lib.hid hb
    have FF : Hid (filesF bl root = if (goF bl 1001 root [] ⟨0, []⟩).1 = 0 then if checkE (sortP (goF bl 1001 root [] ⟨0, []⟩).2.out) = 0 then (sortP (goF bl 1001 root [] ⟨0, []⟩).2.out, 0) else ([], checkE (sortP (goF bl 1001 root [] ⟨0, []⟩).2.out)) else ([], (goF bl 1001 root [] ⟨0, []⟩).1)) := Lib.hid rfl
    generalize goF bl 1001 root [] ⟨0, []⟩ = r at *
    obtain ⟨rc, rs⟩ := r
    dsimp only at DN FF KP AP DT
    have KPH := Lib.hid KP
    have APH := Lib.hid AP
    have DTH := Lib.hid DT
    clear KP AP DT
    have HZ := Lib.hid hz0
    clear hk hm hb EW hE hr hz hs0 hrow hk0 hm0 hb0 hz0
    by_cases hc : rc = 0
    · have FF := Lib.hid (FF.out.trans (if_pos hc))
      have hlen : (sortP rs.out).length = rs.out.length := (sortP_perm _).length_eq
      have h32 : rs.out.length ≤ 32 := KPH.out.1.out
      subst hc
      have HLEN := Lib.hid hlen
      have SZ : Hid (∀ f ∈ sortP rs.out, f.p.size ≤ maxLen ∧ f.d.size ≤ maxLen) := Lib.hid fun f hf => by
        have hm' := (sortP_perm _).subset hf
        have h1 := KPH.out.2 f hm'
        have h2 := DTH.out f hm'
        unfold maxLen
        omega
      clear hlen
      have CH : Hid (∀ A c W', Below W.heap.size W W' → W'.ownsRow (W.heap.size + 3) 75 2 (.slice A rs.out.length c) rs.out.length (fc (sortP rs.out)) → Calls Tryz.prog 41 #[.slice A rs.out.length c] W' fun e w' => e = .returned (.int .i64 (checkE (sortP rs.out))) ∧ Below W'.heap.size W' w') := Lib.hid fun A c W' hW ho => by
        have hr : Fls W' A (sortP rs.out) := by
          have := Reads.of_own ho
          rw [← HLEN.out] at this
          exact this
        have h := pcheck_any A (sortP rs.out) c W' (EV.out W' hW) hr (by rw [HLEN.out]; unfold maxLen; omega) SZ.out
        rw [HLEN.out] at h
        exact h
      have OK : Hid (∀ A c w', w'.ownsRow (W.heap.size + 3) 75 2 (.slice A rs.out.length c) rs.out.length (fc (sortP rs.out)) → Fls w' A (sortP rs.out)) := Lib.hid fun A c w' ho => by
        have := Reads.of_own ho
        rw [← HLEN.out] at this
        exact this
      obtain ⟨ce, hce⟩ : ∃ ce, ce = checkE (sortP rs.out) := ⟨_, rfl⟩
      have CE := Lib.hid hce
      rw [← hce] at FF CH
      clear hce KPH SZ DTH EV
      by_cases h0 : ce = 0
      · have F := Lib.hid (FF.out.trans (if_pos h0))
        subst h0
        clear FF
        gi_wp2_with (first
        | (refine ⟨trivial, ?_⟩; gi_at_call 36; refine (callsIn_wide.2 (DN.out _ rfl)).mono ?_; rintro e w3 ⟨rfl, v3, D3, hK3⟩; obtain ⟨A3, c3, rfl⟩ := dw_form D3.row; have b3 : w3.cell? ⟨W.heap.size, 0, none⟩ = some (.slice A3 rs.out.length c3) := (cell_heap D3.out 0).trans rfl; have SO := Lib.hid (Sy.sort_files A3 c3 (W.heap.size + 3) rs.out w3 D3.row h32 APH.out))
        | (refine ⟨trivial, ?_⟩; gi_at_call 38; refine (callsIn_wide.2 SO.out).mono ?_; rintro e w4 ⟨rfl, ho4, g4, hc4, hg4⟩; have KB := Lib.hid (back_keep D3 hc4 hg4); have b4 : w4.cell? ⟨W.heap.size, 0, none⟩ = some (.slice A3 rs.out.length c3) := (World.cell?_of_block (a := ⟨W.heap.size, 0, none⟩) (KB.out.1 W.heap.size (by omega))).trans b3; have HO4 := Lib.hid ho4; have CK := Lib.hid (CH.out A3 c3 w4 KB.out.2 HO4.out); clear hg4 hc4 ho4)
        | (refine ⟨trivial, ?_⟩; gi_at_call 41; refine (callsIn_wide.2 CK.out).mono ?_; rintro e w5 ⟨rfl, hb5⟩; have b5 : w5.cell? ⟨W.heap.size, 0, none⟩ = some (.slice A3 rs.out.length c3) := (hb5.cell (p := ⟨W.heap.size, 0, none⟩) (cell_lt b4)).trans b4))
        have hK5 : w5.heap[D]? = some (.deferred (some [])) := (hb5.block D (by have := KB.out.2.size; omega)).trans ((KB.out.1 D (by omega)).trans hK3)
        refine ⟨by simp, .inl ⟨_, _, rfl, run_takeDeferred hK5, ?_⟩⟩
        refine ⟨_, results_tmp2 rfl _ _ _, ?_, ?_⟩
        · exact ⟨A3, c3, by rw [F.out, ← HLEN.out]; rfl, by rw [F.out]; exact OK.out A3 c3 _ (own_grown2 (own_later HO4.out hb5) (grownBy_putObj' w5 D (.deferred none)) (by omega))⟩
        · have h4 := KB.out.2
          exact ((HB.out.trans (h4.mono hwW)).trans (hb5.mono (by have := h4.size; omega))).grown (grownBy_putObj' w5 D (.deferred none)) (by have := h4.size; have := hb5.size; omega) (fun r e => by cases e; have := HZ.out; omega)
      · have F := Lib.hid (FF.out.trans (if_neg h0))
        have q3 : (ce == 0) = false := by simpa using h0
        have q4 : (ce != 0) = true := by simpa using h0
        clear FF
        gi_wp2_with (first
        | (refine ⟨trivial, ?_⟩; gi_at_call 36; refine (callsIn_wide.2 (DN.out _ rfl)).mono ?_; rintro e w3 ⟨rfl, v3, D3, hK3⟩; obtain ⟨A3, c3, rfl⟩ := dw_form D3.row; have b3 : w3.cell? ⟨W.heap.size, 0, none⟩ = some (.slice A3 rs.out.length c3) := (cell_heap D3.out 0).trans rfl; have SO := Lib.hid (Sy.sort_files A3 c3 (W.heap.size + 3) rs.out w3 D3.row h32 APH.out))
        | (refine ⟨trivial, ?_⟩; gi_at_call 38; refine (callsIn_wide.2 SO.out).mono ?_; rintro e w4 ⟨rfl, ho4, g4, hc4, hg4⟩; have KB := Lib.hid (back_keep D3 hc4 hg4); have b4 : w4.cell? ⟨W.heap.size, 0, none⟩ = some (.slice A3 rs.out.length c3) := (World.cell?_of_block (a := ⟨W.heap.size, 0, none⟩) (KB.out.1 W.heap.size (by omega))).trans b3; have HO4 := Lib.hid ho4; have CK := Lib.hid (CH.out A3 c3 w4 KB.out.2 HO4.out); clear hg4 hc4 ho4)
        | (refine ⟨trivial, ?_⟩; gi_at_call 41; refine (callsIn_wide.2 CK.out).mono ?_; rintro e w5 ⟨rfl, hb5⟩; have b5 : w5.cell? ⟨W.heap.size, 0, none⟩ = some (.slice A3 rs.out.length c3) := (hb5.cell (p := ⟨W.heap.size, 0, none⟩) (cell_lt b4)).trans b4))
        have hK5 : w5.heap[D]? = some (.deferred (some [])) := (hb5.block D (by have := KB.out.2.size; omega)).trans ((KB.out.1 D (by omega)).trans hK3)
        refine ⟨by simp, .inl ⟨_, _, rfl, run_takeDeferred hK5, ?_⟩⟩
        refine ⟨_, results_tmp2 rfl _ _ _, ?_, ?_⟩
        · exact ⟨none, 0, by rw [F.out]; rfl, by rw [F.out]; exact Reads.none_⟩
        · have h4 := KB.out.2
          exact ((HB.out.trans (h4.mono hwW)).trans (hb5.mono (by have := h4.size; omega))).grown (grownBy_putObj' w5 D (.deferred none)) (by have := h4.size; have := hb5.size; omega) (fun r e => by cases e; have := HZ.out; omega)
    · have q1 : (rc == 0) = false := by simpa using hc
      have q2 : (rc != 0) = true := by simpa using hc
      have F := Lib.hid (FF.out.trans (if_neg hc))
      clear FF
      gi_wp2_with (refine ⟨trivial, ?_⟩; gi_at_call 36; refine (callsIn_wide.2 (DN.out _ rfl)).mono ?_; rintro e w3 ⟨rfl, v3, D3, hK3⟩)
      refine ⟨by simp, .inl ⟨_, _, rfl, run_takeDeferred hK3, ?_⟩⟩
      refine ⟨_, results_tmp2 rfl _ _ _, ?_, ?_⟩
      · exact ⟨none, 0, by rw [F.out]; rfl, by rw [F.out]; exact Reads.none_⟩
      · have hb3 := D3.bw
        exact (HB.out.trans (hb3.mono hwW)).grown (grownBy_putObj' w3 D (.deferred none)) (by have := hb3.size; omega) (fun r e => by cases e; have := HZ.out; omega)
end Go.Proofs.YtlndnpfjneeeeaaGreatDoor.Fs
/- FsRDown, what a claim needs of it (prune.py). -/
namespace Go.Proofs.YtlndnpfjneeeeaaGreatDoor.Fs
open Go.RowKit
set_option linter.unusedVariables false
set_option maxRecDepth 100000
structure WrAt (W0 : World) (Ab : Option Addr) (nb cb : Nat) (W : World) (v : Value) (s : Wk) : Prop where
  bw : Below W0.heap.size W0 W
  st : W.heap[W0.heap.size]? = some (.cells #[.slice Ab nb cb, .int .i64 (s.dirs : Int), v] 93 (0, 0))
  row : W.ownsRow (W0.heap.size + 1) 75 2 v s.out.length (fc s.out)
structure KeepR (x : Nat) (v : Value) (W W' : World) (v' : Value) : Prop where
  os : W'.os = W.os
  tape : W'.tape = W.tape
  output : W'.output = W.output
  size : W.heap.size ≤ W'.heap.size
  block : ∀ b, b < W.heap.size → b ≠ x → some b ≠ v.ownBlock → W'.heap[b]? = W.heap[b]?
  new : ∀ g, v'.ownBlock = some g → v.ownBlock = some g ∨ W.heap.size ≤ g
theorem KeepR.refl (x : Nat) (v : Value) (W : World) : KeepR x v W W v := ⟨rfl, rfl, rfl, Nat.le_refl _, fun _ _ _ _ => rfl, fun _ h => .inl h⟩
theorem KeepR.trans {x : Nat} {v v1 v2 : Value} {W W1 W2 : World} (h : KeepR x v W W1 v1) (k : KeepR x v1 W1 W2 v2) : KeepR x v W W2 v2 :=
  ⟨k.os.trans h.os, k.tape.trans h.tape, k.output.trans h.output, Nat.le_trans h.size k.size, fun b h1 h2 h4 => (k.block b (Nat.lt_of_lt_of_le h1 h.size) h2 (fun e => by
    rcases h.new b e.symm with h5 | h5
    · exact h4 h5.symm
    · omega)).trans (h.block b h1 h2 h4), fun g hg => by
    rcases k.new g hg with h4 | h4
    · exact h.new g h4
    · exact .inr (Nat.le_trans h.size h4)⟩
theorem KeepR.of_below {x : Nat} {v : Value} {W W' : World} (h : Below W.heap.size W W') : KeepR x v W W' v := ⟨h.os, h.tape, h.output, h.size, fun b h1 _ _ => h.block b h1, fun _ h => .inl h⟩
def FarR {α : Type} (x : Nat) (v : Value) (W : World) (A : Option Addr) (l : List α) : Prop := 0 < l.length → ∀ ad, A = some ad → ad.block ≠ x ∧ some ad.block ≠ v.ownBlock ∧ ad.block < W.heap.size
theorem FarR.keep {α : Type} {x : Nat} {v v' : Value} {W W' : World} {A : Option Addr} {l : List α} (h : FarR x v W A l) (k : KeepR x v W W' v') : FarR x v' W' A l := fun h0 ad e => by
  obtain ⟨h1, h3, h4⟩ := h h0 ad e
  refine ⟨h1, fun e2 => ?_, Nat.lt_of_lt_of_le h4 k.size⟩
  rcases k.new _ e2.symm with h5 | h5
  · exact h3 h5.symm
  · omega
theorem farr_ens {x : Nat} {v v' : Value} {W W' : World} {A : Option Addr} {l : List En} (h : Ens W A l) (hf : FarR x v W A l) (k : KeepR x v W W' v') : Ens W' A l :=
  ⟨h.1, fun hn => by
    obtain ⟨ad, e, hb, hc⟩ := h.2 hn
    obtain ⟨h1, h3, h4⟩ := hf hn ad e
    exact ⟨ad, e, Nat.lt_of_lt_of_le h4 k.size, fun j u hu => (World.cell?_of_block (by rw [block_of_add]; exact k.block _ h4 h1 h3)).trans (hc j u hu)⟩⟩
theorem farr_own {x : Nat} {v : Value} {W W' : World} {A : Option Addr} {l : List En} {B0 c m : Nat} {ys : List Value} (ho : W'.ownsRow B0 79 3 (.slice A l.length c) l.length (ec l)) (hB : W.heap.size ≤ B0) (hv : W.ownsRow (x + 1) 75 2 v m ys) (hbo : x < W.heap.size) : FarR x v W' A l := fun h0 ad e => by
  subst e
  obtain ⟨g, cap, hv2, hg, hlt⟩ := ho.form h0
  injection hv2 with hv2
  injection hv2 with hv2
  subst hv2
  refine ⟨by show g ≠ x; omega, fun e2 => ?_, hlt⟩
  have := (hv.lt g e2.symm).2
  omega
theorem WrAt.keep {W0 W W' : World} {Ab : Option Addr} {nb cb : Nat} {v : Value} {s : Wk} (h : WrAt W0 Ab nb cb W v s) (hb : Below W.heap.size W W') : WrAt W0 Ab nb cb W' v s :=
  ⟨h.bw.trans (hb.mono h.bw.size), heap_below hb (Lg.lt_heap h.st) h.st, own_later h.row hb⟩
theorem WrAt.count {W0 W : World} {Ab : Option Addr} {nb cb : Nat} {v : Value} {s : Wk} (h : WrAt W0 Ab nb cb W v s) (d : Nat) : WrAt W0 Ab nb cb (W.setCell ⟨W0.heap.size, 1, none⟩ (.int .i64 (d : Int))) v ⟨d, s.out⟩ ∧ KeepR W0.heap.size v W (W.setCell ⟨W0.heap.size, 1, none⟩ (.int .i64 (d : Int))) v := by
  have hb := h.bw.size
  refine ⟨⟨h.bw.setCell (Nat.le_refl _) _, (heap_set h.st).trans rfl, dw_past h.row (by omega) _ _⟩, ?_⟩
  exact ⟨by simp [World.setCell], by simp [World.setCell], by simp [World.setCell], by simp, fun b h1 h2 h4 => Below.heap_setCell _ _ _ _ h2, fun g h => .inl h⟩
theorem WrAt.put {W0 W Wa W1 : World} {Ab : Option Addr} {nb cb : Nat} {v v' : Value} {s : Wk} {f : Fl} (h : WrAt W0 Ab nb cb W v s) (ha : Below W.heap.size W Wa) (hz : W.heap.size < Wa.heap.size) (hown : W1.ownsRow (W0.heap.size + 1) 75 2 v' (s.out.length + 1) (fc s.out ++ [.string f.p, .string f.d])) (hg : Wa.grownBy W1 v.ownBlock) (hat : v'.ownBlock = v.ownBlock ∨ v'.ownBlock = some Wa.heap.size) :
    WrAt W0 Ab nb cb (W1.setCell ⟨W0.heap.size, 2, none⟩ v') v' ⟨s.dirs, s.out ++ [f]⟩ ∧ KeepR W0.heap.size v W (W1.setCell ⟨W0.heap.size, 2, none⟩ v') v' := by
  have hb := h.bw.size
  have ho := Lg.lt_heap h.st
  have hsz := hg.size
  have keep : ∀ b, b < W.heap.size → some b ≠ v.ownBlock → W1.heap[b]? = W.heap[b]? := fun b h1 h2 => (hg.block b (by omega) h2).trans (ha.block b h1)
  have far : ∀ b, b < W0.heap.size + 1 → some b ≠ v.ownBlock := fun b h1 e => by have := (h.row.lt b e.symm).1; omega
  refine ⟨⟨?_, (heap_set ((keep _ ho (far _ (by omega))).trans h.st)).trans rfl, ?_⟩, ?_⟩
  · exact (h.bw.trans ((ha.mono hb).grown hg (by have := ha.size; omega) (fun g e => by have := (h.row.lt g e).1; omega))).setCell (Nat.le_refl _) _
  · show (W1.setCell _ _).ownsRow _ _ _ _ (s.out ++ [f]).length (fc (s.out ++ [f]))
    rw [fc_append, List.length_append]
    exact dw_past hown (by omega) _ _
  · refine ⟨?_, ?_, ?_, ?_, fun b h1 h2 h4 => (Below.heap_setCell _ _ _ _ h2).trans (keep b h1 h4), fun g hgg => ?_⟩
    · exact (show (W1.setCell _ _).os = W1.os from by simp [World.setCell]).trans (hg.os.trans ha.os)
    · exact (show (W1.setCell _ _).tape = W1.tape from by simp [World.setCell]).trans (hg.tape.trans ha.tape)
    · exact (show (W1.setCell _ _).output = W1.output from by simp [World.setCell]).trans (hg.output.trans ha.output)
    · simp; omega
    · rcases hat with h4 | h4
      · exact .inl (by rw [← h4]; exact hgg)
      · rw [h4] at hgg
        injection hgg with hgg
        exact .inr (by omega)
def WrSays (W0 : World) (Ab : Option Addr) (nb cb : Nat) (r : Int × Wk) (W : World) (v : Value) (e : Ending) (w' : World) : Prop := e = .returned (.int .i64 r.1) ∧ ∃ v', WrAt W0 Ab nb cb w' v' r.2 ∧ KeepR W0.heap.size v W w' v'
end Go.Proofs.YtlndnpfjneeeeaaGreatDoor.Fs
