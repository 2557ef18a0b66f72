/- Joined by mkmerged.py: BxLight, RxState, RxWithout. -/
import Derived.Test.YtdidnlkilleljaaGreatDoorMg30
import Derived.Deep.RegionHeld3
import Derived.Test.YtdidnlkilleljaaGreatDoorMg29
import Derived.Test.YtdidnlkilleljaaGreatDoorMg24
/- BxLight, what a claim needs of it (prune.py). -/
namespace Go.Proofs.YtdidnlkilleljaaGreatDoor.Bx
open Go.RowKit
open Lg (BelowX Lies strV)
open Fs (fc fc_len fc_cell Fls Env B)
set_option linter.unusedVariables false
set_option maxRecDepth 100000
def lightP (names : List B) (o : Int) (a : List B) (n : Int) (f : St → St) (s : St) : St :=
  if o = 6 then { s with files := withoutF s.files (a.getD 0 []) }
  else if o = 7 then (if a.getD 0 [] ∈ names then s else { s with kind := 2, need := a.getD 0 [] })
  else if o = 8 then fail 33 (a.getD 0 []) s
  else if o = 9 then loopF f n.toNat s
  else if o = 10 then (if (Fs.get s.files (a.getD 0 [])).isSome then f s else s)
  else s
theorem does_light {fu : Nat} {names : List B} {up so : B → B} {o n : Int} {a : List B} {f : St → St} {s : St} (h : 6 ≤ o) : does fu withF withoutF names up so o a n f s = spend fu 1 (lightP names o a n f) s := by
  unfold does
  rw [if_neg (by omega), if_neg (by omega), if_neg (by omega), if_neg (by omega), if_neg (by omega)]
  rfl
theorem word_at {w : World} {ok : Nat → Prop} {A : Option Addr} {a : List B} {n : Nat} (h : Lies w ok 1 A n (strV a)) (hn : n = a.length) {k : Nat} (hk : k < a.length) : ∃ ad, A = some ad ∧ ok ad.block ∧ ad.block < w.heap.size ∧ w.cell? (ad.add k) = some (.string (bs (a.getD k []))) := by
  subst hn
  obtain ⟨ad, e, ho, hc⟩ := h.2 (by omega)
  have h1 : (strV a)[k]? = some (.string (bs (a.getD k []))) := by rw [List.getElem?_map, List.getElem?_eq_getElem hk]; simp [List.getD, hk]; rfl
  have hcell := hc k _ h1
  refine ⟨ad, e, ho, ?_, hcell⟩
  have := Fs.cell_lt hcell
  rwa [block_of_add] at this
structure Doing (w : World) (b fu : Nat) (N : Option Addr) (nn nc : Nat) (names : List B) (s : St) (Ab : Option Addr) (nb cb : Nat) (f : St → St) : Prop where
  env : EnvB b w
  fine : Fine (fun _ => True) s
  on : over s = false
  used : s.used ≤ fu
  fu1 : 1 ≤ fu
  fu2 : fu ≤ 2000
  nms : Lies w (fun k => k ≠ b) 1 N nn (strV names)
  nml : nn = names.length
  nmz : names.length ≤ 1000000
  blk : ∀ W s', BelowX w.heap.size b w W → StM W b fu N nn nc s' → Fine (fun _ => True) s' → over s' = false → s'.used ≤ fu → Calls Tryz.prog 29 #[.pointer (some ⟨b, 0, none⟩), .slice Ab nb cb] W (Went b fu N nn nc W (f s'))
  fair : Fair fu f
  keep : Keeps (fun _ => True) f
set_option maxHeartbeats 8000000 in
theorem light_any {w : World} {b fu : Nat} {N A : Option Addr} {nn nc c : Nat} {names : List B} {s : St} {Ab : Option Addr} {nb cb : Nat} {f : St → St} (hD : Doing w b fu N nn nc names s Ab nb cb f) (h : StAt w b fu N nn nc A c s)
    (o n : Int) (a : List B) (Aa : Option Addr) (ca : Nat) (hargs : Lies w (fun k => k ≠ b) 1 Aa a.length (strV a)) (hca : a.length ≤ ca) (hsr : StepR o a) (haz : (a.getD 0 []).length ≤ 1000000000) (hn63 : n ≤ 9223372036854775807) (ho6 : 6 ≤ o) :
    Calls Tryz.prog 121 #[.pointer (some ⟨b, 0, none⟩), .agg #[.int .i64 o, .slice Aa a.length ca, .int .i64 n, .slice Ab nb cb]] w (Went b fu N nn nc w (lightP names o a n f s)) := by
  have hbw := lt_heap h.blk
  have AZ := Lib.hid haz
  clear haz
  obtain ⟨W1, eW⟩ : ∃ W1, W1 = w.alloc (.cells #[.int .i64 o, .slice Aa a.length ca, .int .i64 n, .slice Ab nb cb] 61) := ⟨_, rfl⟩
  have hb1 : Below w.heap.size w W1 := by rw [eW]; exact (Below.refl _ _).alloc (Nat.le_refl _) _
  have q0 : W1.heap[w.heap.size]? = some (.cells #[.int .i64 o, .slice Aa a.length ca, .int .i64 n, .slice Ab nb cb] 61 (0, 0)) := by rw [eW]; exact heap_alloc_new w _
  have hw1 := hb1.size
  have hlt1 := lt_heap q0
  have d0 : W1.cell? ⟨w.heap.size, 0, none⟩ = some (.int .i64 o) := (cell_heap q0 0).trans rfl
  have X1 : Hid (∀ W, BelowX W1.heap.size b W1 W → W.cell? ⟨w.heap.size, 1, none⟩ = some (.slice Aa a.length ca) ∧ W.cell? ⟨w.heap.size, 2, none⟩ = some (.int .i64 n) ∧ W.cell? ⟨w.heap.size, 3, none⟩ = some (.slice Ab nb cb)) := Lib.hid fun W hW => by
    have := (hW.block _ hlt1 (by omega)).trans q0
    exact ⟨(cell_heap this 1).trans rfl, (cell_heap this 2).trans rfl, (cell_heap this 3).trans rfl⟩
  obtain ⟨x1, x2, x3⟩ := X1.out W1 (BelowX.refl _ _ _)
  have H1 : Hid (StAt W1 b fu N nn nc A c s) := Lib.hid (h.keep hb1)
  have WB := Lib.hid (fun W (hW : BelowX W1.heap.size b W1 W) => (BelowX.of hb1).trans (hW.mono hw1))
  have EN : Hid (∀ e W w', BelowX W1.heap.size b W1 W → Went b fu N nn nc W (lightP names o a n f s) e w' → Went b fu N nn nc w (lightP names o a n f s) e w') := Lib.hid fun e W w' hW hh => Went.after (WB.out W hW) hh
  have AR : Hid (0 < a.length → ∃ ad, Aa = some ad ∧ (∀ W, BelowX W1.heap.size b W1 W → W.cell? ad = some (.string (bs (a.getD 0 []))))) := Lib.hid fun h0 => by
    obtain ⟨ad, e1, e2, e3, e4⟩ := word_at hargs rfl h0
    refine ⟨ad, e1, fun W hW => ?_⟩
    rw [show ad.add 0 = ad from rfl] at e4
    exact ((WB.out W hW).cell e3 e2).trans e4
  have hq : Went b fu N nn nc w (lightP names o a n f s) = Went b fu N nn nc w (lightP names o a n f s) := rfl
  unfold StepR at hsr
  have hcases : (o = 6 ∧ a.length = 1) ∨ (o = 7 ∧ a.length = 1) ∨ (o = 8 ∧ a.length = 1) ∨ o = 9 ∨ (o = 10 ∧ a.length = 1) := by
    rcases hsr with h | h | h | h | h | h | h
    · omega
    · omega
    · omega
    · rcases h with ⟨h | h | h | h, h2, _⟩
      · omega
      · omega
      · exact .inl ⟨h, h2⟩
      · exact .inr (.inr (.inr (.inr ⟨h, h2⟩)))
    · exact .inr (.inl ⟨h.1, h.2.1⟩)
    · exact .inr (.inr (.inl ⟨h.1, h.2.1⟩))
    · exact .inr (.inr (.inr (.inl h.1)))
  have hb1k := Lib.hid (fun k => belowDN hb1 k)
  clear hsr hargs h q0 hb1 hq
  rcases hcases with ⟨rfl, ha⟩ | ⟨rfl, ha⟩ | ⟨rfl, ha⟩ | rfl | ⟨rfl, ha⟩
  · obtain ⟨ad, rfl, hx⟩ := AR.out (by omega)
    have L : Hid (lightP names 6 a n f s = { s with files := withoutF s.files (a.getD 0 []) }) := Lib.hid (by unfold lightP; rw [if_pos rfl])
    have i0 : (0 : Int) < (a.length : Int) := by omega
    have i1 : 0 < a.length := by omega
    have hR := hD.fine.files
    have hl32 := hR.len
    have SX : Hid (∀ W, Below W1.heap.size W1 W → W.cell? ⟨b, 0, none⟩ = some (.slice A s.files.length c) ∧ W.cell? ⟨w.heap.size, 1, none⟩ = some (.slice (some ad) a.length ca) ∧ W.cell? ad = some (.string (bs (a.getD 0 [])))) := Lib.hid fun W hW => ⟨(cell_heap (H1.out.keep hW).blk 0).trans rfl, (X1.out W (.of hW)).1, hx W (.of hW)⟩
    have WO : Hid (∀ W, Below W1.heap.size W1 W → Calls Tryz.prog 172 #[.slice A s.files.length c, .string (bs (a.getD 0 []))] W (Fs.FilesOwn (withoutF s.files (a.getD 0 [])) W)) := Lib.hid fun W hW => without_any A s.files c (bs (a.getD 0 [])) W (H1.out.keep hW).flsr (by omega) (by rw [Fs.bs_len]; exact AZ.out)
    obtain ⟨y1, y2, y3⟩ := SX.out W1 (Below.refl _ _)
    have dA : Below W1.heap.size W1 W1.drew := (Below.refl _ _).drew
    have hbW : b < W1.heap.size := by omega
    clear ho6 AR ha hx
    generalize bs (a.getD 0 []) = q at *
    go_enter Tryz.func121, Tryz.ntmps121
    go_wp2_with (fail)
    rw [← eW]
    clear eW
    go_region_with (go_at_call 172; (with_reducible refine (WO.out _ dA).mono ?_); rintro e w2 ⟨v2, rfl, ho2, hb2⟩; have h2 : Below W1.heap.size W1 w2 := dA.trans (hb2.mono dA.size); have PT := Lib.hid (StAt.filed (H1.out.keep dA) hb2 ho2 hbW); obtain ⟨vA, vn, vc, rfl⟩ := own_form ho2; have c2 := (SX.out _ h2).1; have f2 : w2.frozen? ⟨b, 0, none⟩ = false := frozen_heap (H1.out.keep h2).blk 0; clear ho2)
    all_goals
      go_wp2_with (fail)
      go_end0
      refine EN.out _ W1 _ (BelowX.refl _ _ _) ⟨rfl, ?_, ((BelowX.of h2).setX (p := ⟨b, 0, none⟩) rfl _)⟩
      rw [L.out]
      exact PT.out
  · obtain ⟨ad, rfl, hx⟩ := AR.out (by omega)
    have hx0 := hx W1 (BelowX.refl _ _ _)
    have i0 : (0 : Int) < (a.length : Int) := by omega
    have i1 : 0 < a.length := by omega
    have hnz := hD.nml
    have hnl := hD.nmz
    have c10 : W1.cell? ⟨b, 1, none⟩ = some (.slice N nn nc) := (cell_heap H1.out.blk 1).trans rfl
    have CO : Hid (∀ k, Calls Tryz.prog 173 #[.slice N nn nc, .string (bs (a.getD 0 []))] (W1.drewN k) fun e w' => e = .returned (.bool (decide (a.getD 0 [] ∈ names))) ∧ w' = W1.drewN k) := Lib.hid fun k => by
      have hr := (hD.nms.mono (ok' := fun k => k ≠ b) (w' := W1.drewN k) (by decide) fun g hg hs => ⟨hg, (hb1k.out k).block g hs⟩).reads (by decide)
      have := contains_any N names nc (a.getD 0 []) (W1.drewN k) (by rw [← hnz]; exact hr) (by omega)
      rw [← hnz] at this
      exact this.mono fun _ _ ⟨h1, h2⟩ => ⟨h1, h2.symm⟩
    have c13 : W1.cell? ⟨b, 3, none⟩ = some (.int .i64 s.kind) := (cell_heap H1.out.blk 3).trans rfl
    have c15 : W1.cell? ⟨b, 5, none⟩ = some (.string (bs s.need)) := (cell_heap H1.out.blk 5).trans rfl
    have f13 := frozen_heap H1.out.blk 3
    have f15 := frozen_heap H1.out.blk 5
    by_cases hm : a.getD 0 [] ∈ names
    · have L : Hid (lightP names 7 a n f s = s) := Lib.hid (by unfold lightP; rw [if_neg (by decide), if_pos rfl, if_pos hm])
      rw [decide_eq_true hm] at CO
      clear ho6 AR hx ha hm hnz hnl
      generalize a.getD 0 [] = q at *
      go_enter Tryz.func121, Tryz.ntmps121
      go_wp2_with (fail)
      rw [← eW]
      clear eW
      go_quiet ((go_at_call 173; exact Calls.quiet_of_same (CO.out _)))
      go_wp2_with (fail)
      go_end0
      refine EN.out _ W1 _ (BelowX.refl _ _ _) ⟨rfl, ?_, (BelowX.refl _ _ _).drewN _⟩
      rw [L.out]
      exact ⟨A, c, H1.out.drewN _⟩
    · have L : Hid (lightP names 7 a n f s = { s with kind := 2, need := a.getD 0 [] }) := Lib.hid (by unfold lightP; rw [if_neg (by decide), if_pos rfl, if_neg hm])
      rw [decide_eq_false hm] at CO
      have X1d : Hid (∀ k, (W1.drewN k).cell? ⟨w.heap.size, 1, none⟩ = some (.slice (some ad) a.length ca)) := Lib.hid fun k => x1
      clear ho6 AR hx ha hm hnz hnl
      generalize a.getD 0 [] = q at *
      go_enter Tryz.func121, Tryz.ntmps121
      go_wp2_with (fail)
      rw [← eW]
      clear eW
      go_quiet ((go_at_call 173; exact Calls.quiet_of_same (CO.out _)))
      go_wp2_with (fail)
      go_end0
      refine EN.out _ W1 _ (BelowX.refl _ _ _) ⟨rfl, ?_, (((BelowX.refl _ b _).drewN _).setX (p := ⟨b, 3, none⟩) rfl _).setX (p := ⟨b, 5, none⟩) rfl _⟩
      rw [L.out]
      exact ⟨A, c, (H1.out.drewN _).set (s' := { s with kind := 2, need := q }) rfl ((heap_set (heap_set (H1.out.drewN _).blk)).trans rfl) (fun g hg => (heap_set_ne hg.symm).trans (heap_set_ne hg.symm))⟩
  · obtain ⟨ad, rfl, hx⟩ := AR.out (by omega)
    have hx0 := hx W1 (BelowX.refl _ _ _)
    have L : Hid (lightP names 8 a n f s = fail 33 (a.getD 0 []) s) := Lib.hid (by unfold lightP; rw [if_neg (by decide), if_neg (by decide), if_pos rfl])
    have FA := Lib.hid (fail_any H1.out 33 (a.getD 0 []))
    have i0 : (0 : Int) < (a.length : Int) := by omega
    have i1 : 0 < a.length := by omega
    clear ho6 AR hx ha
    rw [eW] at hx0
    generalize a.getD 0 [] = q at *
    go_enter Tryz.func121, Tryz.ntmps121
    go_wp2_with (go_at_call 170; rw [← eW]; clear eW; (with_reducible refine (FA.out).mono ?_); rintro e w2 ⟨rfl, h2, h3⟩)
    go_end0
    exact EN.out _ W1 _ (BelowX.refl _ _ _) ⟨rfl, by rw [L.out]; exact h2, h3⟩
  · have L : Hid (lightP names 9 a n f s = loopF f n.toNat s) := Lib.hid (by unfold lightP; rw [if_neg (by decide), if_neg (by decide), if_neg (by decide), if_pos rfl])
    rw [eW] at d0 x2
    have FU := Lib.hid hD.fine
    have US := Lib.hid hD.used
    have ON := Lib.hid hD.on
    have FAIR := Lib.hid hD.fair
    have KEEP := Lib.hid hD.keep
    have BLK := Lib.hid (fun W s' (hW : BelowX W1.heap.size b W1 W) => hD.blk W s' (WB.out W hW))
    have EN2 : Hid (∀ e W, StM W b fu N nn nc (loopF f n.toNat s) → BelowX W1.heap.size b W1 W → e = .returned (.tuple #[]) → Went b fu N nn nc w (lightP names 9 a n f s) e W) := Lib.hid fun e W h1 h2 h3 => EN.out _ W1 _ (BelowX.refl _ _ _) ⟨h3, by rw [L.out]; exact h1, h2⟩
    clear ho6 AR hD EN L
    generalize Went b fu N nn nc w (lightP names 9 a n f s) = Q at *
    go_enter Tryz.func121, Tryz.ntmps121
    go_wp2_with (fail)
    rw [← eW]
    go_loopw [58] (fun i W => ∃ (k : Nat) (s' : St), i = .int .i64 k ∧ k ≤ n.toNat ∧ Hid (loopF f n.toNat s = loopF f (n.toNat - k) s') ∧ Hid (Fine (fun _ => True) s' ∧ over s' = false ∧ s'.used ≤ fu) ∧ Hid (StM W b fu N nn nc s') ∧ BelowX W1.heap.size b W1 W) (fun i _ => n.toNat - (intOf i).toNat)
    case atStart => exact ⟨0, s, rfl, by omega, Lib.hid rfl, Lib.hid ⟨FU.out, ON.out, US.out⟩, Lib.hid ⟨A, c, H1.out⟩, BelowX.refl _ _ _⟩
    case round =>
      obtain ⟨k, s', rfl, hk, RE, SF, SM, hb⟩ := hrel
      by_cases hlt : k < n.toNat
      · have hkI : (k : Int) < n := by omega
        obtain ⟨x1', x2', x3'⟩ := X1.out wr hb
        have AL := Lib.hid (BLK.out wr s' hb SM.out SF.out.1 SF.out.2.1 SF.out.2.2)
        have FK := Lib.hid (KEEP.out s' SF.out.1 SF.out.2.1)
        have UK := Lib.hid (FAIR.out.used s' SF.out.2.2)
        have NX : Hid (loopF f (n.toNat - k) s' = if over (f s') = true then f s' else loopF f (n.toNat - (k + 1)) (f s')) := Lib.hid (by
          rw [show n.toNat - k = (n.toNat - (k + 1)) + 1 by omega, loopF])
        cases hov : over (f s') with
        | true =>
          have F : Hid (loopF f n.toNat s = f s') := Lib.hid (by rw [RE.out, NX.out, if_pos hov])
          have OV := Lib.hid hov
          clear hov NX
          go_wp2_with (first
            | (go_at_call 29; (with_reducible refine (AL.out).mono ?_); rintro e w2 ⟨rfl, h2, h3⟩; have SM2 := Lib.hid h2; obtain ⟨A2, c2, h2⟩ := h2; have OA : Hid (Calls Tryz.prog 30 #[.pointer (some ⟨b, 0, none⟩)] w2 fun e w' => e = .returned (.bool true) ∧ w2 = w') := Lib.hid (by rw [← OV.out]; exact over_any h2); clear h2)
            | (go_at_call 30; (with_reducible refine (OA.out).mono ?_); rintro e w3 ⟨rfl, rfl⟩))
          go_end0
          exact EN2.out _ _ (by rw [F.out]; exact SM2.out) (hb.trans (h3.mono hb.size)) rfl
        | false =>
          have F : Hid (loopF f n.toNat s = loopF f (n.toNat - (k + 1)) (f s')) := Lib.hid (by rw [RE.out, NX.out, if_neg (by simp [hov])])
          have OV := Lib.hid hov
          clear hov NX
          go_wp2_with (first
            | (go_at_call 29; (with_reducible refine (AL.out).mono ?_); rintro e w2 ⟨rfl, h2, h3⟩; have SM2 := Lib.hid h2; obtain ⟨A2, c2, h2⟩ := h2; have OA : Hid (Calls Tryz.prog 30 #[.pointer (some ⟨b, 0, none⟩)] w2 fun e w' => e = .returned (.bool false) ∧ w2 = w') := Lib.hid (by rw [← OV.out]; exact over_any h2); clear h2)
            | (go_at_call 30; (with_reducible refine (OA.out).mono ?_); rintro e w3 ⟨rfl, rfl⟩))
          go_roundw
          case rel => exact ⟨k + 1, f s', by go_num, by omega, F, Lib.hid ⟨FK.out, OV.out, UK.out.2⟩, SM2, hb.trans (h3.mono hb.size)⟩
          case measure => simp [intOf]; omega
      · obtain rfl : k = n.toNat := by omega
        have hkI : ¬ ((n.toNat : Int) < n) := by omega
        have F : Hid (loopF f n.toNat s = s') := Lib.hid (by rw [RE.out, Nat.sub_self, loopF])
        go_wp2_with (fail)
        go_end0
        exact EN2.out _ _ (by rw [F.out]; exact SM.out) hb rfl
  · obtain ⟨ad, rfl, hx⟩ := AR.out (by omega)
    have i0 : (0 : Int) < (a.length : Int) := by omega
    have i1 : 0 < a.length := by omega
    have hl32 := hD.fine.files.len
    have SX : Hid (∀ W, Below W1.heap.size W1 W → W.cell? ⟨b, 0, none⟩ = some (.slice A s.files.length c) ∧ W.cell? ⟨w.heap.size, 1, none⟩ = some (.slice (some ad) a.length ca) ∧ W.cell? ad = some (.string (bs (a.getD 0 [])))) := Lib.hid fun W hW => ⟨(cell_heap (H1.out.keep hW).blk 0).trans rfl, (X1.out W (.of hW)).1, hx W (.of hW)⟩
    have GE : Hid (∀ W, Below W1.heap.size W1 W → Calls Tryz.prog 79 #[.slice A s.files.length c, .string (bs (a.getD 0 []))] W (Fs.GetSays s.files (a.getD 0 []) W)) := Lib.hid fun W hW => Fs.get_any A s.files c (bs (a.getD 0 [])) W (H1.out.keep hW).flsr (by omega)
    have BLK := Lib.hid (fun W s' (hW : BelowX W1.heap.size b W1 W) => hD.blk W s' (WB.out W hW))
    have ST := Lib.hid (And.intro hD.fine (And.intro hD.on hD.used))
    have s0 := fun W hW => (SX.out W hW).1
    have s1 := fun W hW => (SX.out W hW).2.1
    have s2 := fun W hW => (SX.out W hW).2.2
    cases hg : Fs.get s.files (a.getD 0 []) with
    | none =>
      have L : Hid (lightP names 10 a n f s = s) := Lib.hid (by unfold lightP; rw [if_neg (by decide), if_neg (by decide), if_neg (by decide), if_neg (by decide), if_pos rfl, if_neg (by rw [hg]; simp)])
      have G2 : Hid (∀ W, Below W1.heap.size W1 W → Calls Tryz.prog 79 #[.slice A s.files.length c, .string (bs (a.getD 0 []))] W fun e w' => e = .returned (.tuple #[.string ⟨#[]⟩, .bool false]) ∧ Below W.heap.size W w') := Lib.hid fun W hW => (GE.out W hW).mono fun e w' hh => by
        unfold Fs.GetSays at hh
        rw [hg] at hh
        exact hh
      clear ho6 AR hx ha hg GE BLK ST
      generalize a.getD 0 [] = q at *
      go_enter Tryz.func121, Tryz.ntmps121
      go_wp2_with (fail)
      rw [← eW]
      clear eW
      refine wp_region_cls (C := fun w' => Below W1.heap.size W1 w') (by kernel_rfl) (by kernel_rfl) (Below.refl _ _).drew ?_
      repeat (first | go_big_quiet_skip | quiet_step (first | (intro _; rfl) | (intro _; rw [if_neg (by omega)]; exact ⟨rfl, rfl⟩) | (intro hss; (first | rw [s0 _ hss] | rw [s1 _ hss] | rw [s2 _ hss]); exact ⟨rfl, rfl⟩) | (intro hss; go_at_call 79; (with_reducible refine (G2.out _ hss).mono ?_); rintro e w4 ⟨rfl, hb4⟩; exact ⟨rfl, hss.trans (hb4.mono hss.size)⟩)))
      refine wpQuiet_nil ?_
      intro w2 hb2
      go_wp2
      go_end0
      refine EN.out _ W1 _ (BelowX.refl _ _ _) ⟨rfl, ?_, .of hb2⟩
      rw [L.out]
      exact ⟨A, c, H1.out.keep hb2⟩
    | some d =>
      have L : Hid (lightP names 10 a n f s = f s) := Lib.hid (by unfold lightP; rw [if_neg (by decide), if_neg (by decide), if_neg (by decide), if_neg (by decide), if_pos rfl, if_pos (by rw [hg]; simp)])
      have G2 : Hid (∀ W, Below W1.heap.size W1 W → Calls Tryz.prog 79 #[.slice A s.files.length c, .string (bs (a.getD 0 []))] W fun e w' => e = .returned (.tuple #[.string d, .bool true]) ∧ Below W.heap.size W w') := Lib.hid fun W hW => (GE.out W hW).mono fun e w' hh => by
        unfold Fs.GetSays at hh
        rw [hg] at hh
        exact hh
      clear ho6 AR hx ha hg GE
      generalize a.getD 0 [] = q at *
      go_enter Tryz.func121, Tryz.ntmps121
      go_wp2_with (fail)
      rw [← eW]
      clear eW
      refine wp_region_cls (C := fun w' => Below W1.heap.size W1 w') (by kernel_rfl) (by kernel_rfl) (Below.refl _ _).drew ?_
      repeat (first | go_big_quiet_skip | quiet_step (first | (intro _; rfl) | (intro _; rw [if_neg (by omega)]; exact ⟨rfl, rfl⟩) | (intro hss; (first | rw [s0 _ hss] | rw [s1 _ hss] | rw [s2 _ hss]); exact ⟨rfl, rfl⟩) | (intro hss; go_at_call 79; (with_reducible refine (G2.out _ hss).mono ?_); rintro e w4 ⟨rfl, hb4⟩; exact ⟨rfl, hss.trans (hb4.mono hss.size)⟩)))
      refine wpQuiet_nil ?_
      intro w2 hb2
      obtain ⟨x1', x2', x3'⟩ := X1.out w2 (.of hb2)
      have AL := Lib.hid (BLK.out w2 s (.of hb2) ⟨A, c, H1.out.keep hb2⟩ ST.out.1 ST.out.2.1 ST.out.2.2)
      go_wp2_with (go_at_call 29; (with_reducible refine (AL.out).mono ?_); rintro e w3 ⟨rfl, h3, h4⟩)
      go_end0
      exact EN.out _ w2 _ (.of hb2) ⟨rfl, by rw [L.out]; exact h3, h4⟩
end Go.Proofs.YtdidnlkilleljaaGreatDoor.Bx
/- RxState, what a claim needs of it (prune.py). -/
namespace Go.Proofs.YtdidnlkilleljaaGreatDoor.Bx
open Go.RowKit
open Lg (BelowX Lies)
open Fs (fc fc_len fc_cell Fls Env B)
set_option linter.unusedVariables false
set_option maxRecDepth 100000
structure RAt (w : World) (b fu : Nat) (N : Option Addr) (nn nc : Nat) (A : Option Addr) (c : Nat) (s : St) : Prop where
  blk : w.heap[b]? = some (.cells (stc A c N nn nc fu s) 72 (0, 0))
  fls : Lies w (fun k => k ≠ b) 2 A s.files.length (fc s.files)
  cap : s.files.length ≤ c
def RM (w : World) (b fu : Nat) (N : Option Addr) (nn nc : Nat) (s : St) : Prop := ∃ A c, RAt w b fu N nn nc A c s
theorem RAt.flsr {w : World} {b fu : Nat} {N A : Option Addr} {nn nc c : Nat} {s : St} (h : RAt w b fu N nn nc A c s) : Fls w A s.files := h.fls.reads (by decide)
theorem RAt.keep {w w' : World} {b fu : Nat} {N A : Option Addr} {nn nc c : Nat} {s : St} (h : RAt w b fu N nn nc A c s) (hb : Below w.heap.size w w') : RAt w' b fu N nn nc A c s :=
  ⟨heap_below hb (lt_heap h.blk) h.blk, h.fls.mono (by decide) fun k hk hs => ⟨hk, hb.block k hs⟩, h.cap⟩
theorem RAt.set {w w' : World} {b fu : Nat} {N A : Option Addr} {nn nc c : Nat} {s s' : St} (h : RAt w b fu N nn nc A c s) (hf : s'.files = s.files) (hb : w'.heap[b]? = some (.cells (stc A c N nn nc fu s') 72 (0, 0))) (hk : ∀ k, k ≠ b → w'.heap[k]? = w.heap[k]?) : RAt w' b fu N nn nc A c s' :=
  ⟨hb, by rw [hf]; exact h.fls.mono (by decide) fun k hk' _ => ⟨hk', hk k hk'⟩, by rw [hf]; exact h.cap⟩
def RWent (b fu : Nat) (N : Option Addr) (nn nc : Nat) (w : World) (s' : St) (e : Ending) (w' : World) : Prop := e = .returned (.tuple #[]) ∧ RM w' b fu N nn nc s' ∧ BelowX w.heap.size b w w'
theorem rfail_any {w : World} {b fu : Nat} {N A : Option Addr} {nn nc c : Nat} {s : St} (h : RAt w b fu N nn nc A c s) (e : Int) (t : B) :
    Calls Tryz.prog 180 #[.pointer (some ⟨b, 0, none⟩), .int .i64 e, .string (bs t)] w (RWent b fu N nn nc w (fail e t s)) := by
  have c3 : w.cell? ⟨b, 3, none⟩ = some (.int .i64 s.kind) := (cell_heap h.blk 3).trans rfl
  have c6 : w.cell? ⟨b, 6, none⟩ = some (.int .i64 s.err) := (cell_heap h.blk 6).trans rfl
  have c7 : w.cell? ⟨b, 7, none⟩ = some (.string (bs s.text)) := (cell_heap h.blk 7).trans rfl
  have f3 := frozen_heap h.blk 3
  have f6 := frozen_heap h.blk 6
  have f7 := frozen_heap h.blk 7
  have hlt := lt_heap h.blk
  have EN : Hid (RWent b fu N nn nc w (fail e t s) (.returned (.tuple #[])) (((w.setCell ⟨b, 3, none⟩ (.int .i64 3)).setCell ⟨b, 6, none⟩ (.int .i64 e)).setCell ⟨b, 7, none⟩ (.string (bs t)))) := Lib.hid
    ⟨rfl, ⟨A, c, h.set rfl ((heap_set (heap_set (heap_set h.blk))).trans rfl) (fun k hk => set3_ne w hk)⟩, set3 w⟩
  clear h
  generalize RWent b fu N nn nc w (fail e t s) = Q at *
  go_enter Tryz.func180, Tryz.ntmps180
  go_wp2_with (fail)
  go_end0
  exact EN.out
def RSpent (b fu : Nat) (N : Option Addr) (nn nc : Nat) (w : World) (s' : St) (ok : Bool) (e : Ending) (w' : World) : Prop := e = .returned (.bool ok) ∧ RM w' b fu N nn nc s' ∧ BelowX w.heap.size b w w'
theorem RAt.drewN {w : World} {b fu : Nat} {N A : Option Addr} {nn nc c : Nat} {s : St} (h : RAt w b fu N nn nc A c s) (n : Nat) : RAt (w.drewN n) b fu N nn nc A c s := ⟨h.blk, h.fls, h.cap⟩
theorem rspend_yes {w : World} {b fu : Nat} {N A : Option Addr} {nn nc c : Nat} {s : St} (h : RAt w b fu N nn nc A c s) (n : Nat) (hn : ¬ fu < s.used + n) (hfu : fu ≤ 2000) :
    Calls Tryz.prog 131 #[.pointer (some ⟨b, 0, none⟩), .int .i64 n] w (RSpent b fu N nn nc w { s with used := s.used + n } true) := by
  have c2 : w.cell? ⟨b, 2, none⟩ = some (.int .i64 fu) := (cell_heap h.blk 2).trans rfl
  have c8 : w.cell? ⟨b, 8, none⟩ = some (.int .i64 s.used) := (cell_heap h.blk 8).trans rfl
  have f8 := frozen_heap h.blk 8
  have hlt := lt_heap h.blk
  have EN : Hid (∀ k, RSpent b fu N nn nc w { s with used := s.used + n } true (.returned (.bool true)) ((w.drewN k).setCell ⟨b, 8, none⟩ (.int .i64 ((s.used + n : Nat) : Int)))) := Lib.hid fun k =>
    ⟨rfl, ⟨A, c, (h.drewN k).set (s' := { s with used := s.used + n }) rfl ((heap_set (w := w.drewN k) h.blk).trans rfl) (fun g hg => heap_set_ne hg.symm)⟩, ((BelowX.refl _ b _).drewN k).setX (p := ⟨b, 8, none⟩) rfl _⟩
  clear h
  generalize RSpent b fu N nn nc w { s with used := s.used + n } true = Q at *
  generalize s.used = u at *
  have i1 : IntKind.i64.wrap ((u : Int) + (n : Int)) = (u : Int) + (n : Int) := IntWalk.i64_in _ (by omega)
  have i2 : ¬ (fu : Int) < (u : Int) + (n : Int) := by omega
  have i3 : decide ((fu : Int) < (u : Int) + (n : Int)) = false := decide_eq_false i2
  have i4 : ((u + n : Nat) : Int) = (u : Int) + (n : Int) := by omega
  rw [i4] at EN
  clear i4
  have b1 : u ≤ 2000 := by omega
  have b2 : n ≤ 2000 := by omega
  go_enter Tryz.func131, Tryz.ntmps131
  go_wp2_with (fail)
  go_quiet (fail)
  go_wp2_with (fail)
  exact EN.out _
theorem rspend_no {w : World} {b fu : Nat} {N A : Option Addr} {nn nc c : Nat} {s : St} (h : RAt w b fu N nn nc A c s) (n : Nat) (hn : fu < s.used + n) (hu : s.used ≤ fu) (hfu : fu ≤ 2000) (hn2 : n ≤ 100000) :
    Calls Tryz.prog 131 #[.pointer (some ⟨b, 0, none⟩), .int .i64 n] w (RSpent b fu N nn nc w (dry fu s) false) := by
  have c2 : w.cell? ⟨b, 2, none⟩ = some (.int .i64 fu) := (cell_heap h.blk 2).trans rfl
  have c8 : w.cell? ⟨b, 8, none⟩ = some (.int .i64 s.used) := (cell_heap h.blk 8).trans rfl
  have f8 := frozen_heap h.blk 8
  have hlt := lt_heap h.blk
  have FA : Hid (∀ k, Calls Tryz.prog 180 #[.pointer (some ⟨b, 0, none⟩), .int .i64 34, .string ⟨#[]⟩] ((w.drewN k).setCell ⟨b, 8, none⟩ (.int .i64 fu)) (RWent b fu N nn nc ((w.drewN k).setCell ⟨b, 8, none⟩ (.int .i64 fu)) (fail 34 [] { s with used := fu }))) := Lib.hid fun k =>
    rfail_any (s := { s with used := fu }) ((h.drewN k).set (w' := (w.drewN k).setCell ⟨b, 8, none⟩ (.int .i64 fu)) (s' := { s with used := fu }) rfl ((heap_set (w := w.drewN k) h.blk).trans rfl) (fun g hg => heap_set_ne hg.symm)) 34 []
  have EN : Hid (∀ k w', RM w' b fu N nn nc (fail 34 [] { s with used := fu }) → BelowX ((w.drewN k).setCell ⟨b, 8, none⟩ (.int .i64 fu)).heap.size b ((w.drewN k).setCell ⟨b, 8, none⟩ (.int .i64 fu)) w' → RSpent b fu N nn nc w (dry fu s) false (.returned (.bool false)) w') := Lib.hid fun k w' h1 h2 =>
    ⟨rfl, h1, (((BelowX.refl _ b _).drewN k).setX (p := ⟨b, 8, none⟩) rfl _).trans (h2.mono (by simp [World.setCell]))⟩
  clear h
  generalize RSpent b fu N nn nc w (dry fu s) false = Q at *
  generalize fail 34 [] { s with used := fu } = s2 at *
  generalize s.used = u at *
  have i1 : IntKind.i64.wrap ((u : Int) + (n : Int)) = (u : Int) + (n : Int) := IntWalk.i64_in _ (by omega)
  have i2 : (fu : Int) < (u : Int) + (n : Int) := by omega
  have i3 : decide ((fu : Int) < (u : Int) + (n : Int)) = true := decide_eq_true i2
  go_enter Tryz.func131, Tryz.ntmps131
  go_wp2_with (fail)
  go_quiet (fail)
  go_wp2_with (go_at_call 180; (with_reducible refine (FA.out _).mono ?_); rintro e w2 ⟨rfl, h1, h2⟩)
  exact EN.out _ _ h1 h2
end Go.Proofs.YtdidnlkilleljaaGreatDoor.Bx
/- RxWithout, what a claim needs of it (prune.py). -/
namespace Go.Proofs.YtdidnlkilleljaaGreatDoor.Bx
open Go.RowKit
open Fs (fc fc_len fc_cell fc_append Fls FilesOwn infoF B belowB reads2_one)
set_option linter.unusedVariables false
set_option maxRecDepth 100000
def keepP (p : B) (f : Fl) : Bool := !((belowB (tl f.p) p).isSome || decide (tl f.p = p))
def uptoW (l : List Fl) (p : B) (k : Nat) : List Fl := (l.take k).filter (keepP p)
theorem uptoW_all (l : List Fl) (p : B) : uptoW l p l.length = withoutF l p := by unfold uptoW; rw [List.take_length]; rfl
theorem uptoW_len (l : List Fl) (p : B) (k : Nat) : (uptoW l p k).length ≤ k := Nat.le_trans (List.length_filter_le _ _) (by simp; omega)
theorem uptoW_hit {l : List Fl} {p : B} {k : Nat} (hk : k < l.length) (h : keepP p l[k] = true) : uptoW l p (k + 1) = uptoW l p k ++ [l[k]] := by
  unfold uptoW
  rw [List.take_succ_eq_append_getElem hk, List.filter_append, List.filter_cons, if_pos h, List.filter_nil]
theorem uptoW_miss {l : List Fl} {p : B} {k : Nat} (hk : k < l.length) (h : keepP p l[k] = false) : uptoW l p (k + 1) = uptoW l p k := by
  unfold uptoW
  rw [List.take_succ_eq_append_getElem hk, List.filter_append, List.filter_cons, if_neg (by simp [h]), List.filter_nil, List.append_nil]
set_option maxHeartbeats 2000000 in
theorem rwithout_any (A : Option Addr) (l : List Fl) (c : Nat) (p : ByteArray) (w : World) (hr : Fls w A l) (hl : l.length ≤ 1000000) (hp : p.size ≤ 1000000000) :
    Calls Tryz.prog 182 #[.slice A l.length c, .string p] w (FilesOwn (withoutF l (tl p)) w) := by
  obtain ⟨z, hzi, hzs⟩ := infoF
  obtain ⟨i0, hi, hz0, hz1, hz2⟩ := Lg.info_parts hzi
  have RD : Hid (∀ W, Below w.heap.size w W → Reads W w.heap.size 2 A l.length (fc l)) := Lib.hid fun W hW => hr.below hW
  have HP := Lib.hid hp
  have EN : Hid (∀ W v, W.ownsRow w.heap.size 49 2 v (uptoW l (tl p) l.length).length (fc (uptoW l (tl p) l.length)) → Below w.heap.size w W → FilesOwn (withoutF l (tl p)) w (.returned v) W) := Lib.hid fun W v h hb => by
    rw [← uptoW_all]
    exact ⟨v, rfl, h, hb⟩
  clear hr hzi hp
  generalize FilesOwn (withoutF l (tl p)) w = Q at *
  go_enter Tryz.func182, Tryz.ntmps182
  go_wp2_with (fail)
  go_loopw [5, 6] (fun v i W => ∃ k : Nat, i = .int .i64 k ∧ k ≤ l.length ∧ W.ownsRow w.heap.size 49 2 v (uptoW l (tl p) k).length (fc (uptoW l (tl p) k)) ∧ Below w.heap.size w W) (fun _ i _ => l.length - (intOf i).toNat)
  case atStart => exact ⟨0, rfl, by omega, World.ownsRow_nil _ _ _ _, Below.refl _ _⟩
  case round =>
    obtain ⟨k, rfl, hk, hown, hb⟩ := hrel
    have HO := Lib.hid hown
    clear hown
    by_cases hlt : k < l.length
    · have hkI : (k : Int) < (l.length : Int) := by omega
      obtain ⟨ad, rfl, had, c0, c1⟩ := Fls.at_ (RD.out _ hb) hlt
      have hul := uptoW_len l (tl p) k
      have HIT := Lib.hid (uptoW_hit (p := tl p) hlt)
      have MISS := Lib.hid (uptoW_miss (p := tl p) hlt)
      generalize uptoW l (tl p) k = u at *
      generalize l[k] = f at *
      have BL : Hid (∀ W, Calls Tryz.prog 72 #[.string f.p, .string p] W fun e w' => e = .returned (.bool (belowB (tl f.p) (tl p)).isSome) ∧ W = w') := Lib.hid fun W => Fs.rbelow_any f.p p HP.out W
      have hs1 := hb.size
      by_cases he : f.p = p
      · have F := Lib.hid (MISS.out (by unfold keepP; rw [he]; simp))
        have g : (f.p.toList == p.toList) = true := by rw [he]; simp
        clear HIT MISS he BL
        go_wp2_with (fail)
        go_roundw
        case rel => exact ⟨k + 1, by go_num, by omega, by rw [F.out]; exact HO.out, hb⟩
        case measure => simp [intOf]; omega
      · have g := Lg.s_ne he
        have he2 : tl f.p ≠ tl p := fun e => he (Lg.tl_inj e)
        cases h : (belowB (tl f.p) (tl p)).isSome with
        | true =>
          rw [h] at BL
          have F := Lib.hid (MISS.out (by unfold keepP; rw [h]; rfl))
          clear h HIT MISS he he2
          go_wp2_with (go_at_call 72; ((with_reducible refine (BL.out _).mono ?_); rintro e w1 ⟨rfl, rfl⟩))
          go_roundw
          case rel => exact ⟨k + 1, by go_num, by omega, by rw [F.out]; exact HO.out, hb⟩
          case measure => simp [intOf]; omega
        | false =>
          rw [h] at BL
          have F := Lib.hid (HIT.out (by unfold keepP; rw [h, decide_eq_false he2]; rfl))
          clear h HIT MISS he he2
          go_wp2_with (first
            | (go_at_call 72; ((with_reducible refine (BL.out _).mono ?_); rintro e w1 ⟨rfl, rfl⟩))
            | (at_builtin; refine wpList_append_any _ rfl (.tmp 30) (.tmp 35) _ rfl w.heap.size 49 i0 _ 2 32 Tryz.underlying23 hi hz0 hz1 hz2 hzs (by omega) _ u.length _ rfl (own_on HO.out ((Below.refl _ _).alloc (Nat.le_refl _) _)) _ (some ⟨wr.heap.size, 0, none⟩) 1 1 [.string f.p, .string f.d] rfl (reads2_one _ _ _ _ _ rfl) (fc_cell [f]) (by simp only [maxLen]; omega) (by omega) (by simp; omega) ?_; intro v' w2 hown2 hg2 hat2))
          go_roundw
          case rel =>
            refine ⟨k + 1, by go_num, by omega, ?_, Below.grown (hb.trans (((Below.refl _ _).alloc (Nat.le_refl _) _).mono hs1)) hg2 (by simp; omega) (fun g hg => (HO.out.lt g hg).1)⟩
            rw [F.out, fc_append, List.length_append]; exact hown2
          case measure => simp [intOf]; omega
    · obtain rfl : k = l.length := by omega
      go_wp2_with (fail)
      exact EN.out _ _ HO.out hb
end Go.Proofs.YtdidnlkilleljaaGreatDoor.Bx
