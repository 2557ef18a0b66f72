/- Joined by mkmerged.py: RxLight, RxWrite, BxSort. -/
import Derived.Test.YtdidnlkilleljaaGreatDoorMg31
import Derived.Test.YtdidnlkilleljaaGreatDoorMg32
import Derived.BigQuiet
import Derived.Test.YtdidnlkilleljaaGreatDoorMg03
import Derived.Test.YtdidnlkilleljaaGreatDoorMg23
/- RxLight, what a claim needs of it (prune.py). -/
namespace Go.Proofs.YtdidnlkilleljaaGreatDoor.Bx
open Go.RowKit
open Lg (BelowX Lies strV)
open Fs (fc fc_len fc_cell Fls Env B)
set_option linter.unusedVariables false
set_option maxRecDepth 100000
theorem RWent.after {b fu : Nat} {N : Option Addr} {nn nc : Nat} {w W : World} {s' : St} {e : Ending} {w' : World} (h : BelowX w.heap.size b w W) (k : RWent b fu N nn nc W s' e w') : RWent b fu N nn nc w s' e w' := ⟨k.1, k.2.1, h.trans (k.2.2.mono h.size)⟩
theorem RAt.filed {w w1 : World} {b fu : Nat} {N A : Option Addr} {nn nc c B0 : Nat} {s : St} {m : List Fl} {v : Value} (h : RAt w b fu N nn nc A c s) (hb : Below w.heap.size w w1) (ho : w1.ownsRow B0 49 2 v m.length (fc m)) (hB : b < B0) :
    RM (w1.setCell ⟨b, 0, none⟩ v) b fu N nn nc { s with files := m } := by
  have hblk := heap_below hb (lt_heap h.blk) h.blk
  obtain ⟨_, ⟨rfl, rfl⟩ | ⟨g, cap, cur, rfl, hBg, hh, hc, hc2, h3, h4⟩⟩ := own_open ho
  · exact ⟨none, 0, (heap_set hblk).trans rfl, Lies.none_, Nat.le_refl _⟩
  · refine ⟨some ⟨g, 0, none⟩, cap, (heap_set hblk).trans rfl, ⟨fc_len m, fun _ => ⟨_, rfl, by show g ≠ b; omega, fun j u hu => ?_⟩⟩, hc⟩
    have hg : (w1.setCell ⟨b, 0, none⟩ (.slice (some ⟨g, 0, none⟩) m.length cap)).heap[g]? = some (.cells cur 49 (0, 0)) := (heap_set_ne (by omega)).trans hh
    rw [Lg.add_eq, cell_heap hg]
    exact cur_at h4 hu
def contF (f : St → St) (m : Nat) (s : St) : St := if over s = true then s else loopF f m s
theorem cont_on {f : St → St} {m : Nat} {s : St} (h : over s = false) : contF f m s = loopF f m s := by unfold contF; rw [if_neg (by simp [h])]
theorem cont_over {f : St → St} {m : Nat} {s : St} (h : over s = true) : contF f m s = s := by unfold contF; rw [if_pos h]
theorem cont_zero (f : St → St) (s : St) : contF f 0 s = s := by unfold contF; split <;> rfl
theorem cont_step {f : St → St} {m : Nat} {s : St} (h : over s = false) : contF f (m + 1) s = contF f m (f s) := by
  rw [cont_on h, loopF]; rfl
theorem kind_over {s : St} (h : over s = true) : s.kind ≠ 0 := by unfold over at h; simpa using h
theorem kind_on {s : St} (h : over s = false) : s.kind = 0 := by unfold over at h; simpa using h
structure RDoing (w : World) (b fu : Nat) (N : Option Addr) (nn nc : Nat) (names : List B) (s : St) (Ab : Option Addr) (nb cb : Nat) (f : St → St) : Prop where
  env : EnvB b w
  fine : Fine (fun _ => True) s
  on : over s = false
  used : s.used ≤ fu
  fu1 : 1 ≤ fu
  fu2 : fu ≤ 2000
  nms : Lies w (fun k => k ≠ b) 1 N nn (strV names)
  nml : nn = names.length
  nmz : names.length ≤ 1000000
  blk : ∀ W s', BelowX w.heap.size b w W → RM W b fu N nn nc s' → Fine (fun _ => True) s' → over s' = false → s'.used ≤ fu → Calls Tryz.prog 34 #[.pointer (some ⟨b, 0, none⟩), .slice Ab nb cb] W (RWent b fu N nn nc W (f s'))
  fair : Fair fu f
  keep : Keeps (fun _ => True) f
set_option maxHeartbeats 8000000 in
theorem rlight_any {w : World} {b fu : Nat} {N A : Option Addr} {nn nc c : Nat} {names : List B} {s : St} {Ab : Option Addr} {nb cb : Nat} {f : St → St} (hD : RDoing w b fu N nn nc names s Ab nb cb f) (h : RAt w b fu N nn nc A c s)
    (o n : Int) (a : List B) (Aa : Option Addr) (ca : Nat) (hargs : Lies w (fun k => k ≠ b) 1 Aa a.length (strV a)) (hca : a.length ≤ ca) (hsr : StepR o a) (haz : (a.getD 0 []).length ≤ 1000000000) (hn63 : n ≤ 9223372036854775807) (ho6 : 6 ≤ o) :
    Calls Tryz.prog 132 #[.pointer (some ⟨b, 0, none⟩), .agg #[.int .i64 o, .slice Aa a.length ca, .int .i64 n, .slice Ab nb cb]] w (RWent b fu N nn nc w (lightP names o a n f s)) := by
  have hbw := lt_heap h.blk
  have AZ := Lib.hid haz
  clear haz
  obtain ⟨W1, eW⟩ : ∃ W1, W1 = w.alloc (.cells #[.int .i64 o, .slice Aa a.length ca, .int .i64 n, .slice Ab nb cb] 61) := ⟨_, rfl⟩
  have hb1 : Below w.heap.size w W1 := by rw [eW]; exact (Below.refl _ _).alloc (Nat.le_refl _) _
  have q0 : W1.heap[w.heap.size]? = some (.cells #[.int .i64 o, .slice Aa a.length ca, .int .i64 n, .slice Ab nb cb] 61 (0, 0)) := by rw [eW]; exact heap_alloc_new w _
  have hw1 := hb1.size
  have hlt1 := lt_heap q0
  have d0 : W1.cell? ⟨w.heap.size, 0, none⟩ = some (.int .i64 o) := (cell_heap q0 0).trans rfl
  have X1 : Hid (∀ W, BelowX W1.heap.size b W1 W → W.cell? ⟨w.heap.size, 1, none⟩ = some (.slice Aa a.length ca) ∧ W.cell? ⟨w.heap.size, 2, none⟩ = some (.int .i64 n) ∧ W.cell? ⟨w.heap.size, 3, none⟩ = some (.slice Ab nb cb)) := Lib.hid fun W hW => by
    have := (hW.block _ hlt1 (by omega)).trans q0
    exact ⟨(cell_heap this 1).trans rfl, (cell_heap this 2).trans rfl, (cell_heap this 3).trans rfl⟩
  obtain ⟨x1, x2, x3⟩ := X1.out W1 (BelowX.refl _ _ _)
  have H1 : Hid (RAt W1 b fu N nn nc A c s) := Lib.hid (h.keep hb1)
  have WB := Lib.hid (fun W (hW : BelowX W1.heap.size b W1 W) => (BelowX.of hb1).trans (hW.mono hw1))
  have EN : Hid (∀ e W w', BelowX W1.heap.size b W1 W → RWent b fu N nn nc W (lightP names o a n f s) e w' → RWent b fu N nn nc w (lightP names o a n f s) e w') := Lib.hid fun e W w' hW hh => RWent.after (WB.out W hW) hh
  have AR : Hid (0 < a.length → ∃ ad, Aa = some ad ∧ (∀ W, BelowX W1.heap.size b W1 W → W.cell? ad = some (.string (bs (a.getD 0 []))))) := Lib.hid fun h0 => by
    obtain ⟨ad, e1, e2, e3, e4⟩ := word_at hargs rfl h0
    refine ⟨ad, e1, fun W hW => ?_⟩
    rw [show ad.add 0 = ad from rfl] at e4
    exact ((WB.out W hW).cell e3 e2).trans e4
  have AB : Hid (∀ ad, Aa = some ad → 0 < a.length → ad.block ≠ b) := Lib.hid fun ad e h0 => by
    obtain ⟨ad2, e1, e2, e3, e4⟩ := word_at hargs rfl h0
    rw [e] at e1
    cases e1
    exact e2
  have hq : RWent b fu N nn nc w (lightP names o a n f s) = RWent b fu N nn nc w (lightP names o a n f s) := rfl
  unfold StepR at hsr
  have hcases : (o = 6 ∧ a.length = 1) ∨ (o = 7 ∧ a.length = 1) ∨ (o = 8 ∧ a.length = 1) ∨ o = 9 ∨ (o = 10 ∧ a.length = 1) := by
    rcases hsr with h | h | h | h | h | h | h
    · omega
    · omega
    · omega
    · rcases h with ⟨h | h | h | h, h2, _⟩
      · omega
      · omega
      · exact .inl ⟨h, h2⟩
      · exact .inr (.inr (.inr (.inr ⟨h, h2⟩)))
    · exact .inr (.inl ⟨h.1, h.2.1⟩)
    · exact .inr (.inr (.inl ⟨h.1, h.2.1⟩))
    · exact .inr (.inr (.inr (.inl h.1)))
  have hb1k := Lib.hid (fun k => belowDN hb1 k)
  clear hsr hargs h q0 hb1 hq
  rcases hcases with ⟨rfl, ha⟩ | ⟨rfl, ha⟩ | ⟨rfl, ha⟩ | rfl | ⟨rfl, ha⟩
  · obtain ⟨ad, rfl, hx⟩ := AR.out (by omega)
    have L : Hid (lightP names 6 a n f s = { s with files := withoutF s.files (a.getD 0 []) }) := Lib.hid (by unfold lightP; rw [if_pos rfl])
    have i0 : (0 : Int) < (a.length : Int) := by omega
    have i1 : 0 < a.length := by omega
    have hR := hD.fine.files
    have hl32 := hR.len
    have SX : Hid (∀ W, Below W1.heap.size W1 W → W.cell? ⟨b, 0, none⟩ = some (.slice A s.files.length c) ∧ W.cell? ⟨w.heap.size, 1, none⟩ = some (.slice (some ad) a.length ca) ∧ W.cell? ad = some (.string (bs (a.getD 0 [])))) := Lib.hid fun W hW => ⟨(cell_heap (H1.out.keep hW).blk 0).trans rfl, (X1.out W (.of hW)).1, hx W (.of hW)⟩
    have WO : Hid (∀ W, Below W1.heap.size W1 W → Calls Tryz.prog 182 #[.slice A s.files.length c, .string (bs (a.getD 0 []))] W (Fs.FilesOwn (withoutF s.files (a.getD 0 [])) W)) := Lib.hid fun W hW => rwithout_any A s.files c (bs (a.getD 0 [])) W (H1.out.keep hW).flsr (by omega) (by rw [Fs.bs_len]; exact AZ.out)
    obtain ⟨y1, y2, y3⟩ := SX.out W1 (Below.refl _ _)
    have dA : Below W1.heap.size W1 W1.drew := (Below.refl _ _).drew
    have hbW : b < W1.heap.size := by omega
    clear ho6 AR ha hx
    generalize bs (a.getD 0 []) = q at *
    go_enter Tryz.func132, Tryz.ntmps132
    go_wp2_with (fail)
    rw [← eW]
    clear eW
    go_region_with (go_at_call 182; (with_reducible refine (WO.out _ dA).mono ?_); rintro e w2 ⟨v2, rfl, ho2, hb2⟩; have h2 : Below W1.heap.size W1 w2 := dA.trans (hb2.mono dA.size); have PT := Lib.hid (RAt.filed (H1.out.keep dA) hb2 ho2 hbW); obtain ⟨vA, vn, vc, rfl⟩ := own_form ho2; have c2 := (SX.out _ h2).1; have f2 : w2.frozen? ⟨b, 0, none⟩ = false := frozen_heap (H1.out.keep h2).blk 0; clear ho2)
    all_goals
      go_wp2_with (fail)
      go_end0
      refine EN.out _ W1 _ (BelowX.refl _ _ _) ⟨rfl, ?_, ((BelowX.of h2).setX (p := ⟨b, 0, none⟩) rfl _)⟩
      rw [L.out]
      exact PT.out
  · obtain ⟨ad, rfl, hx⟩ := AR.out (by omega)
    have hx0 := hx W1 (BelowX.refl _ _ _)
    have i0 : (0 : Int) < (a.length : Int) := by omega
    have i1 : 0 < a.length := by omega
    have hnz := hD.nml
    have hnl := hD.nmz
    have c10 : W1.cell? ⟨b, 1, none⟩ = some (.slice N nn nc) := (cell_heap H1.out.blk 1).trans rfl
    have c13 : W1.cell? ⟨b, 3, none⟩ = some (.int .i64 s.kind) := (cell_heap H1.out.blk 3).trans rfl
    have c15 : W1.cell? ⟨b, 5, none⟩ = some (.string (bs s.need)) := (cell_heap H1.out.blk 5).trans rfl
    have f13 := frozen_heap H1.out.blk 3
    have f15 := frozen_heap H1.out.blk 5
    have RDN : Hid (∀ W, Below W1.heap.size W1 W → Reads W W.heap.size 1 N nn (strV names)) := Lib.hid fun W hW => (hD.nms.mono (ok' := fun k => k ≠ b) (w' := W) (by decide) fun g hg hs => ⟨hg, (WB.out W (.of hW)).block g hs hg⟩).reads (by decide)
    have SX : Hid (∀ W, Below W1.heap.size W1 W → W.cell? ⟨b, 1, none⟩ = some (.slice N nn nc) ∧ W.cell? ⟨w.heap.size, 1, none⟩ = some (.slice (some ad) a.length ca) ∧ W.cell? ad = some (.string (bs (a.getD 0 [])))) := Lib.hid fun W hW => ⟨(cell_heap (H1.out.keep hW).blk 1).trans rfl, (X1.out W (.of hW)).1, hx W (.of hW)⟩
    have LY : Hid (a.getD 0 [] ∈ names → lightP names 7 a n f s = s) := Lib.hid fun hm => by unfold lightP; rw [if_neg (by decide), if_pos rfl, if_pos hm]
    have LN : Hid (a.getD 0 [] ∉ names → lightP names 7 a n f s = { s with kind := 2, need := a.getD 0 [] }) := Lib.hid fun hm => by unfold lightP; rw [if_neg (by decide), if_pos rfl, if_neg hm]
    clear ho6 AR hx ha hx0 c10 c13 c15 f13 f15
    generalize lightP names 7 a n f s = L at *
    generalize a.getD 0 [] = q at *
    go_enter Tryz.func132, Tryz.ntmps132
    go_wp2_with (fail)
    rw [← eW]
    clear eW d0 x1 x2 x3
    go_loopw [4] (fun i W => ∃ k : Nat, i = .int .i64 k ∧ k ≤ nn ∧ Hid (∀ j (hj : j < names.length), j < k → names[j] ≠ q) ∧ Below W1.heap.size W1 W) (fun i _ => nn - (intOf i).toNat)
    case atStart => exact ⟨0, rfl, Nat.zero_le _, Lib.hid (fun j _ h => by omega), Below.refl _ _⟩
    case round =>
      obtain ⟨k, rfl, hk, NO, hb⟩ := hrel
      obtain ⟨y0, y1, y2⟩ := SX.out wr hb
      by_cases hlt : k < nn
      · have hkI : (k : Int) < (nn : Int) := by omega
        obtain ⟨an, u, eN, han, hue, cu⟩ := (RDN.out wr hb).at_ hlt
        have hkn : k < names.length := by omega
        have hue' : u = .string (bs names[k]) := by
          rw [List.getElem?_map, List.getElem?_eq_getElem hkn] at hue
          exact (Option.some.inj hue).symm
        subst hue' eN
        have s0 := fun W (hW : Below wr.heap.size wr W) => (SX.out W (hb.trans (hW.mono hb.size))).1
        have s1 := fun W (hW : Below wr.heap.size wr W) => (SX.out W (hb.trans (hW.mono hb.size))).2.1
        have s2 := fun W (hW : Below wr.heap.size wr W) => (SX.out W (hb.trans (hW.mono hb.size))).2.2
        have s3 : ∀ W, Below wr.heap.size wr W → W.cell? (an.add k) = some (.string (bs names[k])) := fun W hW => (hW.cell (by rw [block_of_add]; exact han)).trans cu
        have HW := Lib.hid (fun W (hW : Below wr.heap.size wr W) => hb.trans (hW.mono hb.size))
        clear hue cu
        by_cases he : names[k] = q
        · have LL := Lib.hid (LY.out (by rw [← he]; exact List.getElem_mem hkn))
          have g : ((bs names[k]).toList == (bs q).toList) = true := by rw [he]; simp
          clear he LY LN
          generalize bs names[k] = z at *
          generalize bs q = y at *
          go_wp2_with (fail)
          refine wp_region_cls (C := fun w' => Below wr.heap.size wr w') (by kernel_rfl) (by kernel_rfl) (Below.refl _ _).drew ?_
          repeat (first | go_big_quiet_skip | quiet_step (first | (intro _; rfl) | (intro _; rw [if_neg (by omega)]; exact ⟨rfl, rfl⟩) | (intro hss; (first | rw [s0 _ hss] | rw [s1 _ hss] | rw [s2 _ hss] | rw [s3 _ hss]); exact ⟨rfl, rfl⟩)))
          refine wpQuiet_nil ?_
          intro w2 hb2
          go_wp2
          go_end0
          refine EN.out _ W1 _ (BelowX.refl _ _ _) ⟨rfl, ?_, .of (HW.out _ hb2)⟩
          rw [LL.out]
          exact ⟨A, c, H1.out.keep (HW.out _ hb2)⟩
        · have g : ((bs names[k]).toList == (bs q).toList) = false := Lg.s_ne fun e => he (congrArg tl e)
          have NX : Hid (∀ j (hj : j < names.length), j < k + 1 → names[j] ≠ q) := Lib.hid fun j hj hjk => by
            rcases Nat.lt_or_ge j k with h1 | h1
            · exact NO.out j hj h1
            · obtain rfl : j = k := by omega
              exact he
          clear he
          generalize bs names[k] = z at *
          obtain ⟨y, ey⟩ : ∃ y, y = bs q := ⟨_, rfl⟩
          rw [← ey] at s2 g
          clear ey
          go_wp2_with (fail)
          refine wp_region_cls (C := fun w' => Below wr.heap.size wr w') (by kernel_rfl) (by kernel_rfl) (Below.refl _ _).drew ?_
          repeat (first | go_big_quiet_skip | quiet_step (first | (intro _; rfl) | (intro _; rw [if_neg (by omega)]; exact ⟨rfl, rfl⟩) | (intro hss; (first | rw [s0 _ hss] | rw [s1 _ hss] | rw [s2 _ hss] | rw [s3 _ hss]); exact ⟨rfl, rfl⟩)))
          refine wpQuiet_nil ?_
          intro w2 hb2
          go_wp2_with (fail)
          go_roundw
          case rel => exact ⟨k + 1, by go_num, by omega, NX, HW.out _ hb2⟩
          case measure => simp [intOf]; omega
      · obtain rfl : k = nn := by omega
        have LL := Lib.hid (LN.out fun hm => by
          obtain ⟨j, hj, e⟩ := List.mem_iff_getElem.1 hm
          exact NO.out j hj (by omega) e)
        have HX := Lib.hid (H1.out.keep hb)
        have c13 : wr.cell? ⟨b, 3, none⟩ = some (.int .i64 s.kind) := (cell_heap HX.out.blk 3).trans rfl
        have c15 : wr.cell? ⟨b, 5, none⟩ = some (.string (bs s.need)) := (cell_heap HX.out.blk 5).trans rfl
        have f13 := frozen_heap HX.out.blk 3
        have f15 := frozen_heap HX.out.blk 5
        have hbw2 : w.heap.size ≠ b := by omega
        have hadb : ad.block ≠ b := AB.out ad rfl (by omega)
        have y3 : (wr.setCell ⟨b, 3, none⟩ (.int .i64 2)).cell? ad = some (.string (bs q)) := (World.cell?_of_block (heap_set_ne hadb.symm)).trans y2
        clear LY LN
        go_wp2_with (fail)
        go_end0
        refine EN.out _ W1 _ (BelowX.refl _ _ _) ⟨rfl, ?_, (((BelowX.of hb)).setX (p := ⟨b, 3, none⟩) rfl _).setX (p := ⟨b, 5, none⟩) rfl _⟩
        rw [LL.out]
        exact ⟨A, c, HX.out.set (s' := { s with kind := 2, need := q }) rfl ((heap_set (heap_set HX.out.blk)).trans rfl) (fun g hg => (heap_set_ne hg.symm).trans (heap_set_ne hg.symm))⟩
  · obtain ⟨ad, rfl, hx⟩ := AR.out (by omega)
    have hx0 := hx W1 (BelowX.refl _ _ _)
    have L : Hid (lightP names 8 a n f s = fail 33 (a.getD 0 []) s) := Lib.hid (by unfold lightP; rw [if_neg (by decide), if_neg (by decide), if_pos rfl])
    have FA := Lib.hid (rfail_any H1.out 33 (a.getD 0 []))
    have i0 : (0 : Int) < (a.length : Int) := by omega
    have i1 : 0 < a.length := by omega
    clear ho6 AR hx ha
    rw [eW] at hx0
    generalize a.getD 0 [] = q at *
    go_enter Tryz.func132, Tryz.ntmps132
    go_wp2_with (go_at_call 180; rw [← eW]; clear eW; (with_reducible refine (FA.out).mono ?_); rintro e w2 ⟨rfl, h2, h3⟩)
    go_end0
    exact EN.out _ W1 _ (BelowX.refl _ _ _) ⟨rfl, by rw [L.out]; exact h2, h3⟩
  · have L : Hid (lightP names 9 a n f s = loopF f n.toNat s) := Lib.hid (by unfold lightP; rw [if_neg (by decide), if_neg (by decide), if_neg (by decide), if_pos rfl])
    rw [eW] at d0 x2
    have FU := Lib.hid hD.fine
    have US := Lib.hid hD.used
    have ON := Lib.hid hD.on
    have FAIR := Lib.hid hD.fair
    have KEEP := Lib.hid hD.keep
    have BLK := Lib.hid (fun W s' (hW : BelowX W1.heap.size b W1 W) => hD.blk W s' (WB.out W hW))
    have EN2 : Hid (∀ e W, RM W b fu N nn nc (loopF f n.toNat s) → BelowX W1.heap.size b W1 W → e = .returned (.tuple #[]) → RWent b fu N nn nc w (lightP names 9 a n f s) e W) := Lib.hid fun e W h1 h2 h3 => EN.out _ W1 _ (BelowX.refl _ _ _) ⟨h3, by rw [L.out]; exact h1, h2⟩
    have ST0 := Lib.hid (cont_on (f := f) (m := n.toNat) hD.on)
    clear ho6 AR hD EN L
    generalize RWent b fu N nn nc w (lightP names 9 a n f s) = Q at *
    go_enter Tryz.func132, Tryz.ntmps132
    go_wp2_with (fail)
    rw [← eW]
    clear eW x1 x2 x3 d0
    go_loopw [5] (fun i W => ∃ (k : Nat) (s' : St), i = .int .i64 k ∧ k ≤ n.toNat ∧ Hid (loopF f n.toNat s = contF f (n.toNat - k) s') ∧ Hid (Fine (fun _ => True) s' ∧ s'.used ≤ fu) ∧ Hid (RM W b fu N nn nc s') ∧ BelowX W1.heap.size b W1 W) (fun i _ => n.toNat - (intOf i).toNat)
    case atStart => exact ⟨0, s, rfl, by omega, Lib.hid ST0.out.symm, Lib.hid ⟨FU.out, US.out⟩, Lib.hid ⟨A, c, H1.out⟩, BelowX.refl _ _ _⟩
    case round =>
      obtain ⟨k, s', rfl, hk, RE, SF, SM, hb⟩ := hrel
      obtain ⟨x1', x2', x3'⟩ := X1.out wr hb
      by_cases hlt : k < n.toNat
      · have hkI : (k : Int) < n := by omega
        obtain ⟨A3, c3, hst⟩ := SM.out
        have k3 : wr.cell? ⟨b, 3, none⟩ = some (.int .i64 s'.kind) := (cell_heap hst.blk 3).trans rfl
        clear hst
        cases hov : over s' with
        | true =>
          have F : Hid (loopF f n.toNat s = s') := Lib.hid (by rw [RE.out, cont_over hov])
          have n1 : ((s'.kind : Int) == 0) = false := by have := kind_over hov; simpa using this
          have n2 : ¬ (s'.kind : Int) = 0 := by have := kind_over hov; omega
          clear hov
          go_wp2_with (fail)
          go_end0
          exact EN2.out _ _ (by rw [F.out]; exact SM.out) hb rfl
        | false =>
          have AL := Lib.hid (BLK.out wr s' hb SM.out SF.out.1 hov SF.out.2)
          have FK := Lib.hid (KEEP.out s' SF.out.1 hov)
          have UK := Lib.hid (FAIR.out.used s' SF.out.2)
          have F : Hid (loopF f n.toNat s = contF f (n.toNat - (k + 1)) (f s')) := Lib.hid (by rw [RE.out, show n.toNat - k = (n.toNat - (k + 1)) + 1 by omega, cont_step hov])
          have hk0 := kind_on hov
          rw [hk0] at k3
          clear hov hk0
          go_wp2_with (go_at_call 34; (with_reducible refine (AL.out).mono ?_); rintro e w2 ⟨rfl, h2, h3⟩; have SM2 := Lib.hid h2; clear h2)
          go_roundw
          case rel => exact ⟨k + 1, f s', by go_num, by omega, F, Lib.hid ⟨FK.out, UK.out.2⟩, SM2, hb.trans (h3.mono hb.size)⟩
          case measure => simp [intOf]; omega
      · obtain rfl : k = n.toNat := by omega
        have hkI : ¬ ((n.toNat : Int) < n) := by omega
        have F : Hid (loopF f n.toNat s = s') := Lib.hid (by rw [RE.out, Nat.sub_self, cont_zero])
        go_wp2_with (fail)
        go_end0
        exact EN2.out _ _ (by rw [F.out]; exact SM.out) hb rfl
  · obtain ⟨ad, rfl, hx⟩ := AR.out (by omega)
    have i0 : (0 : Int) < (a.length : Int) := by omega
    have i1 : 0 < a.length := by omega
    have hl32 := hD.fine.files.len
    have SX : Hid (∀ W, Below W1.heap.size W1 W → W.cell? ⟨b, 0, none⟩ = some (.slice A s.files.length c) ∧ W.cell? ⟨w.heap.size, 1, none⟩ = some (.slice (some ad) a.length ca) ∧ W.cell? ad = some (.string (bs (a.getD 0 [])))) := Lib.hid fun W hW => ⟨(cell_heap (H1.out.keep hW).blk 0).trans rfl, (X1.out W (.of hW)).1, hx W (.of hW)⟩
    have GE : Hid (∀ W, Below W1.heap.size W1 W → Calls Tryz.prog 181 #[.slice A s.files.length c, .string (bs (a.getD 0 []))] W (Fs.GetSays s.files (a.getD 0 []) W)) := Lib.hid fun W hW => Fs.rget_any A s.files c (bs (a.getD 0 [])) W (H1.out.keep hW).flsr (by omega)
    have BLK := Lib.hid (fun W s' (hW : BelowX W1.heap.size b W1 W) => hD.blk W s' (WB.out W hW))
    have ST := Lib.hid (And.intro hD.fine (And.intro hD.on hD.used))
    have s0 := fun W hW => (SX.out W hW).1
    have s1 := fun W hW => (SX.out W hW).2.1
    have s2 := fun W hW => (SX.out W hW).2.2
    cases hg : Fs.get s.files (a.getD 0 []) with
    | none =>
      have L : Hid (lightP names 10 a n f s = s) := Lib.hid (by unfold lightP; rw [if_neg (by decide), if_neg (by decide), if_neg (by decide), if_neg (by decide), if_pos rfl, if_neg (by rw [hg]; simp)])
      have G2 : Hid (∀ W, Below W1.heap.size W1 W → Calls Tryz.prog 181 #[.slice A s.files.length c, .string (bs (a.getD 0 []))] W fun e w' => e = .returned (.tuple #[.string ⟨#[]⟩, .bool false]) ∧ Below W.heap.size W w') := Lib.hid fun W hW => (GE.out W hW).mono fun e w' hh => by
        unfold Fs.GetSays at hh
        rw [hg] at hh
        exact hh
      clear ho6 AR hx ha hg GE BLK ST
      generalize a.getD 0 [] = q at *
      go_enter Tryz.func132, Tryz.ntmps132
      go_wp2_with (fail)
      rw [← eW]
      clear eW
      refine wp_region_cls (C := fun w' => Below W1.heap.size W1 w') (by kernel_rfl) (by kernel_rfl) (Below.refl _ _).drew ?_
      repeat (first | go_big_quiet_skip | quiet_step (first | (intro _; rfl) | (intro _; rw [if_neg (by omega)]; exact ⟨rfl, rfl⟩) | (intro hss; (first | rw [s0 _ hss] | rw [s1 _ hss] | rw [s2 _ hss]); exact ⟨rfl, rfl⟩) | (intro hss; go_at_call 181; (with_reducible refine (G2.out _ hss).mono ?_); rintro e w4 ⟨rfl, hb4⟩; exact ⟨rfl, hss.trans (hb4.mono hss.size)⟩)))
      refine wpQuiet_nil ?_
      intro w2 hb2
      go_wp2
      go_end0
      refine EN.out _ W1 _ (BelowX.refl _ _ _) ⟨rfl, ?_, .of hb2⟩
      rw [L.out]
      exact ⟨A, c, H1.out.keep hb2⟩
    | some d =>
      have L : Hid (lightP names 10 a n f s = f s) := Lib.hid (by unfold lightP; rw [if_neg (by decide), if_neg (by decide), if_neg (by decide), if_neg (by decide), if_pos rfl, if_pos (by rw [hg]; simp)])
      have G2 : Hid (∀ W, Below W1.heap.size W1 W → Calls Tryz.prog 181 #[.slice A s.files.length c, .string (bs (a.getD 0 []))] W fun e w' => e = .returned (.tuple #[.string d, .bool true]) ∧ Below W.heap.size W w') := Lib.hid fun W hW => (GE.out W hW).mono fun e w' hh => by
        unfold Fs.GetSays at hh
        rw [hg] at hh
        exact hh
      clear ho6 AR hx ha hg GE
      generalize a.getD 0 [] = q at *
      go_enter Tryz.func132, Tryz.ntmps132
      go_wp2_with (fail)
      rw [← eW]
      clear eW
      refine wp_region_cls (C := fun w' => Below W1.heap.size W1 w') (by kernel_rfl) (by kernel_rfl) (Below.refl _ _).drew ?_
      repeat (first | go_big_quiet_skip | quiet_step (first | (intro _; rfl) | (intro _; rw [if_neg (by omega)]; exact ⟨rfl, rfl⟩) | (intro hss; (first | rw [s0 _ hss] | rw [s1 _ hss] | rw [s2 _ hss]); exact ⟨rfl, rfl⟩) | (intro hss; go_at_call 181; (with_reducible refine (G2.out _ hss).mono ?_); rintro e w4 ⟨rfl, hb4⟩; exact ⟨rfl, hss.trans (hb4.mono hss.size)⟩)))
      refine wpQuiet_nil ?_
      intro w2 hb2
      obtain ⟨x1', x2', x3'⟩ := X1.out w2 (.of hb2)
      have AL := Lib.hid (BLK.out w2 s (.of hb2) ⟨A, c, H1.out.keep hb2⟩ ST.out.1 ST.out.2.1 ST.out.2.2)
      go_wp2_with (go_at_call 34; (with_reducible refine (AL.out).mono ?_); rintro e w3 ⟨rfl, h3, h4⟩)
      go_end0
      exact EN.out _ w2 _ (.of hb2) ⟨rfl, by rw [L.out]; exact h3, h4⟩
end Go.Proofs.YtdidnlkilleljaaGreatDoor.Bx
/- RxWrite, what a claim needs of it (prune.py). -/
namespace Go.Proofs.YtdidnlkilleljaaGreatDoor.Bx
open Go.RowKit
open Lg (BelowX Lies strV)
open Fs (fc fc_len fc_cell Fls B)
set_option linter.unusedVariables false
set_option maxRecDepth 100000
set_option maxHeartbeats 4000000 in
theorem rwrite_any {w : World} {b fu : Nat} {N A : Option Addr} {nn nc c : Nat} {s : St} (h : RAt w b fu N nn nc A c s) (hR : RightF s.files) (hu : s.used ≤ fu) (hfu : fu ≤ 2000) (p m : B) (hp : p.length ≤ 1000000) (hml : m.length ≤ 40000) :
    Calls Tryz.prog 127 #[.pointer (some ⟨b, 0, none⟩), .string (bs p), .string (bs m)] w (RWent b fu N nn nc w (spend fu (1 + (m.length + 63) / 64) (lay withF p m) s)) := by
  have hbw := lt_heap h.blk
  have hz0 := Fs.bs_len m
  have hz1 : (bs m).size ≤ m.length := by omega
  have hz2 : m.length ≤ (bs m).size := by omega
  have hz3 : (bs m).size ≤ 40000 := by omega
  have hpz : (bs p).size ≤ 1000000 := by rw [Fs.bs_len]; omega
  clear hz0
  obtain ⟨M, hM⟩ : ∃ M, M = bs m := ⟨_, rfl⟩
  rw [← hM] at hz1 hz2 hz3 ⊢
  have hq : ∀ q : Int, q = 1 + ((M.size : Int) + 63) / 64 → q = ((1 + (m.length + 63) / 64 : Nat) : Int) := fun q h => by omega
  have HQ := Lib.hid hq
  have hlen := hR.len
  clear hq
  by_cases hn : fu < s.used + (1 + (m.length + 63) / 64)
  · have SP : Hid (Calls Tryz.prog 131 #[.pointer (some ⟨b, 0, none⟩), .int .i64 (1 + ((M.size : Int) + 63) / 64)] w (RSpent b fu N nn nc w (dry fu s) false)) := Lib.hid (by
      rw [HQ.out _ rfl]
      exact rspend_no h _ hn hu hfu (by omega))
    have E2 : Hid (∀ w', RM w' b fu N nn nc (dry fu s) → BelowX w.heap.size b w w' → RWent b fu N nn nc w (spend fu (1 + (m.length + 63) / 64) (lay withF p m) s) (.returned (.tuple #[])) w') := Lib.hid fun w' h1 h2 => by
      unfold spend
      rw [if_pos hn]
      exact ⟨rfl, h1, h2⟩
    clear hn hM h hR
    generalize RWent b fu N nn nc w (spend fu (1 + (m.length + 63) / 64) (lay withF p m) s) = Q at *
    go_enter Tryz.func127, Tryz.ntmps127
    go_wp2_with (go_at_call 131; (with_reducible refine (SP.out).mono ?_); rintro e w4 ⟨rfl, h4, h5⟩)
    go_end0
    exact E2.out _ h4 h5
  · have SP : Hid (Calls Tryz.prog 131 #[.pointer (some ⟨b, 0, none⟩), .int .i64 (1 + ((M.size : Int) + 63) / 64)] w (RSpent b fu N nn nc w { s with used := s.used + (1 + (m.length + 63) / 64) } true)) := Lib.hid (by
      rw [HQ.out _ rfl]
      exact rspend_yes h _ hn hfu)
    have E2 : Hid (∀ W2, BelowX w.heap.size b w W2 → ∀ e w', RWent b fu N nn nc W2 (lay withF p m { s with used := s.used + (1 + (m.length + 63) / 64) }) e w' → RWent b fu N nn nc w (spend fu (1 + (m.length + 63) / 64) (lay withF p m) s) e w') := Lib.hid fun W2 hX e w' h1 => by
      unfold spend
      rw [if_neg hn]
      exact RWent.after hX h1
    have FZ : Hid (∀ g ∈ s.files, g.p.size ≤ 1000000000) := Lib.hid fun g hg => by have := path_size (hR.each g hg).1; omega
    obtain ⟨s1, hs1⟩ : ∃ s1 : St, s1 = { s with used := s.used + (1 + (m.length + 63) / 64) } := ⟨_, rfl⟩
    have hsf : s1.files = s.files := by rw [hs1]
    rw [← hs1] at SP E2
    have WI : Hid (∀ W A1 c1, RAt W b fu N nn nc A1 c1 s1 → Calls Tryz.prog 179 #[.slice A1 s.files.length c1, .agg #[.string (bs p), .string M]] W fun e w' => ∃ v', e = .returned (.tuple #[v', .int .i64 (withF s.files p m).2]) ∧ w'.ownsRow W.heap.size 49 2 v' (withF s.files p m).1.length (fc (withF s.files p m).1) ∧ Below W.heap.size W w') := Lib.hid fun W A1 c1 hst => by
      have hfl := hst.flsr
      have hcap := hst.cap
      rw [hsf] at hfl hcap
      have := rwith_any A1 s.files c1 ⟨bs p, M⟩ W hfl hcap (by omega) FZ.out (by show (bs p).size ≤ _; omega) (by show M.size ≤ _; omega)
      rw [hM] at this ⊢
      exact this
    have CF : Hid (∀ W A1 c1, RAt W b fu N nn nc A1 c1 s1 → W.cell? ⟨b, 0, none⟩ = some (.slice A1 s.files.length c1)) := Lib.hid fun W A1 c1 hst => (cell_heap hst.blk 0).trans (show some (Value.slice A1 s1.files.length c1) = some (.slice A1 s.files.length c1) by rw [hsf])
    clear hn hM hs1 hR h
    generalize RWent b fu N nn nc w (spend fu (1 + (m.length + 63) / 64) (lay withF p m) s) = Q at *
    by_cases he : (withF s.files p m).2 = 0
    · have LAY : Hid (lay withF p m s1 = { s1 with files := (withF s.files p m).1 }) := Lib.hid (by
        unfold lay
        rw [hsf, if_neg (by simp [he])])
      rw [he] at WI
      clear he hsf
      generalize (withF s.files p m).1 = ms at *
      go_enter Tryz.func127, Tryz.ntmps127
      go_wp2_with (first
        | (go_at_call 131; (with_reducible refine (SP.out).mono ?_); rintro e w4 ⟨rfl, ⟨A4, c4, h4⟩, h5⟩; have H4 := Lib.hid h4; have c40 := CF.out _ _ _ h4; have hb4 := lt_heap h4.blk; have W4 := Lib.hid (WI.out _ _ _ h4); clear h4)
        | (go_at_call 179; (with_reducible refine (W4.out).mono ?_); rintro e w5 ⟨v5, rfl, ho5, h6⟩; have PT := Lib.hid (RAt.filed H4.out h6 ho5 hb4); obtain ⟨vA, vn, vc, rfl⟩ := own_form ho5; have c50 : w5.cell? ⟨b, 0, none⟩ = some (.slice A4 s.files.length c4) := (h6.cell (p := ⟨b, 0, none⟩) hb4).trans c40; have f50 : w5.frozen? ⟨b, 0, none⟩ = false := frozen_heap (heap_below h6 hb4 H4.out.blk) 0; clear ho5))
      go_end0
      refine E2.out _ h5 _ _ ⟨rfl, ?_, ((BelowX.of h6).setX (p := ⟨b, 0, none⟩) rfl _)⟩
      rw [LAY.out]
      exact PT.out
    · have LAY : Hid (lay withF p m s1 = fail (withF s.files p m).2 p s1) := Lib.hid (by
        unfold lay
        rw [hsf, if_pos he])
      clear hsf
      generalize (withF s.files p m).2 = er at *
      have he2 : (er != 0) = true := by simpa using he
      go_enter Tryz.func127, Tryz.ntmps127
      go_wp2_with (first
        | (go_at_call 131; (with_reducible refine (SP.out).mono ?_); rintro e w4 ⟨rfl, ⟨A4, c4, h4⟩, h5⟩; have H4 := Lib.hid h4; have c40 := CF.out _ _ _ h4; have hb4 := lt_heap h4.blk; have W4 := Lib.hid (WI.out _ _ _ h4); clear h4)
        | (go_at_call 179; (with_reducible refine (W4.out).mono ?_); rintro e w5 ⟨v5, rfl, ho5, h6⟩; have FA := Lib.hid (rfail_any (H4.out.keep h6) er p); clear ho5)
        | (go_at_call 180; (with_reducible refine (FA.out).mono ?_); rintro e w6 ⟨rfl, h7, h8⟩))
      go_end0
      refine E2.out _ h5 _ _ (RWent.after (.of h6) ⟨rfl, ?_, h8⟩)
      rw [LAY.out]
      exact h7
theorem rread_some {w : World} {b fu : Nat} {N A : Option Addr} {nn nc c : Nat} {s : St} (h : RAt w b fu N nn nc A c s) (hR : RightF s.files) (q : B) {d : ByteArray} (hg : Fs.get s.files q = some d) :
    Calls Tryz.prog 128 #[.pointer (some ⟨b, 0, none⟩), .string (bs q)] w fun e w' => e = .returned (.tuple #[.string d, .bool true]) ∧ Below w.heap.size w w' := by
  have hlen := hR.len
  have c0 : w.cell? ⟨b, 0, none⟩ = some (.slice A s.files.length c) := (cell_heap h.blk 0).trans rfl
  have GE : Hid (Calls Tryz.prog 181 #[.slice A s.files.length c, .string (bs q)] w fun e w' => e = .returned (.tuple #[.string d, .bool true]) ∧ Below w.heap.size w w') := Lib.hid ((Fs.rget_any A s.files c (bs q) w h.flsr (by omega)).mono fun e w' hh => by
    unfold Fs.GetSays at hh
    have hh2 : Fs.get s.files (tl (bs q)) = some d := hg
    rw [hh2] at hh
    exact hh)
  clear h hR hg hlen
  go_enter Tryz.func128, Tryz.ntmps128
  go_wp2_with (go_at_call 181; (with_reducible refine (GE.out).mono ?_); rintro e w2 ⟨rfl, hb2⟩)
  go_ret2
  exact ⟨rfl, hb2⟩
def RNone (b fu : Nat) (N : Option Addr) (nn nc : Nat) (w : World) (s' : St) (e : Ending) (w' : World) : Prop := e = .returned (.tuple #[.string ⟨#[]⟩, .bool false]) ∧ RM w' b fu N nn nc s' ∧ BelowX w.heap.size b w w'
theorem rread_none {w : World} {b fu : Nat} {N A : Option Addr} {nn nc c : Nat} {s : St} (h : RAt w b fu N nn nc A c s) (hR : RightF s.files) (hu : s.used ≤ fu) (hfu : fu ≤ 2000) (q : B) (hg : Fs.get s.files q = none) :
    Calls Tryz.prog 128 #[.pointer (some ⟨b, 0, none⟩), .string (bs q)] w (RNone b fu N nn nc w (spend fu 1 (fail 17 q) s)) := by
  have hlen := hR.len
  have HS := Lib.hid (fun W (hW : Below w.heap.size w W) => h.keep hW)
  have c0 : w.cell? ⟨b, 0, none⟩ = some (.slice A s.files.length c) := (cell_heap h.blk 0).trans rfl
  have GE : Hid (Calls Tryz.prog 181 #[.slice A s.files.length c, .string (bs q)] w fun e w' => e = .returned (.tuple #[.string ⟨#[]⟩, .bool false]) ∧ Below w.heap.size w w') := Lib.hid ((Fs.rget_any A s.files c (bs q) w h.flsr (by omega)).mono fun e w' hh => by
    unfold Fs.GetSays at hh
    have hh2 : Fs.get s.files (tl (bs q)) = none := hg
    rw [hh2] at hh
    exact hh)
  clear h hR hg hlen
  by_cases hn : fu < s.used + 1
  · have SP : Hid (∀ W, Below w.heap.size w W → Calls Tryz.prog 131 #[.pointer (some ⟨b, 0, none⟩), .int .i64 1] W (RSpent b fu N nn nc W (dry fu s) false)) := Lib.hid fun W hW => rspend_no (HS.out W hW) 1 hn hu hfu (by omega)
    have E2 : Hid (∀ W, Below w.heap.size w W → ∀ w', RM w' b fu N nn nc (dry fu s) → BelowX W.heap.size b W w' → RNone b fu N nn nc w (spend fu 1 (fail 17 q) s) (.returned (.tuple #[.string ⟨#[]⟩, .bool false])) w') := Lib.hid fun W hW w' h1 h2 => by
      unfold spend
      rw [if_pos hn]
      exact ⟨rfl, h1, (BelowX.of hW).trans (h2.mono hW.size)⟩
    clear hn HS
    generalize RNone b fu N nn nc w (spend fu 1 (fail 17 q) s) = Q at *
    go_enter Tryz.func128, Tryz.ntmps128
    go_wp2_with (first
      | (go_at_call 181; (with_reducible refine (GE.out).mono ?_); rintro e w2 ⟨rfl, h2⟩)
      | (go_at_call 131; (with_reducible refine (SP.out _ h2).mono ?_); rintro e w3 ⟨rfl, h3, h4⟩))
    exact E2.out _ h2 _ h3 h4
  · have SP : Hid (∀ W, Below w.heap.size w W → Calls Tryz.prog 131 #[.pointer (some ⟨b, 0, none⟩), .int .i64 1] W (RSpent b fu N nn nc W { s with used := s.used + 1 } true)) := Lib.hid fun W hW => rspend_yes (HS.out W hW) 1 hn hfu
    have E2 : Hid (∀ W, Below w.heap.size w W → ∀ W2, BelowX W.heap.size b W W2 → ∀ w', RM w' b fu N nn nc (fail 17 q { s with used := s.used + 1 }) → BelowX W2.heap.size b W2 w' → RNone b fu N nn nc w (spend fu 1 (fail 17 q) s) (.returned (.tuple #[.string ⟨#[]⟩, .bool false])) w') := Lib.hid fun W hW W2 hX w' h1 h2 => by
      unfold spend
      rw [if_neg hn]
      exact ⟨rfl, h1, (BelowX.of hW).trans ((hX.trans (h2.mono hX.size)).mono hW.size)⟩
    clear hn HS
    generalize RNone b fu N nn nc w (spend fu 1 (fail 17 q) s) = Q at *
    go_enter Tryz.func128, Tryz.ntmps128
    go_wp2_with (first
      | (go_at_call 181; (with_reducible refine (GE.out).mono ?_); rintro e w2 ⟨rfl, h2⟩)
      | (go_at_call 131; (with_reducible refine (SP.out _ h2).mono ?_); rintro e w3 ⟨rfl, h3, h4⟩; obtain ⟨A3, c3, h3⟩ := h3; have FA := Lib.hid (rfail_any h3 17 q); clear h3)
      | (go_at_call 180; (with_reducible refine (FA.out).mono ?_); rintro e w4 ⟨rfl, h5, h6⟩))
    exact E2.out _ h2 _ h4 _ h5 h6
end Go.Proofs.YtdidnlkilleljaaGreatDoor.Bx
/- BxSort, what a claim needs of it (prune.py). -/
namespace Go.Proofs.YtdidnlkilleljaaGreatDoor.Bx
open Fs (B)
set_option linter.unusedVariables false
def upC (c : UInt8) : UInt8 := if 97 ≤ c.toNat ∧ c.toNat ≤ 122 then c - 32 else c
def upB (s : B) : B := s.map upC
theorem upB_len (s : B) : (upB s).length = s.length := List.length_map ..
def trim (s : B) : B := if s.getLast? = some 10 then s.dropLast else s
def linesB (s : B) : List B := if s = [] then [] else (Lg.splitB 10 (trim s)).map (· ++ [10])
def sortL (l : List B) : List B := l.mergeSort fun x y => decide (x ≤ y)
def soB (s : B) : B := (sortL (linesB s)).flatten
theorem flat_join : ∀ {l : List B}, l ≠ [] → (l.map (· ++ [10])).flatten = Lg.joinB 10 l ++ [10]
  | [], h => absurd rfl h
  | [a], _ => by simp [Lg.joinB]
  | a :: b :: l, _ => by
    have := flat_join (l := b :: l) (by simp)
    rw [List.map_cons, List.flatten_cons, this, Lg.joinB]
    simp
theorem trim_add (s : B) : trim (s ++ [10]) = s := by
  unfold trim
  rw [if_pos (by simp)]
  simp
def full (s : B) : B := if s = [] then [] else trim s ++ [10]
theorem lines_flat (s : B) : (linesB s).flatten = full s := by
  unfold linesB full
  by_cases h : s = []
  · rw [if_pos h, if_pos h]; rfl
  · rw [if_neg h, if_neg h, flat_join (Lg.splitB_ne _ _), Lg.join_split]
theorem full_eq {s : B} : full s = if s = [] then [] else if s.getLast? = some 10 then s else s ++ [10] := by
  unfold full trim
  by_cases h : s = []
  · rw [if_pos h, if_pos h]
  · rw [if_neg h, if_neg h]
    by_cases h2 : s.getLast? = some 10
    · rw [if_pos h2, if_pos h2]
      have h3 : s.getLast h = 10 := by rw [List.getLast?_eq_some_getLast h] at h2; exact Option.some.inj h2
      rw [← h3]
      exact List.dropLast_concat_getLast h
    · rw [if_neg h2, if_neg h2]
theorem so_perm (s : B) : (soB s).Perm (full s) := by
  rw [← lines_flat]
  exact (List.mergeSort_perm _ _).flatten
theorem so_len (s : B) : (soB s).length = (full s).length := (so_perm s).length_eq
theorem sort_rises (l : List B) : (sortL l).Pairwise (· ≤ ·) := Fs.sorted_pair l
end Go.Proofs.YtdidnlkilleljaaGreatDoor.Bx
