/- Joined by mkmerged.py: RxStep, BxAll. -/
import Derived.Test.YtdidnlkilleljaaGreatDoorMg33
import Derived.Test.YtdidnlkilleljaaGreatDoorMg34
import Derived.Test.YtdidnlkilleljaaGreatDoorMg35
import Derived.Test.YtdidnlkilleljaaGreatDoorMg36
import Derived.StillTailTactics
/- RxStep, what a claim needs of it (prune.py). -/
namespace Go.Proofs.YtdidnlkilleljaaGreatDoor.Bx
open Go.RowKit
open Lg (BelowX Lies strV)
open Fs (fc fc_len fc_cell Fls B)
set_option linter.unusedVariables false
set_option maxRecDepth 100000
theorem writes_none {fu : Nat} {t q : B} {mk : B → B} {s : St} (h : Fs.get s.files q = none) : writes fu withF t [q] mk s = spend fu 1 (fail 17 q) s := by
  unfold writes
  rw [reads, h]
theorem writes_some {fu : Nat} {t q : B} {mk : B → B} {s : St} {d : ByteArray} (h : Fs.get s.files q = some d) : writes fu withF t [q] mk s = spend fu (1 + ((mk (tl d)).length + 63) / 64) (lay withF t (mk (tl d))) s := by
  unfold writes
  rw [reads, h]
  rfl
theorem writes_none1 {fu : Nat} {t : B} {a : List B} {mk : B → B} {s : St} (ha : a.length = 1) (h : Fs.get s.files (a.getD 0 []) = none) : writes fu withF t a mk s = spend fu 1 (fail 17 (a.getD 0 [])) s := by
  match a, ha with
  | [x], _ => exact writes_none h
theorem writes_some1 {fu : Nat} {t : B} {a : List B} {mk : B → B} {s : St} {d : ByteArray} (ha : a.length = 1) (h : Fs.get s.files (a.getD 0 []) = some d) : writes fu withF t a mk s = spend fu (1 + ((mk (tl d)).length + 63) / 64) (lay withF t (mk (tl d))) s := by
  match a, ha with
  | [x], _ => exact writes_some h
theorem take_one {a : List B} (h : 0 < a.length) : a.take 1 = [a.getD 0 []] := by
  match a, h with
  | x :: r, _ => rfl
theorem RDoing.go {w W : World} {b fu : Nat} {N : Option Addr} {nn nc : Nat} {names : List B} {s s' : St} {Ab : Option Addr} {nb cb : Nat} {f : St → St} (h : RDoing w b fu N nn nc names s Ab nb cb f) (hX : BelowX w.heap.size b w W) (h1 : Fine (fun _ => True) s') (h2 : over s' = false) (h3 : s'.used ≤ fu) : RDoing W b fu N nn nc names s' Ab nb cb f :=
  ⟨h.env.onX hX, h1, h2, h3, h.fu1, h.fu2, h.nms.mono (by decide) fun k hk hs => ⟨hk, hX.block k hs hk⟩, h.nml, h.nmz, fun V s'' hV => h.blk V s'' (hX.trans (hV.mono hX.size)), h.fair, h.keep⟩
set_option maxHeartbeats 8000000 in
theorem rstep_any {w : World} {b fu : Nat} {N A : Option Addr} {nn nc c : Nat} {names : List B} {s : St} {Ab : Option Addr} {nb cb : Nat} {f : St → St} (hD : RDoing w b fu N nn nc names s Ab nb cb f) (h : RAt w b fu N nn nc A c s)
    (o n : Int) (a : List B) (Aa : Option Addr) (ca : Nat) (hargs : Lies w (fun k => k ≠ b) 1 Aa a.length (strV a)) (hca : a.length ≤ ca) (hsr : StepR o a) (hn63 : n ≤ 9223372036854775807) :
    Calls Tryz.prog 73 #[.pointer (some ⟨b, 0, none⟩), .agg #[.int .i64 o, .slice Aa a.length ca, .int .i64 n, .slice Ab nb cb]] w (RWent b fu N nn nc w (does fu withF withoutF names upB soB o a n f s)) := by
  have hbw := lt_heap h.blk
  obtain ⟨W1, eW1⟩ : ∃ W1, W1 = w.alloc (.cells #[.int .i64 o, .slice Aa a.length ca, .int .i64 n, .slice Ab nb cb] 61) := ⟨_, rfl⟩
  have hb1 : Below w.heap.size w W1 := by rw [eW1]; exact (Below.refl _ _).alloc (Nat.le_refl _) _
  have hz1 : W1.heap.size = w.heap.size + 1 := by rw [eW1]; simp
  have q1 : W1.heap[w.heap.size]? = some (.cells #[.int .i64 o, .slice Aa a.length ca, .int .i64 n, .slice Ab nb cb] 61 (0, 0)) := by rw [eW1]; exact heap_alloc_new w _
  have H1 : Hid (∀ W, Below W1.heap.size W1 W → RAt W b fu N nn nc A c s) := Lib.hid fun W hW => h.keep (hb1.trans (hW.mono hb1.size))
  have Y0 : Hid (∀ W, BelowX W1.heap.size b W1 W → W.cell? ⟨w.heap.size, 0, none⟩ = some (.int .i64 o) ∧ W.cell? ⟨w.heap.size, 1, none⟩ = some (.slice Aa a.length ca) ∧ W.cell? ⟨w.heap.size, 2, none⟩ = some (.int .i64 n) ∧ W.cell? ⟨w.heap.size, 3, none⟩ = some (.slice Ab nb cb)) := Lib.hid fun W hW => by
    have e1 := (hW.block w.heap.size (by omega) (by omega)).trans q1
    exact ⟨(cell_heap e1 0).trans rfl, (cell_heap e1 1).trans rfl, (cell_heap e1 2).trans rfl, (cell_heap e1 3).trans rfl⟩
  have WB := Lib.hid (fun W (hW : BelowX W1.heap.size b W1 W) => (BelowX.of hb1).trans (hW.mono hb1.size))
  have WENT := Lib.hid (fun (t : St) e W w' (hW : BelowX W1.heap.size b W1 W) (hh : RWent b fu N nn nc W t e w') => RWent.after (WB.out W hW) hh)
  have AR : Hid (0 < a.length → ∃ ad, Aa = some ad ∧ ∀ k, k < a.length → ∀ W, BelowX W1.heap.size b W1 W → W.cell? (ad.add k) = some (.string (bs (a.getD k [])))) := Lib.hid fun h0 => by
    obtain ⟨ad, e1, e2, e3, _⟩ := word_at hargs rfl h0
    refine ⟨ad, e1, fun k hk W hW => ?_⟩
    obtain ⟨ad', f1, f2, f3, f4⟩ := word_at hargs rfl hk
    rw [e1] at f1
    cases f1
    exact ((WB.out W hW).cell (p := ad.add k) (by rw [block_of_add]; exact e3) (by rw [block_of_add]; exact e2)).trans f4
  have hu := hD.used
  have hfu := hD.fu2
  have hR := hD.fine.files
  have SG := Lib.hid (step_get hsr)
  by_cases ho6 : 6 ≤ o
  · have L := Lib.hid (does_light (fu := fu) (names := names) (up := upB) (so := soB) (a := a) (n := n) (f := f) (s := s) ho6)
    have m1 : ¬ o = 1 := by omega
    have m2 : ¬ o = 2 := by omega
    have m3 : ¬ o = 3 := by omega
    have m4 : ¬ o = 4 := by omega
    have m5 : ¬ o = 5 := by omega
    by_cases hn : fu < s.used + 1
    · have SP : Hid (Calls Tryz.prog 131 #[.pointer (some ⟨b, 0, none⟩), .int .i64 1] W1 (RSpent b fu N nn nc W1 (dry fu s) false)) := Lib.hid (rspend_no (H1.out W1 (Below.refl _ _)) 1 hn hu hfu (by omega))
      have EN : Hid (∀ W, RM W b fu N nn nc (dry fu s) → BelowX W1.heap.size b W1 W → RWent b fu N nn nc w (does fu withF withoutF names upB soB o a n f s) (.returned (.tuple #[])) W) := Lib.hid fun W h1 h2 => by
        rw [L.out]
        unfold spend
        rw [if_pos hn]
        exact WENT.out _ _ W1 _ (BelowX.refl _ _ _) ⟨rfl, h1, h2⟩
      clear L hn hD h hargs hca hsr ho6 q1 hb1 hu hfu hR
      generalize RWent b fu N nn nc w (does fu withF withoutF names upB soB o a n f s) = Q at *
      go_enter Tryz.func73, Tryz.ntmps73
      go_wp2_with (go_at_call 131; rw [← eW1]; clear eW1; (with_reducible refine (SP.out).mono ?_); rintro e w2 ⟨rfl, h2, h3⟩)
      go_end0
      exact EN.out _ h2 h3
    · have SP : Hid (Calls Tryz.prog 131 #[.pointer (some ⟨b, 0, none⟩), .int .i64 1] W1 (RSpent b fu N nn nc W1 { s with used := s.used + 1 } true)) := Lib.hid (rspend_yes (H1.out W1 (Below.refl _ _)) 1 hn hfu)
      have hfine : Fine (fun _ => True) { s with used := s.used + 1 } := ⟨hD.fine.files, .inl (hD.fine.zero hD.on)⟩
      have LI : Hid (∀ W, RM W b fu N nn nc { s with used := s.used + 1 } → BelowX W1.heap.size b W1 W → Calls Tryz.prog 132 #[.pointer (some ⟨b, 0, none⟩), .agg #[.int .i64 o, .slice Aa a.length ca, .int .i64 n, .slice Ab nb cb]] W (RWent b fu N nn nc W (lightP names o a n f { s with used := s.used + 1 }))) := Lib.hid fun W ⟨A2, c2, hst⟩ hX => by
        have hwX := WB.out W hX
        exact rlight_any (hD.go hwX hfine hD.on (by show s.used + 1 ≤ fu; omega)) hst o n a Aa ca (hargs.mono (by decide) fun k hk hs => ⟨hk, hwX.block k hs hk⟩) hca hsr (by have := SG.out 0; omega) hn63 ho6
      have EN : Hid (∀ e W, BelowX W1.heap.size b W1 W → ∀ w', RWent b fu N nn nc W (lightP names o a n f { s with used := s.used + 1 }) e w' → RWent b fu N nn nc w (does fu withF withoutF names upB soB o a n f s) e w') := Lib.hid fun e W hX w' hh => by
        rw [L.out, spend_spent hn]
        exact WENT.out _ _ W _ hX hh
      clear L hn hD h hargs hca hsr ho6 q1 hb1 hu hfu hR hfine
      generalize RWent b fu N nn nc w (does fu withF withoutF names upB soB o a n f s) = Q at *
      go_enter Tryz.func73, Tryz.ntmps73
      go_wp2_with (first
        | (go_at_call 131; rw [← eW1]; clear eW1; (with_reducible refine (SP.out).mono ?_); rintro e w2 ⟨rfl, h2, h3⟩; obtain ⟨y0, y1, y2, y3⟩ := Y0.out _ h3; have L2 := Lib.hid (LI.out _ h2 h3); clear h2)
        | (go_at_call 132; (with_reducible refine (L2.out).mono ?_); rintro e w3 ⟨rfl, h4, h5⟩))
      go_end0
      exact EN.out _ _ h3 _ ⟨rfl, h4, h5⟩
  · have hcases : (o = 1 ∧ a.length = 2) ∨ (o = 2 ∧ a.length = 2) ∨ (o = 3 ∧ 2 ≤ a.length ∧ a.length ≤ 8) ∨ (o = 4 ∧ a.length = 1) ∨ (o = 5 ∧ a.length = 1) := by
      unfold StepR at hsr
      rcases hsr with h | h | h | h | h | h | h
      · exact .inl ⟨h.1, h.2.1⟩
      · exact .inr (.inl ⟨h.1, h.2.1⟩)
      · exact .inr (.inr (.inl ⟨h.1, h.2.1, h.2.2.1⟩))
      · rcases h with ⟨h | h | h | h, h2, _⟩
        · exact .inr (.inr (.inr (.inl ⟨h, h2⟩)))
        · exact .inr (.inr (.inr (.inr ⟨h, h2⟩)))
        · omega
        · omega
      · omega
      · omega
      · omega
    have ha0 : 0 < a.length := by omega
    obtain ⟨ad, rfl, hcell⟩ := AR.out ha0
    have CELL := Lib.hid hcell
    have i0 : (0 : Int) < (a.length : Int) := by omega
    -- what is written, wherever the state lies
    have WR : Hid (∀ (p m : B) (W : World), p.length ≤ 1000000 → m.length ≤ 40000 → RM W b fu N nn nc s → does fu withF withoutF names upB soB o a n f s = spend fu (1 + (m.length + 63) / 64) (lay withF p m) s → Calls Tryz.prog 127 #[.pointer (some ⟨b, 0, none⟩), .string (bs p), .string (bs m)] W (RWent b fu N nn nc W (does fu withF withoutF names upB soB o a n f s))) := Lib.hid fun p m W hp hm ⟨A2, c2, hst⟩ hdo => by
      rw [hdo]
      exact rwrite_any hst hR hu hfu p m hp hm
    have WE : Hid (∀ e W w', BelowX W1.heap.size b W1 W → RWent b fu N nn nc W (does fu withF withoutF names upB soB o a n f s) e w' → RWent b fu N nn nc w (does fu withF withoutF names upB soB o a n f s) e w') := Lib.hid fun e W w' hX hh => WENT.out _ e W w' hX hh
    have RN : Hid (∀ (q : B) (W : World), Below W1.heap.size W1 W → Fs.get s.files q = none → Calls Tryz.prog 128 #[.pointer (some ⟨b, 0, none⟩), .string (bs q)] W (RNone b fu N nn nc W (spend fu 1 (fail 17 q) s))) := Lib.hid fun q W hW hg => rread_none (H1.out W hW) hR hu hfu q hg
    have RS : Hid (∀ (q : B) (d : ByteArray) (W : World), Below W1.heap.size W1 W → Fs.get s.files q = some d → Calls Tryz.prog 128 #[.pointer (some ⟨b, 0, none⟩), .string (bs q)] W fun e w' => e = .returned (.tuple #[.string d, .bool true]) ∧ Below W.heap.size W w') := Lib.hid fun q d W hW hg => rread_some (H1.out W hW) hR q hg
    have EN : Hid (∀ q W w', Below W1.heap.size W1 W → does fu withF withoutF names upB soB o a n f s = spend fu 1 (fail 17 q) s → RM w' b fu N nn nc (spend fu 1 (fail 17 q) s) → BelowX W.heap.size b W w' → RWent b fu N nn nc w (does fu withF withoutF names upB soB o a n f s) (.returned (.tuple #[])) w') := Lib.hid fun q W w' hW hdo h1 h2 => by
      rw [hdo]
      exact WENT.out _ _ W _ (.of hW) ⟨rfl, h1, h2⟩
    have HM := Lib.hid (fun W (hW : Below W1.heap.size W1 W) => (⟨A, c, H1.out W hW⟩ : RM W b fu N nn nc s))
    have GZ := Lib.hid (fun q d (hg : Fs.get s.files q = some d) => get_size hR hg)
    have hdB : Below W1.heap.size W1 W1.drew := (Below.refl _ _).drew
    have X0 : Hid (∀ W, BelowX W1.heap.size b W1 W → W.cell? ad = some (.string (bs (a.getD 0 [])))) := Lib.hid fun W hW => by
      have := hcell 0 ha0 W hW
      rw [show ad.add 0 = ad from rfl] at this
      exact this
    have X1 : Hid (1 < a.length → ∀ W, BelowX W1.heap.size b W1 W → W.cell? ⟨ad.block, ad.off + 1, none⟩ = some (.string (bs (a.getD 1 [])))) := Lib.hid fun h1 W hW => hcell 1 h1 W hW
    have BD : Hid (∀ d : ByteArray, bs (tl d) = d) := Lib.hid fun d => Lg.tl_inj rfl
    have hx0 := X0.out W1 (BelowX.refl _ _ _)
    obtain ⟨y0, y1, y2, y3⟩ := Y0.out W1 (BelowX.refl _ _ _)
    clear hD h hargs q1 hb1 H1 WENT WB AR hcell hsr
    rcases hcases with ⟨rfl, ha⟩ | ⟨rfl, ha⟩ | ⟨rfl, ha, ha8⟩ | ⟨rfl, ha⟩ | ⟨rfl, ha⟩
    · have C1 := Lib.hid (WR.out (a.getD 0 []) (a.getD 1 [] ++ [10]) W1.drew (by have := SG.out 0; omega) (by have := SG.out 1; rw [List.length_append, List.length_singleton]; omega) (HM.out _ hdB) (does_put.trans rfl))
      have CB : Hid (bs (a.getD 1 []) ++ ⟨#[10]⟩ = bs (a.getD 1 [] ++ [10])) := Lib.hid (cat_bs (a.getD 1 []) [10])
      rw [← CB.out] at C1
      have hs : ¬ 9223372036854775807 < (bs (a.getD 1 [])).size + 1 := by rw [Fs.bs_len]; have := SG.out 1; omega
      have SX : Hid (∀ W, BelowX W1.heap.size b W1 W → (fun W => W.cell? ⟨w.heap.size, 1, none⟩ = some (.slice (some ad) a.length ca) ∧ W.cell? ad = some (.string (bs (a.getD 0 []))) ∧ W.cell? ⟨ad.block, ad.off + 1, none⟩ = some (.string (bs (a.getD 1 [])))) W) := Lib.hid fun W hW => ⟨(Y0.out W hW).2.1, X0.out W hW, X1.out (by omega) W hW⟩
      have i1 : (1 : Int) < (a.length : Int) := by omega
      have kS0 := SX.out W1 (BelowX.refl _ _ _)
      have kS1 := SX.out W1.drew (.of hdB)
      clear ha WR RN RS EN HM GZ X0 X1 CB hx0 y0 y1 y2 y3
      generalize does fu withF withoutF names upB soB 1 a n f s = t at *
      generalize bs (a.getD 0 []) = q at *
      generalize bs (a.getD 1 []) = q1 at *
      go_enter Tryz.func73, Tryz.ntmps73
      go_wp2_with (fail)
      rw [← eW1]
      clear eW1
      go_region_held3 (fun W => W.cell? ⟨w.heap.size, 1, none⟩ = some (.slice (some ad) a.length ca) ∧ W.cell? ad = some (.string q) ∧ W.cell? ⟨ad.block, ad.off + 1, none⟩ = some (.string q1)) (first | (with_reducible exact kS0) | (with_reducible exact kS1) | (with_reducible exact SX.out _ h5)) ((go_at_call 127; (with_reducible refine (C1.out).mono ?_); rintro e w2 ⟨rfl, h2, h3⟩; have h5 : BelowX W1.heap.size b W1 w2 := (BelowX.of hdB).trans (h3.mono hdB.size)))
      all_goals
        go_wp2_with (fail)
        go_end0
        exact WE.out _ _ _ (.of hdB) ⟨rfl, h2, h3⟩
    · cases hg : Fs.get s.files (a.getD 0 []) with
      | none =>
        have C1 := Lib.hid (RN.out _ W1 (Below.refl _ _) hg)
        have E1 := Lib.hid (fun w' h1 h2 => EN.out _ W1 w' (Below.refl _ _) (does_copy.trans (by rw [take_one ha0]; exact writes_none hg)) h1 h2)
        rw [eW1] at hx0
        clear ha WR RN RS EN HM GZ X0 X1 hg
        generalize RWent b fu N nn nc w (does fu withF withoutF names upB soB 2 a n f s) = Q at *
        generalize spend fu 1 (fail 17 (a.getD 0 [])) s = t at *
        generalize bs (a.getD 0 []) = q at *
        go_enter Tryz.func73, Tryz.ntmps73
        go_wp2_with (go_at_call 128; rw [← eW1]; clear eW1; (with_reducible refine (C1.out).mono ?_); rintro e w2 ⟨rfl, h2, h3⟩)
        go_end0
        exact E1.out _ h2 h3
      | some d =>
        have C1 := Lib.hid (RS.out _ d W1 (Below.refl _ _) hg)
        have C2 : Hid (∀ W, Below W1.heap.size W1 W → Calls Tryz.prog 127 #[.pointer (some ⟨b, 0, none⟩), .string (bs (a.getD 1 [])), .string d] W (RWent b fu N nn nc W (does fu withF withoutF names upB soB 2 a n f s))) := Lib.hid fun W hW => by
          have := WR.out (a.getD 1 []) (tl d) W (by have := SG.out 1; omega) (by rw [Fs.tl_len]; have := GZ.out _ _ hg; omega) (HM.out W hW) (does_copy.trans (by rw [take_one ha0]; exact writes_some hg))
          rw [BD.out] at this
          exact this
        have i1 : (1 : Int) < (a.length : Int) := by omega
        have X1' := Lib.hid (X1.out (by omega))
        rw [eW1] at hx0
        clear ha WR RN RS EN HM GZ X0 X1 hg
        generalize does fu withF withoutF names upB soB 2 a n f s = t at *
        generalize bs (a.getD 0 []) = q at *
        generalize bs (a.getD 1 []) = q1 at *
        go_enter Tryz.func73, Tryz.ntmps73
        go_wp2_with (first
          | (go_at_call 128; rw [← eW1]; clear eW1; (with_reducible refine (C1.out).mono ?_); rintro e w2 ⟨rfl, h2⟩; clear y0 y1 y2 y3 hx0; obtain ⟨y0, y1, y2, y3⟩ := Y0.out w2 (.of h2); have hx1 := X1'.out w2 (.of h2))
          | (go_at_call 127; (with_reducible refine (C2.out _ h2).mono ?_); rintro e w3 ⟨rfl, h3, h4⟩))
        go_end0
        exact WE.out _ _ _ (.of h2) ⟨rfl, h3, h4⟩
    · have DO : Hid (does fu withF withoutF names upB soB 3 a n f s = writes fu withF (a.getD 0 []) (a.drop 1) id s) := Lib.hid does_cat
      have i8 : a.length ≤ 8 := ha8
      have hfl : ∀ k, k < a.length → a.drop k = a.getD k [] :: a.drop (k + 1) := fun k hk => by
        rw [List.drop_eq_getElem_cons hk, List.getD_eq_getElem?_getD, List.getElem?_eq_getElem hk]; rfl
      have DR := Lib.hid hfl
      clear hfl ha ha8 hx0 y1 y2 y3
      go_enter Tryz.func73, Tryz.ntmps73
      go_wp2_with (fail)
      rw [← eW1]
      clear eW1 y0
      go_loopw [6, 7] (fun r i W => ∃ (k : Nat) (acc : B), r = .string (bs acc) ∧ i = .int .i64 k ∧ 1 ≤ k ∧ k ≤ a.length ∧ Hid (reads s.files (a.drop 1) [] = reads s.files (a.drop k) acc) ∧ acc.length ≤ 2048 * k ∧ Below W1.heap.size W1 W) (fun _ i _ => a.length - (intOf i).toNat)
      case atStart => exact ⟨1, [], rfl, rfl, Nat.le_refl _, by omega, Lib.hid rfl, by simp, Below.refl _ _⟩
      case round =>
        obtain ⟨k, acc, rfl, rfl, hk1, hk, RE, hacc, hb⟩ := hrel
        obtain ⟨y0, y1, y2, y3⟩ := Y0.out wr (.of hb)
        by_cases hkl : k < a.length
        · have hkI : (k : Int) < (a.length : Int) := by omega
          have hxk := CELL.out k hkl wr (.of hb)
          have D1 := Lib.hid (DR.out k hkl)
          cases hg : Fs.get s.files (a.getD k []) with
          | none =>
            have C1 := Lib.hid (RN.out _ wr hb hg)
            have E1 := Lib.hid (fun w' h1 h2 => EN.out _ wr w' hb (DO.out.trans (by unfold writes; rw [RE.out, D1.out, reads, hg])) h1 h2)
            clear WR RN RS EN HM GZ X0 X1 hg DR D1 RE DO
            generalize RWent b fu N nn nc w (does fu withF withoutF names upB soB 3 a n f s) = Q at *
            generalize spend fu 1 (fail 17 (a.getD k [])) s = t at *
            generalize bs (a.getD k []) = q at *
            go_wp2_with (go_at_call 128; (with_reducible refine (C1.out).mono ?_); rintro e w2 ⟨rfl, h2, h3⟩)
            go_end0
            exact E1.out _ h2 h3
          | some d =>
            have C1 := Lib.hid (RS.out _ d wr hb hg)
            have hdz := GZ.out _ _ hg
            have RE2 : Hid (reads s.files (a.drop 1) [] = reads s.files (a.drop (k + 1)) (acc ++ tl d)) := Lib.hid (by rw [RE.out, D1.out, reads, hg])
            have CC : Hid (bs acc ++ d = bs (acc ++ tl d)) := Lib.hid (by have := cat_bs acc (tl d); rw [BD.out] at this; exact this)
            have hz1 : (bs acc).size ≤ 20000 := by rw [Fs.bs_len]; omega
            have hz2 : (acc ++ tl d).length ≤ 2048 * (k + 1) := by rw [List.length_append, Fs.tl_len]; omega
            clear hg D1
            generalize bs (a.getD k []) = q at *
            obtain ⟨x, ex⟩ : ∃ x, x = bs acc := ⟨_, rfl⟩
            rw [← ex] at CC hz1 ⊢
            clear ex
            go_wp2_with (go_at_call 128; (with_reducible refine (C1.out).mono ?_); rintro e w2 ⟨rfl, h2⟩)
            go_roundw
            case rel => exact ⟨k + 1, acc ++ tl d, by rw [CC.out], by go_num, by omega, by omega, RE2, hz2, hb.trans (h2.mono hb.size)⟩
            case measure => simp [intOf]; omega
        · obtain rfl : k = a.length := by omega
          have C2 := Lib.hid (WR.out (a.getD 0 []) acc wr (by have := SG.out 0; omega) (by omega) (HM.out wr hb) (DO.out.trans (by unfold writes; rw [RE.out, List.drop_length, reads]; rfl)))
          have hx0 := X0.out wr (.of hb)
          clear WR RN RS EN HM GZ X0 X1 DR RE DO
          generalize does fu withF withoutF names upB soB 3 a n f s = t at *
          generalize bs (a.getD 0 []) = q at *
          go_wp2_with (go_at_call 127; (with_reducible refine (C2.out).mono ?_); rintro e w3 ⟨rfl, h3, h4⟩)
          go_end0
          exact WE.out _ _ _ (.of hb) ⟨rfl, h3, h4⟩
    · cases hg : Fs.get s.files (a.getD 0 []) with
      | none =>
        have C1 := Lib.hid (RN.out _ W1 (Below.refl _ _) hg)
        have E1 := Lib.hid (fun w' h1 h2 => EN.out _ W1 w' (Below.refl _ _) (does_up.trans (writes_none1 ha hg)) h1 h2)
        rw [eW1] at hx0
        clear ha WR RN RS EN HM GZ X0 X1 hg
        generalize RWent b fu N nn nc w (does fu withF withoutF names upB soB 4 a n f s) = Q at *
        generalize spend fu 1 (fail 17 (a.getD 0 [])) s = t at *
        generalize bs (a.getD 0 []) = q at *
        go_enter Tryz.func73, Tryz.ntmps73
        go_wp2_with (go_at_call 128; rw [← eW1]; clear eW1; (with_reducible refine (C1.out).mono ?_); rintro e w2 ⟨rfl, h2, h3⟩)
        go_end0
        exact E1.out _ h2 h3
      | some d =>
        have hdz := GZ.out _ _ hg
        have C1 := Lib.hid (RS.out _ d W1 (Below.refl _ _) hg)
        have C2 : Hid (∀ W, Below W1.heap.size W1 W → Calls Tryz.prog 127 #[.pointer (some ⟨b, 0, none⟩), .string (bs (a.getD 0 [])), .string (bs (upB (tl d)))] W (RWent b fu N nn nc W (does fu withF withoutF names upB soB 4 a n f s))) := Lib.hid fun W hW => WR.out (a.getD 0 []) (upB (tl d)) W (by have := SG.out 0; omega) (by have := Fs.tl_len d; rw [upB_len]; omega) (HM.out W hW) (does_up.trans (writes_some1 ha hg))
        have UP : Hid (∀ W, Calls Tryz.prog 129 #[.string d] W fun e w' => e = .returned (.string (bs (upB (tl d)))) ∧ Below W.heap.size W w') := Lib.hid fun W => rupper_any d W (by omega)
        have SX : Hid (∀ W, BelowX W1.heap.size b W1 W → (fun W => W.cell? ⟨w.heap.size, 1, none⟩ = some (.slice (some ad) a.length ca) ∧ W.cell? ad = some (.string (bs (a.getD 0 [])))) W) := Lib.hid fun W hW => ⟨(Y0.out W hW).2.1, X0.out W hW⟩
        rw [eW1] at hx0
        clear ha WR RN RS EN HM GZ X0 X1 hg hdz y0 y1 y2 y3
        generalize does fu withF withoutF names upB soB 4 a n f s = t at *
        generalize bs (upB (tl d)) = r at *
        generalize bs (a.getD 0 []) = q at *
        go_enter Tryz.func73, Tryz.ntmps73
        go_wp2_with (go_at_call 128; rw [← eW1]; clear eW1; (with_reducible refine (C1.out).mono ?_); rintro e w2 ⟨rfl, h2⟩; clear hx0)
        have kS0 := SX.out w2 (.of h2)
        have kS1 := SX.out w2.drew (.of h2.drew)
        have hd2 : Below W1.heap.size W1 w2.drew := h2.drew
        go_region_held3 (fun W => W.cell? ⟨w.heap.size, 1, none⟩ = some (.slice (some ad) a.length ca) ∧ W.cell? ad = some (.string q)) (first | (with_reducible exact kS0) | (with_reducible exact kS1) | (with_reducible exact SX.out _ (.of h3)) | (with_reducible exact SX.out _ h5)) (first
          | (go_at_call 129; (with_reducible refine (UP.out _).mono ?_); rintro e w3 ⟨rfl, b3⟩; have h3 : Below W1.heap.size W1 w3 := hd2.trans (b3.mono hd2.size))
          | (go_at_call 127; (with_reducible refine (C2.out _ h3).mono ?_); rintro e w4 ⟨rfl, h4, g4⟩; have h5 : BelowX W1.heap.size b W1 w4 := (BelowX.of h3).trans (g4.mono h3.size)))
        all_goals
          go_wp2_with (fail)
          go_end0
          exact WE.out _ _ _ (.of h3) ⟨rfl, h4, g4⟩
    · cases hg : Fs.get s.files (a.getD 0 []) with
      | none =>
        have C1 := Lib.hid (RN.out _ W1 (Below.refl _ _) hg)
        have E1 := Lib.hid (fun w' h1 h2 => EN.out _ W1 w' (Below.refl _ _) (does_so.trans (writes_none1 ha hg)) h1 h2)
        rw [eW1] at hx0
        clear ha WR RN RS EN HM GZ X0 X1 hg
        generalize RWent b fu N nn nc w (does fu withF withoutF names upB soB 5 a n f s) = Q at *
        generalize spend fu 1 (fail 17 (a.getD 0 [])) s = t at *
        generalize bs (a.getD 0 []) = q at *
        go_enter Tryz.func73, Tryz.ntmps73
        go_wp2_with (go_at_call 128; rw [← eW1]; clear eW1; (with_reducible refine (C1.out).mono ?_); rintro e w2 ⟨rfl, h2, h3⟩)
        go_end0
        exact E1.out _ h2 h3
      | some d =>
        have hdz := GZ.out _ _ hg
        have C1 := Lib.hid (RS.out _ d W1 (Below.refl _ _) hg)
        have C2 : Hid (∀ W, Below W1.heap.size W1 W → Calls Tryz.prog 127 #[.pointer (some ⟨b, 0, none⟩), .string (bs (a.getD 0 [])), .string (bs (soB (tl d)))] W (RWent b fu N nn nc W (does fu withF withoutF names upB soB 5 a n f s))) := Lib.hid fun W hW => WR.out (a.getD 0 []) (soB (tl d)) W (by have := SG.out 0; omega) (by have := Fs.tl_len d; have := so_le (tl d); omega) (HM.out W hW) (does_so.trans (writes_some1 ha hg))
        have UP : Hid (∀ W, Calls Tryz.prog 130 #[.string d] W fun e w' => e = .returned (.string (bs (soB (tl d)))) ∧ Below W.heap.size W w') := Lib.hid fun W => rlines_any d W (by omega)
        have SX : Hid (∀ W, BelowX W1.heap.size b W1 W → (fun W => W.cell? ⟨w.heap.size, 1, none⟩ = some (.slice (some ad) a.length ca) ∧ W.cell? ad = some (.string (bs (a.getD 0 [])))) W) := Lib.hid fun W hW => ⟨(Y0.out W hW).2.1, X0.out W hW⟩
        rw [eW1] at hx0
        clear ha WR RN RS EN HM GZ X0 X1 hg hdz y0 y1 y2 y3
        generalize does fu withF withoutF names upB soB 5 a n f s = t at *
        generalize bs (soB (tl d)) = r at *
        generalize bs (a.getD 0 []) = q at *
        go_enter Tryz.func73, Tryz.ntmps73
        go_wp2_with (go_at_call 128; rw [← eW1]; clear eW1; (with_reducible refine (C1.out).mono ?_); rintro e w2 ⟨rfl, h2⟩; clear hx0)
        have kS0 := SX.out w2 (.of h2)
        have kS1 := SX.out w2.drew (.of h2.drew)
        have hd2 : Below W1.heap.size W1 w2.drew := h2.drew
        go_region_held3 (fun W => W.cell? ⟨w.heap.size, 1, none⟩ = some (.slice (some ad) a.length ca) ∧ W.cell? ad = some (.string q)) (first | (with_reducible exact kS0) | (with_reducible exact kS1) | (with_reducible exact SX.out _ (.of h3)) | (with_reducible exact SX.out _ h5)) (first
          | (go_at_call 130; (with_reducible refine (UP.out _).mono ?_); rintro e w3 ⟨rfl, b3⟩; have h3 : Below W1.heap.size W1 w3 := hd2.trans (b3.mono hd2.size))
          | (go_at_call 127; (with_reducible refine (C2.out _ h3).mono ?_); rintro e w4 ⟨rfl, h4, g4⟩; have h5 : BelowX W1.heap.size b W1 w4 := (BelowX.of h3).trans (g4.mono h3.size)))
        all_goals
          go_wp2_with (fail)
          go_end0
          exact WE.out _ _ _ (.of h3) ⟨rfl, h4, g4⟩
end Go.Proofs.YtdidnlkilleljaaGreatDoor.Bx
/- BxAll, what a claim needs of it (prune.py). -/
namespace Go.Proofs.YtdidnlkilleljaaGreatDoor.Bx
open Go.RowKit
open Lg (BelowX Lies strV StepsAt Stp)
open Fs (fc fc_len fc_cell Fls Env B)
set_option linter.unusedVariables false
set_option maxRecDepth 100000
def loopN : List Stp → Prop
  | [] => True
  | ⟨o, a, n, b⟩ :: r => n ≤ 9223372036854775807 ∧ loopN b ∧ loopN r
def bulkS : List Stp → Nat
  | [] => 0
  | ⟨o, a, n, b⟩ :: r => 1 + bulkS b + bulkS r
theorem bulk_cons (o : Int) (a : List B) (n : Int) (b r : List Stp) : bulkS (⟨o, a, n, b⟩ :: r) = 1 + bulkS b + bulkS r := by rw [bulkS]
theorem needs_true : ∀ l : List Stp, needsQ (fun _ => True) l
  | [] => by rw [needsQ]; trivial
  | ⟨o, a, n, b⟩ :: r => by rw [needsQ]; exact ⟨fun _ => trivial, needs_true b, needs_true r⟩
theorem drop_step : ∀ {l : List Stp} {k : Nat} (hk : k < l.length), rightS l → loopN l → StepR l[k].op l[k].args ∧ l[k].n ≤ 9223372036854775807 ∧ rightS l[k].block ∧ loopN l[k].block ∧ bulkS l[k].block < bulkS l
  | ⟨o, a, n, b⟩ :: r, 0, _, h1, h2 => by
    rw [rightS] at h1
    rw [loopN] at h2
    refine ⟨h1.1, h2.1, h1.2.1, h2.2.1, ?_⟩
    rw [bulk_cons]
    show bulkS b < _
    omega
  | ⟨o, a, n, b⟩ :: r, k + 1, hk, h1, h2 => by
    rw [rightS] at h1
    rw [loopN] at h2
    obtain ⟨g1, g2, g3, g4, g5⟩ := drop_step (l := r) (k := k) (by simpa using hk) h1.2.2 h2.2.2
    refine ⟨g1, g2, g3, g4, ?_⟩
    rw [bulk_cons]
    have e : ((⟨o, a, n, b⟩ :: r : List Stp)[k + 1]).block = (r[k]'(by simpa using hk)).block := rfl
    rw [e]
    omega
theorem len_bulk : ∀ l : List Stp, l.length ≤ bulkS l
  | [] => by simp
  | ⟨o, a, n, b⟩ :: r => by
    have := len_bulk r
    rw [bulk_cons, List.length_cons]
    omega
set_option maxHeartbeats 8000000 in
theorem all_any {b fu : Nat} {N : Option Addr} {nn nc : Nat} {names : List B} (hfu1 : 1 ≤ fu) (hfu2 : fu ≤ 2000) (hnml : nn = names.length) (hnmz : names.length ≤ 1000000) : ∀ (K : Nat) (l : List Stp), K ≤ 1000000 → bulkS l < K → rightS l → loopN l → ∀ (w : World) (s : St) (L : Option Addr) (m mc : Nat),
    EnvB b w → StM w b fu N nn nc s → Fine (fun _ => True) s → s.used ≤ fu → Lies w (fun k => k ≠ b) 1 N nn (strV names) → StepsAt w (fun k => k ≠ b) L m l →
    Calls Tryz.prog 29 #[.pointer (some ⟨b, 0, none⟩), .slice L m mc] w (Went b fu N nn nc w (all fu withF withoutF names upB soB l s))
  | 0, _, _, h, _, _ => absurd h (by omega)
  | K + 1, l, hK2, hK, hrl, hln => by
    intro w s L m mc hE hst hF hu hnm hsl
    have hml : m = l.length := hsl.1
    subst hml
    have hll := len_bulk l
    have hll2 : l.length ≤ 1000000 := by omega
    obtain ⟨A0, c0, hst0⟩ := hst
    have hbw := lt_heap hst0.blk
    have SA : Hid (∀ W, BelowX w.heap.size b w W → StepsAt W (fun k => k ≠ b) L l.length l) := Lib.hid fun W hW => hsl.mono fun k hk hs => ⟨hk, hW.block k hs hk⟩
    have NM : Hid (∀ W, BelowX w.heap.size b w W → Lies W (fun k => k ≠ b) 1 N nn (strV names)) := Lib.hid fun W hW => hnm.mono (by decide) fun k hk hs => ⟨hk, hW.block k hs hk⟩
    have EV := Lib.hid (fun W (hW : BelowX w.heap.size b w W) => hE.onX hW)
    have DS := Lib.hid (fun k (hk : k < l.length) => drop_step hk hrl hln)
    have IH : Hid (∀ k (hk : k < l.length), ∀ (W : World) (s' : St) (L' : Option Addr) (m' mc' : Nat), EnvB b W → StM W b fu N nn nc s' → Fine (fun _ => True) s' → s'.used ≤ fu → Lies W (fun k => k ≠ b) 1 N nn (strV names) → StepsAt W (fun k => k ≠ b) L' m' l[k].block →
        Calls Tryz.prog 29 #[.pointer (some ⟨b, 0, none⟩), .slice L' m' mc'] W (Went b fu N nn nc W (all fu withF withoutF names upB soB l[k].block s'))) := Lib.hid fun k hk => by
      obtain ⟨_, _, g3, g4, g5⟩ := drop_step hk hrl hln
      exact all_any hfu1 hfu2 hnml hnmz K l[k].block (by omega) (by omega) g3 g4
    have EN : Hid (∀ W s', all fu withF withoutF names upB soB l s = s' → StM W b fu N nn nc s' → BelowX w.heap.size b w W → Went b fu N nn nc w (all fu withF withoutF names upB soB l s) (.returned (.tuple #[])) W) := Lib.hid fun W s' h1 h2 h3 => ⟨rfl, by rw [h1]; exact h2, h3⟩
    have F0 := Lib.hid hF
    have U0 := Lib.hid hu
    have S0 : Hid (StM w b fu N nn nc s) := Lib.hid ⟨A0, c0, hst0⟩
    clear hE hst0 hF hu hnm hsl hrl hln hK hll
    generalize Went b fu N nn nc w (all fu withF withoutF names upB soB l s) = Q at *
    go_enter Tryz.func29, Tryz.ntmps29
    go_wp2_with (fail)
    go_loopw [8] (fun i W => ∃ (k : Nat) (s' : St), i = .int .i64 k ∧ k ≤ l.length ∧ Hid (all fu withF withoutF names upB soB l s = all fu withF withoutF names upB soB (l.drop k) s') ∧ Hid (Fine (fun _ => True) s' ∧ s'.used ≤ fu) ∧ Hid (StM W b fu N nn nc s') ∧ BelowX w.heap.size b w W) (fun i _ => l.length - (intOf i).toNat)
    case atStart => exact ⟨0, s, rfl, by omega, Lib.hid (by rw [List.drop_zero]), Lib.hid ⟨F0.out, U0.out⟩, S0, BelowX.refl _ _ _⟩
    case round =>
      obtain ⟨k, s', rfl, hk, RE, SF, SM, hb⟩ := hrel
      by_cases hlt : k < l.length
      · have hkI : (k : Int) < (l.length : Int) := by omega
        obtain ⟨ad, A', ka, ca, B', kb, cb, rfl, e0, e1, e2, e3, hka, hkac, hla, hkbc, hsb⟩ := (SA.out wr hb).at_ hlt
        subst hka
        obtain ⟨g1, g2, g3, g4, g5⟩ := DS.out k hlt
        have e0' : wr.cell? (ad.add (k * 4)) = some (.int .i64 l[k].op) := e0
        have e1' : wr.cell? ⟨(ad.add (k * 4)).block, (ad.add (k * 4)).off + 1, none⟩ = some (.slice A' l[k].args.length ca) := by rw [← add_of_add] at e1; exact e1
        have e2' : wr.cell? ⟨(ad.add (k * 4)).block, (ad.add (k * 4)).off + 2, none⟩ = some (.int .i64 l[k].n) := by rw [← add_of_add] at e2; exact e2
        have e3' : wr.cell? ⟨(ad.add (k * 4)).block, (ad.add (k * 4)).off + 3, none⟩ = some (.slice B' kb cb) := by rw [← add_of_add] at e3; exact e3
        clear e0 e1 e2 e3
        obtain ⟨A1, c1, hst⟩ := SM.out
        obtain ⟨W1, eW⟩ : ∃ W1, W1 = wr.alloc (.cells #[.int .i64 l[k].op, .slice A' l[k].args.length ca, .int .i64 l[k].n, .slice B' kb cb] 61) := ⟨_, rfl⟩
        have hb1 : Below wr.heap.size wr W1 := by rw [eW]; exact (Below.refl _ _).alloc (Nat.le_refl _) _
        have hX1 : BelowX w.heap.size b w W1 := hb.trans ((BelowX.of hb1).mono hb.size)
        have H1 := Lib.hid (hst.keep hb1)
        have OA := Lib.hid (over_any H1.out)
        have STP : l[k] = ⟨l[k].op, l[k].args, l[k].n, l[k].block⟩ := by cases l[k]; rfl
        have DR : Hid (l.drop k = ⟨l[k].op, l[k].args, l[k].n, l[k].block⟩ :: l.drop (k + 1)) := Lib.hid (by rw [List.drop_eq_getElem_cons hlt]; congr 1)
        have HX := Lib.hid hX1
        cases hov : over s' with
        | true =>
          rw [hov] at OA
          have F : Hid (all fu withF withoutF names upB soB l s = s') := Lib.hid (by rw [RE.out]; exact (all_fair fu _).over s' hov)
          clear hov hst STP DR g1 g2 g3 g4 g5 hla hsb hb1 hX1
          generalize l[k].op = so at *
          generalize l[k].args = sa at *
          generalize l[k].n = sn at *
          go_wp2_with (go_at_call 30; rw [← eW]; clear eW; (with_reducible refine (OA.out).mono ?_); rintro e w2 ⟨rfl, rfl⟩)
          go_end0
          exact EN.out _ s' F.out ⟨A1, c1, H1.out⟩ HX.out
        | false =>
          rw [hov] at OA
          have hf1 := all_fair (wf := withF) (wo := withoutF) (names := names) (up := upB) (so := soB) fu l[k].block
          have hk1 : Keeps (fun _ => True) (all fu withF withoutF names upB soB l[k].block) := all_keeps hfu1 _ (needs_true _)
          have DO : Hid (Calls Tryz.prog 66 #[.pointer (some ⟨b, 0, none⟩), .agg #[.int .i64 l[k].op, .slice A' l[k].args.length ca, .int .i64 l[k].n, .slice B' kb cb]] W1 (Went b fu N nn nc W1 (does fu withF withoutF names upB soB l[k].op l[k].args l[k].n (all fu withF withoutF names upB soB l[k].block) s'))) := Lib.hid
            (does_any ⟨EV.out W1 hX1, SF.out.1, hov, SF.out.2, hfu1, hfu2, NM.out W1 hX1, hnml, hnmz, fun W s'' hW h1 h2 h3 h4 => IH.out k hlt W s'' B' kb cb ((EV.out W1 hX1).onX hW) h1 h2 h4 (NM.out W (hX1.trans (hW.mono hX1.size))) (hsb.mono fun g hg hs => ⟨hg, (hW.block g (Nat.lt_of_lt_of_le hs hb1.size) hg).trans (hb1.block g hs)⟩), hf1, hk1⟩
              H1.out l[k].op l[k].n l[k].args A' ca (hla.mono (by decide) fun g hg hs => ⟨hg, hb1.block g hs⟩) hkac g1 g2)
          have F : Hid (all fu withF withoutF names upB soB l s = all fu withF withoutF names upB soB (l.drop (k + 1)) (does fu withF withoutF names upB soB l[k].op l[k].args l[k].n (all fu withF withoutF names upB soB l[k].block) s')) := Lib.hid (by
            rw [RE.out, DR.out, all, if_neg (by rw [hov]; simp)])
          have SF2 : Hid (Fine (fun _ => True) (does fu withF withoutF names upB soB l[k].op l[k].args l[k].n (all fu withF withoutF names upB soB l[k].block) s') ∧ (does fu withF withoutF names upB soB l[k].op l[k].args l[k].n (all fu withF withoutF names upB soB l[k].block) s').used ≤ fu) := Lib.hid
            ⟨does_keeps hfu1 _ _ _ (fun _ => trivial) hk1 s' SF.out.1 hov, (does_spends _ _ _ hf1 s' SF.out.2).2⟩
          have q0 : W1.heap[wr.heap.size]? = some (.cells #[.int .i64 l[k].op, .slice A' l[k].args.length ca, .int .i64 l[k].n, .slice B' kb cb] 61 (0, 0)) := by rw [eW]; exact heap_alloc_new wr _
          have d0 : W1.cell? ⟨wr.heap.size, 0, none⟩ = some (.int .i64 l[k].op) := (cell_heap q0 0).trans rfl
          have d1 : W1.cell? ⟨wr.heap.size, 1, none⟩ = some (.slice A' l[k].args.length ca) := (cell_heap q0 1).trans rfl
          have d2 : W1.cell? ⟨wr.heap.size, 2, none⟩ = some (.int .i64 l[k].n) := (cell_heap q0 2).trans rfl
          have d3 : W1.cell? ⟨wr.heap.size, 3, none⟩ = some (.slice B' kb cb) := (cell_heap q0 3).trans rfl
          clear hov hst STP DR g1 g2 g3 g4 g5 hla hsb hb1 hX1 hf1 hk1 q0 RE
          generalize does fu withF withoutF names upB soB l[k].op l[k].args l[k].n (all fu withF withoutF names upB soB l[k].block) s' = s2 at *
          generalize l[k].op = so at *
          generalize l[k].args = sa at *
          generalize l[k].n = sn at *
          go_wp2_with (first
            | (go_at_call 30; rw [← eW]; clear eW; (with_reducible refine (OA.out).mono ?_); rintro e w2 ⟨rfl, rfl⟩)
            | (go_at_call 66; (with_reducible refine (DO.out).mono ?_); rintro e w3 ⟨rfl, h4, h5⟩))
          go_roundw
          case rel => exact ⟨k + 1, s2, by go_num, by omega, F, SF2, Lib.hid h4, HX.out.trans (h5.mono HX.out.size)⟩
          case measure => simp [intOf]; omega
      · obtain rfl : k = l.length := by omega
        have F : Hid (all fu withF withoutF names upB soB l s = s') := Lib.hid (by rw [RE.out, List.drop_length, all])
        go_wp2_with (fail)
        go_end0
        exact EN.out _ s' F.out SM.out hb
end Go.Proofs.YtdidnlkilleljaaGreatDoor.Bx
