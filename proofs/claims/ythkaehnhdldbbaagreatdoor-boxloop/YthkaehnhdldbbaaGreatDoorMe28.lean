/- Joined by mkmerged.py: BxSteps, BxLight, BxSort. -/
import Derived.Test.YthkaehnhdldbbaaGreatDoorMe04
import Derived.Test.YthkaehnhdldbbaaGreatDoorMe26
import Derived.Test.YthkaehnhdldbbaaGreatDoorMe27
import Derived.Deep.RegionHeld3
import Derived.Test.YthkaehnhdldbbaaGreatDoorMe03
import Derived.Test.YthkaehnhdldbbaaGreatDoorMe18
/- BxSteps, what a claim needs of it (prune.py). -/
namespace Go.Proofs.YthkaehnhdldbbaaGreatDoor.Bx
open Lg (Stp pathOk nameOk textOk stepW stepOf blk bk parse Res)
open Fs (B)
set_option linter.unusedVariables false
def StepR (o : Int) (a : List B) : Prop :=
  (o = 1 ∧ a.length = 2 ∧ (a.take 1).all pathOk = true ∧ (a.drop 1).all textOk = true) ∨ (o = 2 ∧ a.length = 2 ∧ a.all pathOk = true) ∨ (o = 3 ∧ 2 ≤ a.length ∧ a.length ≤ 8 ∧ a.all pathOk = true) ∨
  ((o = 4 ∨ o = 5 ∨ o = 6 ∨ o = 10) ∧ a.length = 1 ∧ a.all pathOk = true) ∨ (o = 7 ∧ a.length = 1 ∧ a.all nameOk = true) ∨ (o = 8 ∧ a.length = 1 ∧ a.all textOk = true) ∨ (o = 9 ∧ a = [])
def rightS : List Stp → Prop
  | [] => True
  | ⟨o, a, n, b⟩ :: r => StepR o a ∧ rightS b ∧ rightS r
theorem rightS_app : ∀ {l m : List Stp}, rightS l → rightS m → rightS (l ++ m)
  | [], m, _, h => h
  | ⟨o, a, n, b⟩ :: r, m, h, k => by
    rw [rightS] at h
    rw [List.cons_append, rightS]
    exact ⟨h.1, h.2.1, rightS_app h.2.2 k⟩
theorem stepW_right : ∀ {ws : List B} {o : Int} {a : List B} {n : Int}, stepW ws = some (o, a, n) → StepR o a
  | [], o, a, n, h => by cases h
  | w :: xs, o, a, n, h => by
    unfold stepW at h
    dsimp only at h
    by_cases w1 : w = [112, 117, 116]
    · rw [if_pos w1] at h
      split at h
      · next c => simp only [Option.some.injEq, Prod.mk.injEq] at h; obtain ⟨rfl, rfl, _⟩ := h; exact .inl ⟨rfl, c⟩
      · cases h
    rw [if_neg w1] at h
    by_cases w2 : w = [99, 111, 112, 121]
    · rw [if_pos w2] at h
      split at h
      · next c => simp only [Option.some.injEq, Prod.mk.injEq] at h; obtain ⟨rfl, rfl, _⟩ := h; exact .inr (.inl ⟨rfl, c⟩)
      · cases h
    rw [if_neg w2] at h
    by_cases w3 : w = [99, 97, 116]
    · rw [if_pos w3] at h
      split at h
      · next c => simp only [Option.some.injEq, Prod.mk.injEq] at h; obtain ⟨rfl, rfl, _⟩ := h; exact .inr (.inr (.inl ⟨rfl, c⟩))
      · cases h
    rw [if_neg w3] at h
    by_cases w4 : w = [117, 112, 112, 101, 114]
    · rw [if_pos w4] at h
      split at h
      · next c => simp only [Option.some.injEq, Prod.mk.injEq] at h; obtain ⟨rfl, rfl, _⟩ := h; exact .inr (.inr (.inr (.inl ⟨.inl rfl, c⟩)))
      · cases h
    rw [if_neg w4] at h
    by_cases w5 : w = [115, 111, 114, 116]
    · rw [if_pos w5] at h
      split at h
      · next c => simp only [Option.some.injEq, Prod.mk.injEq] at h; obtain ⟨rfl, rfl, _⟩ := h; exact .inr (.inr (.inr (.inl ⟨.inr (.inl rfl), c⟩)))
      · cases h
    rw [if_neg w5] at h
    by_cases w6 : w = [100, 114, 111, 112]
    · rw [if_pos w6] at h
      split at h
      · next c => simp only [Option.some.injEq, Prod.mk.injEq] at h; obtain ⟨rfl, rfl, _⟩ := h; exact .inr (.inr (.inr (.inl ⟨.inr (.inr (.inl rfl)), c⟩)))
      · cases h
    rw [if_neg w6] at h
    by_cases w7 : w = [110, 101, 101, 100]
    · rw [if_pos w7] at h
      split at h
      · next c => simp only [Option.some.injEq, Prod.mk.injEq] at h; obtain ⟨rfl, rfl, _⟩ := h; exact .inr (.inr (.inr (.inr (.inl ⟨rfl, c⟩))))
      · cases h
    rw [if_neg w7] at h
    by_cases w8 : w = [102, 97, 105, 108]
    · rw [if_pos w8] at h
      split at h
      · next c => simp only [Option.some.injEq, Prod.mk.injEq] at h; obtain ⟨rfl, rfl, _⟩ := h; exact .inr (.inr (.inr (.inr (.inr (.inl ⟨rfl, c⟩)))))
      · cases h
    rw [if_neg w8] at h
    by_cases w9 : w = [108, 111, 111, 112]
    · rw [if_pos w9] at h
      split at h
      · split at h
        · simp only [Option.some.injEq, Prod.mk.injEq] at h; obtain ⟨rfl, rfl, _⟩ := h; exact .inr (.inr (.inr (.inr (.inr (.inr ⟨rfl, rfl⟩)))))
        · cases h
      · cases h
    rw [if_neg w9] at h
    by_cases w10 : w = [105, 102]
    · rw [if_pos w10] at h
      split at h
      · next c => simp only [Option.some.injEq, Prod.mk.injEq] at h; obtain ⟨rfl, rfl, _⟩ := h; exact .inr (.inr (.inr (.inl ⟨.inr (.inr (.inr rfl)), c⟩)))
      · cases h
    rw [if_neg w10] at h
    cases h
theorem rightS_one {o n : Int} {a : List B} {b : List Stp} (h : StepR o a) (hb : rightS b) : rightS [⟨o, a, n, b⟩] := by
  rw [rightS, rightS]; exact ⟨h, hb, trivial⟩
theorem rightS_nil : rightS [] := by rw [rightS]; trivial
theorem blk_right : ∀ (f deep : Nat) (out : List Stp) (lines : List B) (o : List Stp) (r : List B), rightS out → blk f deep out lines = .ok o r → rightS o
  | 0, _, _, _, _, _, _, h => by cases h
  | f + 1, deep, out, [], o, r, ho, h => by
    unfold blk at h
    split at h
    · cases h
    · cases h; exact ho
  | f + 1, deep, out, line :: rest, o, r, ho, h => by
    unfold blk at h
    split at h
    · split at h
      · cases h; exact ho
      · cases h
    · split at h
      · cases h
      · next e =>
        have hs := stepW_right e
        split at h
        · split at h
          · cases h
          · split at h
            · cases h
            · next e2 =>
              have h1 := blk_right f _ [] _ _ _ rightS_nil e2
              exact blk_right f _ _ _ _ _ (rightS_app ho (rightS_one hs h1)) h
        · exact blk_right f _ _ _ _ _ (rightS_app ho (rightS_one hs rightS_nil)) h
theorem parse_right {cmd : B} : rightS (parse cmd).1 := by
  unfold parse
  split
  · exact rightS_nil
  split
  · exact rightS_nil
  split
  · exact rightS_nil
  split
  · exact rightS_nil
  cases e : bk 0 [] (Lg.splitB 10 cmd.dropLast) with
  | ok out r => exact blk_right _ _ _ _ _ _ rightS_nil e
  | err k => exact rightS_nil
end Go.Proofs.YthkaehnhdldbbaaGreatDoor.Bx
/- BxLight, what a claim needs of it (prune.py). -/
namespace Go.Proofs.YthkaehnhdldbbaaGreatDoor.Bx
open Go.RowKit
open Lg (BelowX Lies strV)
open Fs (fc fc_len fc_cell Fls Env B)
set_option linter.unusedVariables false
set_option maxRecDepth 100000
def lightP (names : List B) (o : Int) (a : List B) (n : Int) (f : St → St) (s : St) : St :=
  if o = 6 then { s with files := withoutF s.files (a.getD 0 []) }
  else if o = 7 then (if a.getD 0 [] ∈ names then s else { s with kind := 2, need := a.getD 0 [] })
  else if o = 8 then fail 33 (a.getD 0 []) s
  else if o = 9 then loopF f n.toNat s
  else if o = 10 then (if (Fs.get s.files (a.getD 0 [])).isSome then f s else s)
  else s
theorem does_light {fu : Nat} {names : List B} {up so : B → B} {o n : Int} {a : List B} {f : St → St} {s : St} (h : 6 ≤ o) : does fu withF withoutF names up so o a n f s = spend fu 1 (lightP names o a n f) s := by
  unfold does
  rw [if_neg (by omega), if_neg (by omega), if_neg (by omega), if_neg (by omega), if_neg (by omega)]
  rfl
theorem word_at {w : World} {ok : Nat → Prop} {A : Option Addr} {a : List B} {n : Nat} (h : Lies w ok 1 A n (strV a)) (hn : n = a.length) {k : Nat} (hk : k < a.length) : ∃ ad, A = some ad ∧ ok ad.block ∧ ad.block < w.heap.size ∧ w.cell? (ad.add k) = some (.string (bs (a.getD k []))) := by
  subst hn
  obtain ⟨ad, e, ho, hc⟩ := h.2 (by omega)
  have h1 : (strV a)[k]? = some (.string (bs (a.getD k []))) := by rw [List.getElem?_map, List.getElem?_eq_getElem hk]; simp [List.getD, hk]; rfl
  have hcell := hc k _ h1
  refine ⟨ad, e, ho, ?_, hcell⟩
  have := Fs.cell_lt hcell
  rwa [block_of_add] at this
structure Doing (w : World) (b fu : Nat) (N : Option Addr) (nn nc : Nat) (names : List B) (s : St) (Ab : Option Addr) (nb cb : Nat) (f : St → St) : Prop where
  env : EnvB b w
  fine : Fine (fun _ => True) s
  on : over s = false
  used : s.used ≤ fu
  fu1 : 1 ≤ fu
  fu2 : fu ≤ 2000
  nms : Lies w (fun k => k ≠ b) 1 N nn (strV names)
  nml : nn = names.length
  nmz : names.length ≤ 1000000
  blk : ∀ W s', BelowX w.heap.size b w W → StM W b fu N nn nc s' → Fine (fun _ => True) s' → over s' = false → s'.used ≤ fu → Calls Tryz.prog 32 #[.pointer (some ⟨b, 0, none⟩), .slice Ab nb cb] W (Went b fu N nn nc W (f s'))
  fair : Fair fu f
  keep : Keeps (fun _ => True) f
set_option maxHeartbeats 8000000 in
theorem light_any {w : World} {b fu : Nat} {N A : Option Addr} {nn nc c : Nat} {names : List B} {s : St} {Ab : Option Addr} {nb cb : Nat} {f : St → St} (hD : Doing w b fu N nn nc names s Ab nb cb f) (h : StAt w b fu N nn nc A c s)
    (o n : Int) (a : List B) (Aa : Option Addr) (ca : Nat) (hargs : Lies w (fun k => k ≠ b) 1 Aa a.length (strV a)) (hca : a.length ≤ ca) (hsr : StepR o a) (haz : (a.getD 0 []).length ≤ 1000000000) (hn63 : n ≤ 9223372036854775807) (ho6 : 6 ≤ o) :
    Calls Tryz.prog 124 #[.pointer (some ⟨b, 0, none⟩), .agg #[.int .i64 o, .slice Aa a.length ca, .int .i64 n, .slice Ab nb cb]] w (Went b fu N nn nc w (lightP names o a n f s)) := by
  have hbw := lt_heap h.blk
  have AZ := Lib.hid haz
  clear haz
  obtain ⟨W1, eW⟩ : ∃ W1, W1 = w.alloc (.cells #[.int .i64 o, .slice Aa a.length ca, .int .i64 n, .slice Ab nb cb] 42) := ⟨_, rfl⟩
  have hb1 : Below w.heap.size w W1 := by rw [eW]; exact (Below.refl _ _).alloc (Nat.le_refl _) _
  have q0 : W1.heap[w.heap.size]? = some (.cells #[.int .i64 o, .slice Aa a.length ca, .int .i64 n, .slice Ab nb cb] 42 (0, 0)) := by rw [eW]; exact heap_alloc_new w _
  have hw1 := hb1.size
  have hlt1 := lt_heap q0
  have d0 : W1.cell? ⟨w.heap.size, 0, none⟩ = some (.int .i64 o) := (cell_heap q0 0).trans rfl
  have X1 : Hid (∀ W, BelowX W1.heap.size b W1 W → W.cell? ⟨w.heap.size, 1, none⟩ = some (.slice Aa a.length ca) ∧ W.cell? ⟨w.heap.size, 2, none⟩ = some (.int .i64 n) ∧ W.cell? ⟨w.heap.size, 3, none⟩ = some (.slice Ab nb cb)) := Lib.hid fun W hW => by
    have := (hW.block _ hlt1 (by omega)).trans q0
    exact ⟨(cell_heap this 1).trans rfl, (cell_heap this 2).trans rfl, (cell_heap this 3).trans rfl⟩
  obtain ⟨x1, x2, x3⟩ := X1.out W1 (BelowX.refl _ _ _)
  have H1 : Hid (StAt W1 b fu N nn nc A c s) := Lib.hid (h.keep hb1)
  have WB := Lib.hid (fun W (hW : BelowX W1.heap.size b W1 W) => (BelowX.of hb1).trans (hW.mono hw1))
  have EN : Hid (∀ e W w', BelowX W1.heap.size b W1 W → Went b fu N nn nc W (lightP names o a n f s) e w' → Went b fu N nn nc w (lightP names o a n f s) e w') := Lib.hid fun e W w' hW hh => Went.after (WB.out W hW) hh
  have AR : Hid (0 < a.length → ∃ ad, Aa = some ad ∧ (∀ W, BelowX W1.heap.size b W1 W → W.cell? ad = some (.string (bs (a.getD 0 []))))) := Lib.hid fun h0 => by
    obtain ⟨ad, e1, e2, e3, e4⟩ := word_at hargs rfl h0
    refine ⟨ad, e1, fun W hW => ?_⟩
    rw [show ad.add 0 = ad from rfl] at e4
    exact ((WB.out W hW).cell e3 e2).trans e4
  have hq : Went b fu N nn nc w (lightP names o a n f s) = Went b fu N nn nc w (lightP names o a n f s) := rfl
  unfold StepR at hsr
  have hcases : (o = 6 ∧ a.length = 1) ∨ (o = 7 ∧ a.length = 1) ∨ (o = 8 ∧ a.length = 1) ∨ o = 9 ∨ (o = 10 ∧ a.length = 1) := by
    rcases hsr with h | h | h | h | h | h | h
    · omega
    · omega
    · omega
    · rcases h with ⟨h | h | h | h, h2, _⟩
      · omega
      · omega
      · exact .inl ⟨h, h2⟩
      · exact .inr (.inr (.inr (.inr ⟨h, h2⟩)))
    · exact .inr (.inl ⟨h.1, h.2.1⟩)
    · exact .inr (.inr (.inl ⟨h.1, h.2.1⟩))
    · exact .inr (.inr (.inr (.inl h.1)))
  have hb1k := Lib.hid (fun k => belowDN hb1 k)
  clear hsr hargs h q0 hb1 hq
  rcases hcases with ⟨rfl, ha⟩ | ⟨rfl, ha⟩ | ⟨rfl, ha⟩ | rfl | ⟨rfl, ha⟩
  · obtain ⟨ad, rfl, hx⟩ := AR.out (by omega)
    have L : Hid (lightP names 6 a n f s = { s with files := withoutF s.files (a.getD 0 []) }) := Lib.hid (by unfold lightP; rw [if_pos rfl])
    have i0 : (0 : Int) < (a.length : Int) := by omega
    have i1 : 0 < a.length := by omega
    have hR := hD.fine.files
    have hl32 := hR.len
    have SX : Hid (∀ W, Below W1.heap.size W1 W → W.cell? ⟨b, 0, none⟩ = some (.slice A s.files.length c) ∧ W.cell? ⟨w.heap.size, 1, none⟩ = some (.slice (some ad) a.length ca) ∧ W.cell? ad = some (.string (bs (a.getD 0 [])))) := Lib.hid fun W hW => ⟨(cell_heap (H1.out.keep hW).blk 0).trans rfl, (X1.out W (.of hW)).1, hx W (.of hW)⟩
    have WO : Hid (∀ W, Below W1.heap.size W1 W → Calls Tryz.prog 175 #[.slice A s.files.length c, .string (bs (a.getD 0 []))] W (Fs.FilesOwn (withoutF s.files (a.getD 0 [])) W)) := Lib.hid fun W hW => without_any A s.files c (bs (a.getD 0 [])) W (H1.out.keep hW).flsr (by omega) (by rw [Fs.bs_len]; exact AZ.out)
    obtain ⟨y1, y2, y3⟩ := SX.out W1 (Below.refl _ _)
    have dA : Below W1.heap.size W1 W1.drew := (Below.refl _ _).drew
    have hbW : b < W1.heap.size := by omega
    clear ho6 AR ha hx
    generalize bs (a.getD 0 []) = q at *
    go_enter Tryz.func124, Tryz.ntmps124
    go_wp2_with (fail)
    rw [← eW]
    clear eW
    go_region_with (go_at_call 175; (with_reducible refine (WO.out _ dA).mono ?_); rintro e w2 ⟨v2, rfl, ho2, hb2⟩; have h2 : Below W1.heap.size W1 w2 := dA.trans (hb2.mono dA.size); have PT := Lib.hid (StAt.filed (H1.out.keep dA) hb2 ho2 hbW); obtain ⟨vA, vn, vc, rfl⟩ := own_form ho2; have c2 := (SX.out _ h2).1; have f2 : w2.frozen? ⟨b, 0, none⟩ = false := frozen_heap (H1.out.keep h2).blk 0; clear ho2)
    all_goals
      go_wp2_with (fail)
      go_end0
      refine EN.out _ W1 _ (BelowX.refl _ _ _) ⟨rfl, ?_, ((BelowX.of h2).setX (p := ⟨b, 0, none⟩) rfl _)⟩
      rw [L.out]
      exact PT.out
  · obtain ⟨ad, rfl, hx⟩ := AR.out (by omega)
    have hx0 := hx W1 (BelowX.refl _ _ _)
    have i0 : (0 : Int) < (a.length : Int) := by omega
    have i1 : 0 < a.length := by omega
    have hnz := hD.nml
    have hnl := hD.nmz
    have c10 : W1.cell? ⟨b, 1, none⟩ = some (.slice N nn nc) := (cell_heap H1.out.blk 1).trans rfl
    have CO : Hid (∀ k, Calls Tryz.prog 176 #[.slice N nn nc, .string (bs (a.getD 0 []))] (W1.drewN k) fun e w' => e = .returned (.bool (decide (a.getD 0 [] ∈ names))) ∧ w' = W1.drewN k) := Lib.hid fun k => by
      have hr := (hD.nms.mono (ok' := fun k => k ≠ b) (w' := W1.drewN k) (by decide) fun g hg hs => ⟨hg, (hb1k.out k).block g hs⟩).reads (by decide)
      have := contains_any N names nc (a.getD 0 []) (W1.drewN k) (by rw [← hnz]; exact hr) (by omega)
      rw [← hnz] at this
      exact this.mono fun _ _ ⟨h1, h2⟩ => ⟨h1, h2.symm⟩
    have c13 : W1.cell? ⟨b, 3, none⟩ = some (.int .i64 s.kind) := (cell_heap H1.out.blk 3).trans rfl
    have c15 : W1.cell? ⟨b, 5, none⟩ = some (.string (bs s.need)) := (cell_heap H1.out.blk 5).trans rfl
    have f13 := frozen_heap H1.out.blk 3
    have f15 := frozen_heap H1.out.blk 5
    by_cases hm : a.getD 0 [] ∈ names
    · have L : Hid (lightP names 7 a n f s = s) := Lib.hid (by unfold lightP; rw [if_neg (by decide), if_pos rfl, if_pos hm])
      rw [decide_eq_true hm] at CO
      clear ho6 AR hx ha hm hnz hnl
      generalize a.getD 0 [] = q at *
      go_enter Tryz.func124, Tryz.ntmps124
      go_wp2_with (fail)
      rw [← eW]
      clear eW
      go_quiet ((go_at_call 176; exact Calls.quiet_of_same (CO.out _)))
      go_wp2_with (fail)
      go_end0
      refine EN.out _ W1 _ (BelowX.refl _ _ _) ⟨rfl, ?_, (BelowX.refl _ _ _).drewN _⟩
      rw [L.out]
      exact ⟨A, c, H1.out.drewN _⟩
    · have L : Hid (lightP names 7 a n f s = { s with kind := 2, need := a.getD 0 [] }) := Lib.hid (by unfold lightP; rw [if_neg (by decide), if_pos rfl, if_neg hm])
      rw [decide_eq_false hm] at CO
      have X1d : Hid (∀ k, (W1.drewN k).cell? ⟨w.heap.size, 1, none⟩ = some (.slice (some ad) a.length ca)) := Lib.hid fun k => x1
      clear ho6 AR hx ha hm hnz hnl
      generalize a.getD 0 [] = q at *
      go_enter Tryz.func124, Tryz.ntmps124
      go_wp2_with (fail)
      rw [← eW]
      clear eW
      go_quiet ((go_at_call 176; exact Calls.quiet_of_same (CO.out _)))
      go_wp2_with (fail)
      go_end0
      refine EN.out _ W1 _ (BelowX.refl _ _ _) ⟨rfl, ?_, (((BelowX.refl _ b _).drewN _).setX (p := ⟨b, 3, none⟩) rfl _).setX (p := ⟨b, 5, none⟩) rfl _⟩
      rw [L.out]
      exact ⟨A, c, (H1.out.drewN _).set (s' := { s with kind := 2, need := q }) rfl ((heap_set (heap_set (H1.out.drewN _).blk)).trans rfl) (fun g hg => (heap_set_ne hg.symm).trans (heap_set_ne hg.symm))⟩
  · obtain ⟨ad, rfl, hx⟩ := AR.out (by omega)
    have hx0 := hx W1 (BelowX.refl _ _ _)
    have L : Hid (lightP names 8 a n f s = fail 33 (a.getD 0 []) s) := Lib.hid (by unfold lightP; rw [if_neg (by decide), if_neg (by decide), if_pos rfl])
    have FA := Lib.hid (fail_any H1.out 33 (a.getD 0 []))
    have i0 : (0 : Int) < (a.length : Int) := by omega
    have i1 : 0 < a.length := by omega
    clear ho6 AR hx ha
    rw [eW] at hx0
    generalize a.getD 0 [] = q at *
    go_enter Tryz.func124, Tryz.ntmps124
    go_wp2_with (go_at_call 173; rw [← eW]; clear eW; (with_reducible refine (FA.out).mono ?_); rintro e w2 ⟨rfl, h2, h3⟩)
    go_end0
    exact EN.out _ W1 _ (BelowX.refl _ _ _) ⟨rfl, by rw [L.out]; exact h2, h3⟩
  · have L : Hid (lightP names 9 a n f s = loopF f n.toNat s) := Lib.hid (by unfold lightP; rw [if_neg (by decide), if_neg (by decide), if_neg (by decide), if_pos rfl])
    rw [eW] at d0 x2
    have FU := Lib.hid hD.fine
    have US := Lib.hid hD.used
    have ON := Lib.hid hD.on
    have FAIR := Lib.hid hD.fair
    have KEEP := Lib.hid hD.keep
    have BLK := Lib.hid (fun W s' (hW : BelowX W1.heap.size b W1 W) => hD.blk W s' (WB.out W hW))
    have EN2 : Hid (∀ e W, StM W b fu N nn nc (loopF f n.toNat s) → BelowX W1.heap.size b W1 W → e = .returned (.tuple #[]) → Went b fu N nn nc w (lightP names 9 a n f s) e W) := Lib.hid fun e W h1 h2 h3 => EN.out _ W1 _ (BelowX.refl _ _ _) ⟨h3, by rw [L.out]; exact h1, h2⟩
    clear ho6 AR hD EN L
    generalize Went b fu N nn nc w (lightP names 9 a n f s) = Q at *
    go_enter Tryz.func124, Tryz.ntmps124
    go_wp2_with (fail)
    rw [← eW]
    go_loopw [58] (fun i W => ∃ (k : Nat) (s' : St), i = .int .i64 k ∧ k ≤ n.toNat ∧ Hid (loopF f n.toNat s = loopF f (n.toNat - k) s') ∧ Hid (Fine (fun _ => True) s' ∧ over s' = false ∧ s'.used ≤ fu) ∧ Hid (StM W b fu N nn nc s') ∧ BelowX W1.heap.size b W1 W) (fun i _ => n.toNat - (intOf i).toNat)
    case atStart => exact ⟨0, s, rfl, by omega, Lib.hid rfl, Lib.hid ⟨FU.out, ON.out, US.out⟩, Lib.hid ⟨A, c, H1.out⟩, BelowX.refl _ _ _⟩
    case round =>
      obtain ⟨k, s', rfl, hk, RE, SF, SM, hb⟩ := hrel
      by_cases hlt : k < n.toNat
      · have hkI : (k : Int) < n := by omega
        obtain ⟨x1', x2', x3'⟩ := X1.out wr hb
        have AL := Lib.hid (BLK.out wr s' hb SM.out SF.out.1 SF.out.2.1 SF.out.2.2)
        have FK := Lib.hid (KEEP.out s' SF.out.1 SF.out.2.1)
        have UK := Lib.hid (FAIR.out.used s' SF.out.2.2)
        have NX : Hid (loopF f (n.toNat - k) s' = if over (f s') = true then f s' else loopF f (n.toNat - (k + 1)) (f s')) := Lib.hid (by
          rw [show n.toNat - k = (n.toNat - (k + 1)) + 1 by omega, loopF])
        cases hov : over (f s') with
        | true =>
          have F : Hid (loopF f n.toNat s = f s') := Lib.hid (by rw [RE.out, NX.out, if_pos hov])
          have OV := Lib.hid hov
          clear hov NX
          go_wp2_with (first
            | (go_at_call 32; (with_reducible refine (AL.out).mono ?_); rintro e w2 ⟨rfl, h2, h3⟩; have SM2 := Lib.hid h2; obtain ⟨A2, c2, h2⟩ := h2; have OA : Hid (Calls Tryz.prog 33 #[.pointer (some ⟨b, 0, none⟩)] w2 fun e w' => e = .returned (.bool true) ∧ w2 = w') := Lib.hid (by rw [← OV.out]; exact over_any h2); clear h2)
            | (go_at_call 33; (with_reducible refine (OA.out).mono ?_); rintro e w3 ⟨rfl, rfl⟩))
          go_end0
          exact EN2.out _ _ (by rw [F.out]; exact SM2.out) (hb.trans (h3.mono hb.size)) rfl
        | false =>
          have F : Hid (loopF f n.toNat s = loopF f (n.toNat - (k + 1)) (f s')) := Lib.hid (by rw [RE.out, NX.out, if_neg (by simp [hov])])
          have OV := Lib.hid hov
          clear hov NX
          go_wp2_with (first
            | (go_at_call 32; (with_reducible refine (AL.out).mono ?_); rintro e w2 ⟨rfl, h2, h3⟩; have SM2 := Lib.hid h2; obtain ⟨A2, c2, h2⟩ := h2; have OA : Hid (Calls Tryz.prog 33 #[.pointer (some ⟨b, 0, none⟩)] w2 fun e w' => e = .returned (.bool false) ∧ w2 = w') := Lib.hid (by rw [← OV.out]; exact over_any h2); clear h2)
            | (go_at_call 33; (with_reducible refine (OA.out).mono ?_); rintro e w3 ⟨rfl, rfl⟩))
          go_roundw
          case rel => exact ⟨k + 1, f s', by go_num, by omega, F, Lib.hid ⟨FK.out, OV.out, UK.out.2⟩, SM2, hb.trans (h3.mono hb.size)⟩
          case measure => simp [intOf]; omega
      · obtain rfl : k = n.toNat := by omega
        have hkI : ¬ ((n.toNat : Int) < n) := by omega
        have F : Hid (loopF f n.toNat s = s') := Lib.hid (by rw [RE.out, Nat.sub_self, loopF])
        go_wp2_with (fail)
        go_end0
        exact EN2.out _ _ (by rw [F.out]; exact SM.out) hb rfl
  · obtain ⟨ad, rfl, hx⟩ := AR.out (by omega)
    have i0 : (0 : Int) < (a.length : Int) := by omega
    have i1 : 0 < a.length := by omega
    have hl32 := hD.fine.files.len
    have SX : Hid (∀ W, Below W1.heap.size W1 W → W.cell? ⟨b, 0, none⟩ = some (.slice A s.files.length c) ∧ W.cell? ⟨w.heap.size, 1, none⟩ = some (.slice (some ad) a.length ca) ∧ W.cell? ad = some (.string (bs (a.getD 0 [])))) := Lib.hid fun W hW => ⟨(cell_heap (H1.out.keep hW).blk 0).trans rfl, (X1.out W (.of hW)).1, hx W (.of hW)⟩
    have GE : Hid (∀ W, Below W1.heap.size W1 W → Calls Tryz.prog 82 #[.slice A s.files.length c, .string (bs (a.getD 0 []))] W (Fs.GetSays s.files (a.getD 0 []) W)) := Lib.hid fun W hW => Fs.get_any A s.files c (bs (a.getD 0 [])) W (H1.out.keep hW).flsr (by omega)
    have BLK := Lib.hid (fun W s' (hW : BelowX W1.heap.size b W1 W) => hD.blk W s' (WB.out W hW))
    have ST := Lib.hid (And.intro hD.fine (And.intro hD.on hD.used))
    have s0 := fun W hW => (SX.out W hW).1
    have s1 := fun W hW => (SX.out W hW).2.1
    have s2 := fun W hW => (SX.out W hW).2.2
    cases hg : Fs.get s.files (a.getD 0 []) with
    | none =>
      have L : Hid (lightP names 10 a n f s = s) := Lib.hid (by unfold lightP; rw [if_neg (by decide), if_neg (by decide), if_neg (by decide), if_neg (by decide), if_pos rfl, if_neg (by rw [hg]; simp)])
      have G2 : Hid (∀ W, Below W1.heap.size W1 W → Calls Tryz.prog 82 #[.slice A s.files.length c, .string (bs (a.getD 0 []))] W fun e w' => e = .returned (.tuple #[.string ⟨#[]⟩, .bool false]) ∧ Below W.heap.size W w') := Lib.hid fun W hW => (GE.out W hW).mono fun e w' hh => by
        unfold Fs.GetSays at hh
        rw [hg] at hh
        exact hh
      clear ho6 AR hx ha hg GE BLK ST
      generalize a.getD 0 [] = q at *
      go_enter Tryz.func124, Tryz.ntmps124
      go_wp2_with (fail)
      rw [← eW]
      clear eW
      refine wp_region_cls (C := fun w' => Below W1.heap.size W1 w') (by kernel_rfl) (by kernel_rfl) (Below.refl _ _).drew ?_
      repeat (first | go_big_quiet_skip | quiet_step (first | (intro _; rfl) | (intro _; rw [if_neg (by omega)]; exact ⟨rfl, rfl⟩) | (intro hss; (first | rw [s0 _ hss] | rw [s1 _ hss] | rw [s2 _ hss]); exact ⟨rfl, rfl⟩) | (intro hss; go_at_call 82; (with_reducible refine (G2.out _ hss).mono ?_); rintro e w4 ⟨rfl, hb4⟩; exact ⟨rfl, hss.trans (hb4.mono hss.size)⟩)))
      refine wpQuiet_nil ?_
      intro w2 hb2
      go_wp2
      go_end0
      refine EN.out _ W1 _ (BelowX.refl _ _ _) ⟨rfl, ?_, .of hb2⟩
      rw [L.out]
      exact ⟨A, c, H1.out.keep hb2⟩
    | some d =>
      have L : Hid (lightP names 10 a n f s = f s) := Lib.hid (by unfold lightP; rw [if_neg (by decide), if_neg (by decide), if_neg (by decide), if_neg (by decide), if_pos rfl, if_pos (by rw [hg]; simp)])
      have G2 : Hid (∀ W, Below W1.heap.size W1 W → Calls Tryz.prog 82 #[.slice A s.files.length c, .string (bs (a.getD 0 []))] W fun e w' => e = .returned (.tuple #[.string d, .bool true]) ∧ Below W.heap.size W w') := Lib.hid fun W hW => (GE.out W hW).mono fun e w' hh => by
        unfold Fs.GetSays at hh
        rw [hg] at hh
        exact hh
      clear ho6 AR hx ha hg GE
      generalize a.getD 0 [] = q at *
      go_enter Tryz.func124, Tryz.ntmps124
      go_wp2_with (fail)
      rw [← eW]
      clear eW
      refine wp_region_cls (C := fun w' => Below W1.heap.size W1 w') (by kernel_rfl) (by kernel_rfl) (Below.refl _ _).drew ?_
      repeat (first | go_big_quiet_skip | quiet_step (first | (intro _; rfl) | (intro _; rw [if_neg (by omega)]; exact ⟨rfl, rfl⟩) | (intro hss; (first | rw [s0 _ hss] | rw [s1 _ hss] | rw [s2 _ hss]); exact ⟨rfl, rfl⟩) | (intro hss; go_at_call 82; (with_reducible refine (G2.out _ hss).mono ?_); rintro e w4 ⟨rfl, hb4⟩; exact ⟨rfl, hss.trans (hb4.mono hss.size)⟩)))
      refine wpQuiet_nil ?_
      intro w2 hb2
      obtain ⟨x1', x2', x3'⟩ := X1.out w2 (.of hb2)
      have AL := Lib.hid (BLK.out w2 s (.of hb2) ⟨A, c, H1.out.keep hb2⟩ ST.out.1 ST.out.2.1 ST.out.2.2)
      go_wp2_with (go_at_call 32; (with_reducible refine (AL.out).mono ?_); rintro e w3 ⟨rfl, h3, h4⟩)
      go_end0
      exact EN.out _ w2 _ (.of hb2) ⟨rfl, by rw [L.out]; exact h3, h4⟩
end Go.Proofs.YthkaehnhdldbbaaGreatDoor.Bx
/- BxSort, what a claim needs of it (prune.py). -/
namespace Go.Proofs.YthkaehnhdldbbaaGreatDoor.Bx
open Fs (B)
set_option linter.unusedVariables false
def upC (c : UInt8) : UInt8 := if 97 ≤ c.toNat ∧ c.toNat ≤ 122 then c - 32 else c
def upB (s : B) : B := s.map upC
theorem upC_twice (c : UInt8) : upC (upC c) = upC c := by
  unfold upC
  by_cases h : 97 ≤ c.toNat ∧ c.toNat ≤ 122
  · rw [if_pos h]
    refine if_neg ?_
    have : (c - 32).toNat = c.toNat - 32 := by
      rw [UInt8.toNat_sub_of_le]
      · rfl
      · rw [UInt8.le_iff_toNat_le]; show 32 ≤ c.toNat; omega
    omega
  · rw [if_neg h, if_neg h]
theorem upB_twice (s : B) : upB (upB s) = upB s := by
  unfold upB
  rw [List.map_map]
  exact List.map_congr_left fun c _ => upC_twice c
theorem upB_len (s : B) : (upB s).length = s.length := List.length_map ..
def trim (s : B) : B := if s.getLast? = some 10 then s.dropLast else s
def linesB (s : B) : List B := if s = [] then [] else (Lg.splitB 10 (trim s)).map (· ++ [10])
def sortL (l : List B) : List B := l.mergeSort fun x y => decide (x ≤ y)
def soB (s : B) : B := (sortL (linesB s)).flatten
theorem flat_join : ∀ {l : List B}, l ≠ [] → (l.map (· ++ [10])).flatten = Lg.joinB 10 l ++ [10]
  | [], h => absurd rfl h
  | [a], _ => by simp [Lg.joinB]
  | a :: b :: l, _ => by
    have := flat_join (l := b :: l) (by simp)
    rw [List.map_cons, List.flatten_cons, this, Lg.joinB]
    simp
theorem trim_add (s : B) : trim (s ++ [10]) = s := by
  unfold trim
  rw [if_pos (by simp)]
  simp
def full (s : B) : B := if s = [] then [] else trim s ++ [10]
theorem lines_flat (s : B) : (linesB s).flatten = full s := by
  unfold linesB full
  by_cases h : s = []
  · rw [if_pos h, if_pos h]; rfl
  · rw [if_neg h, if_neg h, flat_join (Lg.splitB_ne _ _), Lg.join_split]
theorem full_eq {s : B} : full s = if s = [] then [] else if s.getLast? = some 10 then s else s ++ [10] := by
  unfold full trim
  by_cases h : s = []
  · rw [if_pos h, if_pos h]
  · rw [if_neg h, if_neg h]
    by_cases h2 : s.getLast? = some 10
    · rw [if_pos h2, if_pos h2]
      have h3 : s.getLast h = 10 := by rw [List.getLast?_eq_some_getLast h] at h2; exact Option.some.inj h2
      rw [← h3]
      exact List.dropLast_concat_getLast h
    · rw [if_neg h2, if_neg h2]
theorem so_perm (s : B) : (soB s).Perm (full s) := by
  rw [← lines_flat]
  exact (List.mergeSort_perm _ _).flatten
theorem so_len (s : B) : (soB s).length = (full s).length := (so_perm s).length_eq
theorem sort_rises (l : List B) : (sortL l).Pairwise (· ≤ ·) := Fs.sorted_pair l
theorem lines_parts (s : B) : ∃ ps : List B, linesB s = ps.map (· ++ [10]) ∧ ∀ p ∈ ps, (10 : UInt8) ∉ p := by
  unfold linesB
  by_cases h : s = []
  · rw [if_pos h]; exact ⟨[], rfl, by simp⟩
  · rw [if_neg h]; exact ⟨_, rfl, Lg.split_mem 10 _⟩
theorem sort_parts (s : B) : ∃ ps : List B, sortL (linesB s) = ps.map (· ++ [10]) ∧ (∀ p ∈ ps, (10 : UInt8) ∉ p) := by
  obtain ⟨ps, h1, h2⟩ := lines_parts s
  have key : ∀ x ∈ sortL (linesB s), ∃ p, x = p ++ [10] ∧ (10 : UInt8) ∉ p := fun x hx => by
    have := (List.mergeSort_perm _ _).mem_iff.1 hx
    rw [h1] at this
    obtain ⟨p, hp, rfl⟩ := List.mem_map.1 this
    exact ⟨p, rfl, h2 p hp⟩
  refine ⟨(sortL (linesB s)).map List.dropLast, ?_, fun p hp => ?_⟩
  · rw [List.map_map]
    conv => lhs; rw [← List.map_id (sortL (linesB s))]
    refine List.map_congr_left fun x hx => ?_
    obtain ⟨p, rfl, _⟩ := key x hx
    simp
  · obtain ⟨x, hx, rfl⟩ := List.mem_map.1 hp
    obtain ⟨p, rfl, h⟩ := key x hx
    simpa using h
theorem lines_so (s : B) : linesB (soB s) = sortL (linesB s) := by
  obtain ⟨ps, h1, h2⟩ := sort_parts s
  unfold soB
  rw [h1]
  by_cases h : ps = []
  · subst h; rfl
  · rw [flat_join h]
    unfold linesB
    rw [if_neg (by simp), trim_add, Lg.split_join h h2]
theorem so_twice (s : B) : soB (soB s) = soB s := by
  show (sortL (linesB (soB s))).flatten = soB s
  rw [lines_so]
  show (sortL (sortL (linesB s))).flatten = (sortL (linesB s)).flatten
  congr 1
  refine List.mergeSort_of_pairwise ?_
  exact (sort_rises _).imp fun h => decide_eq_true h
end Go.Proofs.YthkaehnhdldbbaaGreatDoor.Bx
