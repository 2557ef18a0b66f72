/- Joined by mkmerged.py: BxSteps, BxLight, BxSort, BxOut, BxUpper. -/
import Derived.Test.YtdidnlkilleljaaGreatDoorMf04
import Derived.Test.YtdidnlkilleljaaGreatDoorMf24
import Derived.Deep.RegionHeld3
import Derived.Test.YtdidnlkilleljaaGreatDoorMf03
import Derived.Test.YtdidnlkilleljaaGreatDoorMf18
import Derived.Laws.IdiomStrings
import Derived.IntWalk
/- BxSteps, what a claim needs of it (prune.py). -/
namespace Go.Proofs.YtdidnlkilleljaaGreatDoor.Bx
open Lg (Stp pathOk nameOk textOk stepW stepOf blk bk parse Res)
open Fs (B)
set_option linter.unusedVariables false
def StepR (o : Int) (a : List B) : Prop :=
  (o = 1 ∧ a.length = 2 ∧ (a.take 1).all pathOk = true ∧ (a.drop 1).all textOk = true) ∨ (o = 2 ∧ a.length = 2 ∧ a.all pathOk = true) ∨ (o = 3 ∧ 2 ≤ a.length ∧ a.length ≤ 8 ∧ a.all pathOk = true) ∨
  ((o = 4 ∨ o = 5 ∨ o = 6 ∨ o = 10) ∧ a.length = 1 ∧ a.all pathOk = true) ∨ (o = 7 ∧ a.length = 1 ∧ a.all nameOk = true) ∨ (o = 8 ∧ a.length = 1 ∧ a.all textOk = true) ∨ (o = 9 ∧ a = [])
def rightS : List Stp → Prop
  | [] => True
  | ⟨o, a, n, b⟩ :: r => StepR o a ∧ rightS b ∧ rightS r
theorem rightS_app : ∀ {l m : List Stp}, rightS l → rightS m → rightS (l ++ m)
  | [], m, _, h => h
  | ⟨o, a, n, b⟩ :: r, m, h, k => by
    rw [rightS] at h
    rw [List.cons_append, rightS]
    exact ⟨h.1, h.2.1, rightS_app h.2.2 k⟩
theorem stepW_right : ∀ {ws : List B} {o : Int} {a : List B} {n : Int}, stepW ws = some (o, a, n) → StepR o a
  | [], o, a, n, h => by cases h
  | w :: xs, o, a, n, h => by
    unfold stepW at h
    dsimp only at h
    by_cases w1 : w = [112, 117, 116]
    · rw [if_pos w1] at h
      split at h
      · next c => simp only [Option.some.injEq, Prod.mk.injEq] at h; obtain ⟨rfl, rfl, _⟩ := h; exact .inl ⟨rfl, c⟩
      · cases h
    rw [if_neg w1] at h
    by_cases w2 : w = [99, 111, 112, 121]
    · rw [if_pos w2] at h
      split at h
      · next c => simp only [Option.some.injEq, Prod.mk.injEq] at h; obtain ⟨rfl, rfl, _⟩ := h; exact .inr (.inl ⟨rfl, c⟩)
      · cases h
    rw [if_neg w2] at h
    by_cases w3 : w = [99, 97, 116]
    · rw [if_pos w3] at h
      split at h
      · next c => simp only [Option.some.injEq, Prod.mk.injEq] at h; obtain ⟨rfl, rfl, _⟩ := h; exact .inr (.inr (.inl ⟨rfl, c⟩))
      · cases h
    rw [if_neg w3] at h
    by_cases w4 : w = [117, 112, 112, 101, 114]
    · rw [if_pos w4] at h
      split at h
      · next c => simp only [Option.some.injEq, Prod.mk.injEq] at h; obtain ⟨rfl, rfl, _⟩ := h; exact .inr (.inr (.inr (.inl ⟨.inl rfl, c⟩)))
      · cases h
    rw [if_neg w4] at h
    by_cases w5 : w = [115, 111, 114, 116]
    · rw [if_pos w5] at h
      split at h
      · next c => simp only [Option.some.injEq, Prod.mk.injEq] at h; obtain ⟨rfl, rfl, _⟩ := h; exact .inr (.inr (.inr (.inl ⟨.inr (.inl rfl), c⟩)))
      · cases h
    rw [if_neg w5] at h
    by_cases w6 : w = [100, 114, 111, 112]
    · rw [if_pos w6] at h
      split at h
      · next c => simp only [Option.some.injEq, Prod.mk.injEq] at h; obtain ⟨rfl, rfl, _⟩ := h; exact .inr (.inr (.inr (.inl ⟨.inr (.inr (.inl rfl)), c⟩)))
      · cases h
    rw [if_neg w6] at h
    by_cases w7 : w = [110, 101, 101, 100]
    · rw [if_pos w7] at h
      split at h
      · next c => simp only [Option.some.injEq, Prod.mk.injEq] at h; obtain ⟨rfl, rfl, _⟩ := h; exact .inr (.inr (.inr (.inr (.inl ⟨rfl, c⟩))))
      · cases h
    rw [if_neg w7] at h
    by_cases w8 : w = [102, 97, 105, 108]
    · rw [if_pos w8] at h
      split at h
      · next c => simp only [Option.some.injEq, Prod.mk.injEq] at h; obtain ⟨rfl, rfl, _⟩ := h; exact .inr (.inr (.inr (.inr (.inr (.inl ⟨rfl, c⟩)))))
      · cases h
    rw [if_neg w8] at h
    by_cases w9 : w = [108, 111, 111, 112]
    · rw [if_pos w9] at h
      split at h
      · split at h
        · simp only [Option.some.injEq, Prod.mk.injEq] at h; obtain ⟨rfl, rfl, _⟩ := h; exact .inr (.inr (.inr (.inr (.inr (.inr ⟨rfl, rfl⟩)))))
        · cases h
      · cases h
    rw [if_neg w9] at h
    by_cases w10 : w = [105, 102]
    · rw [if_pos w10] at h
      split at h
      · next c => simp only [Option.some.injEq, Prod.mk.injEq] at h; obtain ⟨rfl, rfl, _⟩ := h; exact .inr (.inr (.inr (.inl ⟨.inr (.inr (.inr rfl)), c⟩)))
      · cases h
    rw [if_neg w10] at h
    cases h
theorem rightS_one {o n : Int} {a : List B} {b : List Stp} (h : StepR o a) (hb : rightS b) : rightS [⟨o, a, n, b⟩] := by
  rw [rightS, rightS]; exact ⟨h, hb, trivial⟩
theorem rightS_nil : rightS [] := by rw [rightS]; trivial
theorem blk_right : ∀ (f deep : Nat) (out : List Stp) (lines : List B) (o : List Stp) (r : List B), rightS out → blk f deep out lines = .ok o r → rightS o
  | 0, _, _, _, _, _, _, h => by cases h
  | f + 1, deep, out, [], o, r, ho, h => by
    unfold blk at h
    split at h
    · cases h
    · cases h; exact ho
  | f + 1, deep, out, line :: rest, o, r, ho, h => by
    unfold blk at h
    split at h
    · split at h
      · cases h; exact ho
      · cases h
    · split at h
      · cases h
      · next e =>
        have hs := stepW_right e
        split at h
        · split at h
          · cases h
          · split at h
            · cases h
            · next e2 =>
              have h1 := blk_right f _ [] _ _ _ rightS_nil e2
              exact blk_right f _ _ _ _ _ (rightS_app ho (rightS_one hs h1)) h
        · exact blk_right f _ _ _ _ _ (rightS_app ho (rightS_one hs rightS_nil)) h
theorem parse_right {cmd : B} : rightS (parse cmd).1 := by
  unfold parse
  split
  · exact rightS_nil
  split
  · exact rightS_nil
  split
  · exact rightS_nil
  split
  · exact rightS_nil
  cases e : bk 0 [] (Lg.splitB 10 cmd.dropLast) with
  | ok out r => exact blk_right _ _ _ _ _ _ rightS_nil e
  | err k => exact rightS_nil
theorem rightS_needs : ∀ {l : List Stp}, rightS l → needsQ (fun s => nameOk s = true) l
  | [], _ => by rw [needsQ]; trivial
  | ⟨o, a, n, b⟩ :: r, h => by
    rw [rightS] at h
    rw [needsQ]
    refine ⟨fun e => ?_, rightS_needs h.2.1, rightS_needs h.2.2⟩
    have hs := h.1
    unfold StepR at hs
    subst e
    have : a.length = 1 ∧ a.all nameOk = true := by
      rcases hs with h | h | h | h | h | h | h
      · exact absurd h.1 (by decide)
      · exact absurd h.1 (by decide)
      · exact absurd h.1 (by decide)
      · rcases h.1 with k | k | k | k <;> exact absurd k (by decide)
      · exact h.2
      · exact absurd h.1 (by decide)
      · exact absurd h.1 (by decide)
    match a, this with
    | [x], this => simpa using this.2
end Go.Proofs.YtdidnlkilleljaaGreatDoor.Bx
/- BxLight, what a claim needs of it (prune.py). -/
namespace Go.Proofs.YtdidnlkilleljaaGreatDoor.Bx
open Go.RowKit
open Lg (BelowX Lies strV)
open Fs (fc fc_len fc_cell Fls Env B)
set_option linter.unusedVariables false
set_option maxRecDepth 100000
def lightP (names : List B) (o : Int) (a : List B) (n : Int) (f : St → St) (s : St) : St :=
  if o = 6 then { s with files := withoutF s.files (a.getD 0 []) }
  else if o = 7 then (if a.getD 0 [] ∈ names then s else { s with kind := 2, need := a.getD 0 [] })
  else if o = 8 then fail 33 (a.getD 0 []) s
  else if o = 9 then loopF f n.toNat s
  else if o = 10 then (if (Fs.get s.files (a.getD 0 [])).isSome then f s else s)
  else s
theorem does_light {fu : Nat} {names : List B} {up so : B → B} {o n : Int} {a : List B} {f : St → St} {s : St} (h : 6 ≤ o) : does fu withF withoutF names up so o a n f s = spend fu 1 (lightP names o a n f) s := by
  unfold does
  rw [if_neg (by omega), if_neg (by omega), if_neg (by omega), if_neg (by omega), if_neg (by omega)]
  rfl
theorem word_at {w : World} {ok : Nat → Prop} {A : Option Addr} {a : List B} {n : Nat} (h : Lies w ok 1 A n (strV a)) (hn : n = a.length) {k : Nat} (hk : k < a.length) : ∃ ad, A = some ad ∧ ok ad.block ∧ ad.block < w.heap.size ∧ w.cell? (ad.add k) = some (.string (bs (a.getD k []))) := by
  subst hn
  obtain ⟨ad, e, ho, hc⟩ := h.2 (by omega)
  have h1 : (strV a)[k]? = some (.string (bs (a.getD k []))) := by rw [List.getElem?_map, List.getElem?_eq_getElem hk]; simp [List.getD, hk]; rfl
  have hcell := hc k _ h1
  refine ⟨ad, e, ho, ?_, hcell⟩
  have := Fs.cell_lt hcell
  rwa [block_of_add] at this
structure Doing (w : World) (b fu : Nat) (N : Option Addr) (nn nc : Nat) (names : List B) (s : St) (Ab : Option Addr) (nb cb : Nat) (f : St → St) : Prop where
  env : EnvB b w
  fine : Fine (fun _ => True) s
  on : over s = false
  used : s.used ≤ fu
  fu1 : 1 ≤ fu
  fu2 : fu ≤ 2000
  nms : Lies w (fun k => k ≠ b) 1 N nn (strV names)
  nml : nn = names.length
  nmz : names.length ≤ 1000000
  blk : ∀ W s', BelowX w.heap.size b w W → StM W b fu N nn nc s' → Fine (fun _ => True) s' → over s' = false → s'.used ≤ fu → Calls Tryz.prog 29 #[.pointer (some ⟨b, 0, none⟩), .slice Ab nb cb] W (Went b fu N nn nc W (f s'))
  fair : Fair fu f
  keep : Keeps (fun _ => True) f
set_option maxHeartbeats 8000000 in
theorem light_any {w : World} {b fu : Nat} {N A : Option Addr} {nn nc c : Nat} {names : List B} {s : St} {Ab : Option Addr} {nb cb : Nat} {f : St → St} (hD : Doing w b fu N nn nc names s Ab nb cb f) (h : StAt w b fu N nn nc A c s)
    (o n : Int) (a : List B) (Aa : Option Addr) (ca : Nat) (hargs : Lies w (fun k => k ≠ b) 1 Aa a.length (strV a)) (hca : a.length ≤ ca) (hsr : StepR o a) (haz : (a.getD 0 []).length ≤ 1000000000) (hn63 : n ≤ 9223372036854775807) (ho6 : 6 ≤ o) :
    Calls Tryz.prog 121 #[.pointer (some ⟨b, 0, none⟩), .agg #[.int .i64 o, .slice Aa a.length ca, .int .i64 n, .slice Ab nb cb]] w (Went b fu N nn nc w (lightP names o a n f s)) := by
  have hbw := lt_heap h.blk
  have AZ := Lib.hid haz
  clear haz
  obtain ⟨W1, eW⟩ : ∃ W1, W1 = w.alloc (.cells #[.int .i64 o, .slice Aa a.length ca, .int .i64 n, .slice Ab nb cb] 61) := ⟨_, rfl⟩
  have hb1 : Below w.heap.size w W1 := by rw [eW]; exact (Below.refl _ _).alloc (Nat.le_refl _) _
  have q0 : W1.heap[w.heap.size]? = some (.cells #[.int .i64 o, .slice Aa a.length ca, .int .i64 n, .slice Ab nb cb] 61 (0, 0)) := by rw [eW]; exact heap_alloc_new w _
  have hw1 := hb1.size
  have hlt1 := lt_heap q0
  have d0 : W1.cell? ⟨w.heap.size, 0, none⟩ = some (.int .i64 o) := (cell_heap q0 0).trans rfl
  have X1 : Hid (∀ W, BelowX W1.heap.size b W1 W → W.cell? ⟨w.heap.size, 1, none⟩ = some (.slice Aa a.length ca) ∧ W.cell? ⟨w.heap.size, 2, none⟩ = some (.int .i64 n) ∧ W.cell? ⟨w.heap.size, 3, none⟩ = some (.slice Ab nb cb)) := Lib.hid fun W hW => by
    have := (hW.block _ hlt1 (by omega)).trans q0
    exact ⟨(cell_heap this 1).trans rfl, (cell_heap this 2).trans rfl, (cell_heap this 3).trans rfl⟩
  obtain ⟨x1, x2, x3⟩ := X1.out W1 (BelowX.refl _ _ _)
  have H1 : Hid (StAt W1 b fu N nn nc A c s) := Lib.hid (h.keep hb1)
  have WB := Lib.hid (fun W (hW : BelowX W1.heap.size b W1 W) => (BelowX.of hb1).trans (hW.mono hw1))
  have EN : Hid (∀ e W w', BelowX W1.heap.size b W1 W → Went b fu N nn nc W (lightP names o a n f s) e w' → Went b fu N nn nc w (lightP names o a n f s) e w') := Lib.hid fun e W w' hW hh => Went.after (WB.out W hW) hh
  have AR : Hid (0 < a.length → ∃ ad, Aa = some ad ∧ (∀ W, BelowX W1.heap.size b W1 W → W.cell? ad = some (.string (bs (a.getD 0 []))))) := Lib.hid fun h0 => by
    obtain ⟨ad, e1, e2, e3, e4⟩ := word_at hargs rfl h0
    refine ⟨ad, e1, fun W hW => ?_⟩
    rw [show ad.add 0 = ad from rfl] at e4
    exact ((WB.out W hW).cell e3 e2).trans e4
  have hq : Went b fu N nn nc w (lightP names o a n f s) = Went b fu N nn nc w (lightP names o a n f s) := rfl
  unfold StepR at hsr
  have hcases : (o = 6 ∧ a.length = 1) ∨ (o = 7 ∧ a.length = 1) ∨ (o = 8 ∧ a.length = 1) ∨ o = 9 ∨ (o = 10 ∧ a.length = 1) := by
    rcases hsr with h | h | h | h | h | h | h
    · omega
    · omega
    · omega
    · rcases h with ⟨h | h | h | h, h2, _⟩
      · omega
      · omega
      · exact .inl ⟨h, h2⟩
      · exact .inr (.inr (.inr (.inr ⟨h, h2⟩)))
    · exact .inr (.inl ⟨h.1, h.2.1⟩)
    · exact .inr (.inr (.inl ⟨h.1, h.2.1⟩))
    · exact .inr (.inr (.inr (.inl h.1)))
  have hb1k := Lib.hid (fun k => belowDN hb1 k)
  clear hsr hargs h q0 hb1 hq
  rcases hcases with ⟨rfl, ha⟩ | ⟨rfl, ha⟩ | ⟨rfl, ha⟩ | rfl | ⟨rfl, ha⟩
  · obtain ⟨ad, rfl, hx⟩ := AR.out (by omega)
    have L : Hid (lightP names 6 a n f s = { s with files := withoutF s.files (a.getD 0 []) }) := Lib.hid (by unfold lightP; rw [if_pos rfl])
    have i0 : (0 : Int) < (a.length : Int) := by omega
    have i1 : 0 < a.length := by omega
    have hR := hD.fine.files
    have hl32 := hR.len
    have SX : Hid (∀ W, Below W1.heap.size W1 W → W.cell? ⟨b, 0, none⟩ = some (.slice A s.files.length c) ∧ W.cell? ⟨w.heap.size, 1, none⟩ = some (.slice (some ad) a.length ca) ∧ W.cell? ad = some (.string (bs (a.getD 0 [])))) := Lib.hid fun W hW => ⟨(cell_heap (H1.out.keep hW).blk 0).trans rfl, (X1.out W (.of hW)).1, hx W (.of hW)⟩
    have WO : Hid (∀ W, Below W1.heap.size W1 W → Calls Tryz.prog 172 #[.slice A s.files.length c, .string (bs (a.getD 0 []))] W (Fs.FilesOwn (withoutF s.files (a.getD 0 [])) W)) := Lib.hid fun W hW => without_any A s.files c (bs (a.getD 0 [])) W (H1.out.keep hW).flsr (by omega) (by rw [Fs.bs_len]; exact AZ.out)
    obtain ⟨y1, y2, y3⟩ := SX.out W1 (Below.refl _ _)
    have dA : Below W1.heap.size W1 W1.drew := (Below.refl _ _).drew
    have hbW : b < W1.heap.size := by omega
    clear ho6 AR ha hx
    generalize bs (a.getD 0 []) = q at *
    go_enter Tryz.func121, Tryz.ntmps121
    go_wp2_with (fail)
    rw [← eW]
    clear eW
    go_region_with (go_at_call 172; (with_reducible refine (WO.out _ dA).mono ?_); rintro e w2 ⟨v2, rfl, ho2, hb2⟩; have h2 : Below W1.heap.size W1 w2 := dA.trans (hb2.mono dA.size); have PT := Lib.hid (StAt.filed (H1.out.keep dA) hb2 ho2 hbW); obtain ⟨vA, vn, vc, rfl⟩ := own_form ho2; have c2 := (SX.out _ h2).1; have f2 : w2.frozen? ⟨b, 0, none⟩ = false := frozen_heap (H1.out.keep h2).blk 0; clear ho2)
    all_goals
      go_wp2_with (fail)
      go_end0
      refine EN.out _ W1 _ (BelowX.refl _ _ _) ⟨rfl, ?_, ((BelowX.of h2).setX (p := ⟨b, 0, none⟩) rfl _)⟩
      rw [L.out]
      exact PT.out
  · obtain ⟨ad, rfl, hx⟩ := AR.out (by omega)
    have hx0 := hx W1 (BelowX.refl _ _ _)
    have i0 : (0 : Int) < (a.length : Int) := by omega
    have i1 : 0 < a.length := by omega
    have hnz := hD.nml
    have hnl := hD.nmz
    have c10 : W1.cell? ⟨b, 1, none⟩ = some (.slice N nn nc) := (cell_heap H1.out.blk 1).trans rfl
    have CO : Hid (∀ k, Calls Tryz.prog 173 #[.slice N nn nc, .string (bs (a.getD 0 []))] (W1.drewN k) fun e w' => e = .returned (.bool (decide (a.getD 0 [] ∈ names))) ∧ w' = W1.drewN k) := Lib.hid fun k => by
      have hr := (hD.nms.mono (ok' := fun k => k ≠ b) (w' := W1.drewN k) (by decide) fun g hg hs => ⟨hg, (hb1k.out k).block g hs⟩).reads (by decide)
      have := contains_any N names nc (a.getD 0 []) (W1.drewN k) (by rw [← hnz]; exact hr) (by omega)
      rw [← hnz] at this
      exact this.mono fun _ _ ⟨h1, h2⟩ => ⟨h1, h2.symm⟩
    have c13 : W1.cell? ⟨b, 3, none⟩ = some (.int .i64 s.kind) := (cell_heap H1.out.blk 3).trans rfl
    have c15 : W1.cell? ⟨b, 5, none⟩ = some (.string (bs s.need)) := (cell_heap H1.out.blk 5).trans rfl
    have f13 := frozen_heap H1.out.blk 3
    have f15 := frozen_heap H1.out.blk 5
    by_cases hm : a.getD 0 [] ∈ names
    · have L : Hid (lightP names 7 a n f s = s) := Lib.hid (by unfold lightP; rw [if_neg (by decide), if_pos rfl, if_pos hm])
      rw [decide_eq_true hm] at CO
      clear ho6 AR hx ha hm hnz hnl
      generalize a.getD 0 [] = q at *
      go_enter Tryz.func121, Tryz.ntmps121
      go_wp2_with (fail)
      rw [← eW]
      clear eW
      go_quiet ((go_at_call 173; exact Calls.quiet_of_same (CO.out _)))
      go_wp2_with (fail)
      go_end0
      refine EN.out _ W1 _ (BelowX.refl _ _ _) ⟨rfl, ?_, (BelowX.refl _ _ _).drewN _⟩
      rw [L.out]
      exact ⟨A, c, H1.out.drewN _⟩
    · have L : Hid (lightP names 7 a n f s = { s with kind := 2, need := a.getD 0 [] }) := Lib.hid (by unfold lightP; rw [if_neg (by decide), if_pos rfl, if_neg hm])
      rw [decide_eq_false hm] at CO
      have X1d : Hid (∀ k, (W1.drewN k).cell? ⟨w.heap.size, 1, none⟩ = some (.slice (some ad) a.length ca)) := Lib.hid fun k => x1
      clear ho6 AR hx ha hm hnz hnl
      generalize a.getD 0 [] = q at *
      go_enter Tryz.func121, Tryz.ntmps121
      go_wp2_with (fail)
      rw [← eW]
      clear eW
      go_quiet ((go_at_call 173; exact Calls.quiet_of_same (CO.out _)))
      go_wp2_with (fail)
      go_end0
      refine EN.out _ W1 _ (BelowX.refl _ _ _) ⟨rfl, ?_, (((BelowX.refl _ b _).drewN _).setX (p := ⟨b, 3, none⟩) rfl _).setX (p := ⟨b, 5, none⟩) rfl _⟩
      rw [L.out]
      exact ⟨A, c, (H1.out.drewN _).set (s' := { s with kind := 2, need := q }) rfl ((heap_set (heap_set (H1.out.drewN _).blk)).trans rfl) (fun g hg => (heap_set_ne hg.symm).trans (heap_set_ne hg.symm))⟩
  · obtain ⟨ad, rfl, hx⟩ := AR.out (by omega)
    have hx0 := hx W1 (BelowX.refl _ _ _)
    have L : Hid (lightP names 8 a n f s = fail 33 (a.getD 0 []) s) := Lib.hid (by unfold lightP; rw [if_neg (by decide), if_neg (by decide), if_pos rfl])
    have FA := Lib.hid (fail_any H1.out 33 (a.getD 0 []))
    have i0 : (0 : Int) < (a.length : Int) := by omega
    have i1 : 0 < a.length := by omega
    clear ho6 AR hx ha
    rw [eW] at hx0
    generalize a.getD 0 [] = q at *
    go_enter Tryz.func121, Tryz.ntmps121
    go_wp2_with (go_at_call 170; rw [← eW]; clear eW; (with_reducible refine (FA.out).mono ?_); rintro e w2 ⟨rfl, h2, h3⟩)
    go_end0
    exact EN.out _ W1 _ (BelowX.refl _ _ _) ⟨rfl, by rw [L.out]; exact h2, h3⟩
  · have L : Hid (lightP names 9 a n f s = loopF f n.toNat s) := Lib.hid (by unfold lightP; rw [if_neg (by decide), if_neg (by decide), if_neg (by decide), if_pos rfl])
    rw [eW] at d0 x2
    have FU := Lib.hid hD.fine
    have US := Lib.hid hD.used
    have ON := Lib.hid hD.on
    have FAIR := Lib.hid hD.fair
    have KEEP := Lib.hid hD.keep
    have BLK := Lib.hid (fun W s' (hW : BelowX W1.heap.size b W1 W) => hD.blk W s' (WB.out W hW))
    have EN2 : Hid (∀ e W, StM W b fu N nn nc (loopF f n.toNat s) → BelowX W1.heap.size b W1 W → e = .returned (.tuple #[]) → Went b fu N nn nc w (lightP names 9 a n f s) e W) := Lib.hid fun e W h1 h2 h3 => EN.out _ W1 _ (BelowX.refl _ _ _) ⟨h3, by rw [L.out]; exact h1, h2⟩
    clear ho6 AR hD EN L
    generalize Went b fu N nn nc w (lightP names 9 a n f s) = Q at *
    go_enter Tryz.func121, Tryz.ntmps121
    go_wp2_with (fail)
    rw [← eW]
    go_loopw [58] (fun i W => ∃ (k : Nat) (s' : St), i = .int .i64 k ∧ k ≤ n.toNat ∧ Hid (loopF f n.toNat s = loopF f (n.toNat - k) s') ∧ Hid (Fine (fun _ => True) s' ∧ over s' = false ∧ s'.used ≤ fu) ∧ Hid (StM W b fu N nn nc s') ∧ BelowX W1.heap.size b W1 W) (fun i _ => n.toNat - (intOf i).toNat)
    case atStart => exact ⟨0, s, rfl, by omega, Lib.hid rfl, Lib.hid ⟨FU.out, ON.out, US.out⟩, Lib.hid ⟨A, c, H1.out⟩, BelowX.refl _ _ _⟩
    case round =>
      obtain ⟨k, s', rfl, hk, RE, SF, SM, hb⟩ := hrel
      by_cases hlt : k < n.toNat
      · have hkI : (k : Int) < n := by omega
        obtain ⟨x1', x2', x3'⟩ := X1.out wr hb
        have AL := Lib.hid (BLK.out wr s' hb SM.out SF.out.1 SF.out.2.1 SF.out.2.2)
        have FK := Lib.hid (KEEP.out s' SF.out.1 SF.out.2.1)
        have UK := Lib.hid (FAIR.out.used s' SF.out.2.2)
        have NX : Hid (loopF f (n.toNat - k) s' = if over (f s') = true then f s' else loopF f (n.toNat - (k + 1)) (f s')) := Lib.hid (by
          rw [show n.toNat - k = (n.toNat - (k + 1)) + 1 by omega, loopF])
        cases hov : over (f s') with
        | true =>
          have F : Hid (loopF f n.toNat s = f s') := Lib.hid (by rw [RE.out, NX.out, if_pos hov])
          have OV := Lib.hid hov
          clear hov NX
          go_wp2_with (first
            | (go_at_call 29; (with_reducible refine (AL.out).mono ?_); rintro e w2 ⟨rfl, h2, h3⟩; have SM2 := Lib.hid h2; obtain ⟨A2, c2, h2⟩ := h2; have OA : Hid (Calls Tryz.prog 30 #[.pointer (some ⟨b, 0, none⟩)] w2 fun e w' => e = .returned (.bool true) ∧ w2 = w') := Lib.hid (by rw [← OV.out]; exact over_any h2); clear h2)
            | (go_at_call 30; (with_reducible refine (OA.out).mono ?_); rintro e w3 ⟨rfl, rfl⟩))
          go_end0
          exact EN2.out _ _ (by rw [F.out]; exact SM2.out) (hb.trans (h3.mono hb.size)) rfl
        | false =>
          have F : Hid (loopF f n.toNat s = loopF f (n.toNat - (k + 1)) (f s')) := Lib.hid (by rw [RE.out, NX.out, if_neg (by simp [hov])])
          have OV := Lib.hid hov
          clear hov NX
          go_wp2_with (first
            | (go_at_call 29; (with_reducible refine (AL.out).mono ?_); rintro e w2 ⟨rfl, h2, h3⟩; have SM2 := Lib.hid h2; obtain ⟨A2, c2, h2⟩ := h2; have OA : Hid (Calls Tryz.prog 30 #[.pointer (some ⟨b, 0, none⟩)] w2 fun e w' => e = .returned (.bool false) ∧ w2 = w') := Lib.hid (by rw [← OV.out]; exact over_any h2); clear h2)
            | (go_at_call 30; (with_reducible refine (OA.out).mono ?_); rintro e w3 ⟨rfl, rfl⟩))
          go_roundw
          case rel => exact ⟨k + 1, f s', by go_num, by omega, F, Lib.hid ⟨FK.out, OV.out, UK.out.2⟩, SM2, hb.trans (h3.mono hb.size)⟩
          case measure => simp [intOf]; omega
      · obtain rfl : k = n.toNat := by omega
        have hkI : ¬ ((n.toNat : Int) < n) := by omega
        have F : Hid (loopF f n.toNat s = s') := Lib.hid (by rw [RE.out, Nat.sub_self, loopF])
        go_wp2_with (fail)
        go_end0
        exact EN2.out _ _ (by rw [F.out]; exact SM.out) hb rfl
  · obtain ⟨ad, rfl, hx⟩ := AR.out (by omega)
    have i0 : (0 : Int) < (a.length : Int) := by omega
    have i1 : 0 < a.length := by omega
    have hl32 := hD.fine.files.len
    have SX : Hid (∀ W, Below W1.heap.size W1 W → W.cell? ⟨b, 0, none⟩ = some (.slice A s.files.length c) ∧ W.cell? ⟨w.heap.size, 1, none⟩ = some (.slice (some ad) a.length ca) ∧ W.cell? ad = some (.string (bs (a.getD 0 [])))) := Lib.hid fun W hW => ⟨(cell_heap (H1.out.keep hW).blk 0).trans rfl, (X1.out W (.of hW)).1, hx W (.of hW)⟩
    have GE : Hid (∀ W, Below W1.heap.size W1 W → Calls Tryz.prog 79 #[.slice A s.files.length c, .string (bs (a.getD 0 []))] W (Fs.GetSays s.files (a.getD 0 []) W)) := Lib.hid fun W hW => Fs.get_any A s.files c (bs (a.getD 0 [])) W (H1.out.keep hW).flsr (by omega)
    have BLK := Lib.hid (fun W s' (hW : BelowX W1.heap.size b W1 W) => hD.blk W s' (WB.out W hW))
    have ST := Lib.hid (And.intro hD.fine (And.intro hD.on hD.used))
    have s0 := fun W hW => (SX.out W hW).1
    have s1 := fun W hW => (SX.out W hW).2.1
    have s2 := fun W hW => (SX.out W hW).2.2
    cases hg : Fs.get s.files (a.getD 0 []) with
    | none =>
      have L : Hid (lightP names 10 a n f s = s) := Lib.hid (by unfold lightP; rw [if_neg (by decide), if_neg (by decide), if_neg (by decide), if_neg (by decide), if_pos rfl, if_neg (by rw [hg]; simp)])
      have G2 : Hid (∀ W, Below W1.heap.size W1 W → Calls Tryz.prog 79 #[.slice A s.files.length c, .string (bs (a.getD 0 []))] W fun e w' => e = .returned (.tuple #[.string ⟨#[]⟩, .bool false]) ∧ Below W.heap.size W w') := Lib.hid fun W hW => (GE.out W hW).mono fun e w' hh => by
        unfold Fs.GetSays at hh
        rw [hg] at hh
        exact hh
      clear ho6 AR hx ha hg GE BLK ST
      generalize a.getD 0 [] = q at *
      go_enter Tryz.func121, Tryz.ntmps121
      go_wp2_with (fail)
      rw [← eW]
      clear eW
      refine wp_region_cls (C := fun w' => Below W1.heap.size W1 w') (by kernel_rfl) (by kernel_rfl) (Below.refl _ _).drew ?_
      repeat (first | go_big_quiet_skip | quiet_step (first | (intro _; rfl) | (intro _; rw [if_neg (by omega)]; exact ⟨rfl, rfl⟩) | (intro hss; (first | rw [s0 _ hss] | rw [s1 _ hss] | rw [s2 _ hss]); exact ⟨rfl, rfl⟩) | (intro hss; go_at_call 79; (with_reducible refine (G2.out _ hss).mono ?_); rintro e w4 ⟨rfl, hb4⟩; exact ⟨rfl, hss.trans (hb4.mono hss.size)⟩)))
      refine wpQuiet_nil ?_
      intro w2 hb2
      go_wp2
      go_end0
      refine EN.out _ W1 _ (BelowX.refl _ _ _) ⟨rfl, ?_, .of hb2⟩
      rw [L.out]
      exact ⟨A, c, H1.out.keep hb2⟩
    | some d =>
      have L : Hid (lightP names 10 a n f s = f s) := Lib.hid (by unfold lightP; rw [if_neg (by decide), if_neg (by decide), if_neg (by decide), if_neg (by decide), if_pos rfl, if_pos (by rw [hg]; simp)])
      have G2 : Hid (∀ W, Below W1.heap.size W1 W → Calls Tryz.prog 79 #[.slice A s.files.length c, .string (bs (a.getD 0 []))] W fun e w' => e = .returned (.tuple #[.string d, .bool true]) ∧ Below W.heap.size W w') := Lib.hid fun W hW => (GE.out W hW).mono fun e w' hh => by
        unfold Fs.GetSays at hh
        rw [hg] at hh
        exact hh
      clear ho6 AR hx ha hg GE
      generalize a.getD 0 [] = q at *
      go_enter Tryz.func121, Tryz.ntmps121
      go_wp2_with (fail)
      rw [← eW]
      clear eW
      refine wp_region_cls (C := fun w' => Below W1.heap.size W1 w') (by kernel_rfl) (by kernel_rfl) (Below.refl _ _).drew ?_
      repeat (first | go_big_quiet_skip | quiet_step (first | (intro _; rfl) | (intro _; rw [if_neg (by omega)]; exact ⟨rfl, rfl⟩) | (intro hss; (first | rw [s0 _ hss] | rw [s1 _ hss] | rw [s2 _ hss]); exact ⟨rfl, rfl⟩) | (intro hss; go_at_call 79; (with_reducible refine (G2.out _ hss).mono ?_); rintro e w4 ⟨rfl, hb4⟩; exact ⟨rfl, hss.trans (hb4.mono hss.size)⟩)))
      refine wpQuiet_nil ?_
      intro w2 hb2
      obtain ⟨x1', x2', x3'⟩ := X1.out w2 (.of hb2)
      have AL := Lib.hid (BLK.out w2 s (.of hb2) ⟨A, c, H1.out.keep hb2⟩ ST.out.1 ST.out.2.1 ST.out.2.2)
      go_wp2_with (go_at_call 29; (with_reducible refine (AL.out).mono ?_); rintro e w3 ⟨rfl, h3, h4⟩)
      go_end0
      exact EN.out _ w2 _ (.of hb2) ⟨rfl, by rw [L.out]; exact h3, h4⟩
end Go.Proofs.YtdidnlkilleljaaGreatDoor.Bx
/- BxSort, what a claim needs of it (prune.py). -/
namespace Go.Proofs.YtdidnlkilleljaaGreatDoor.Bx
open Fs (B)
set_option linter.unusedVariables false
def upC (c : UInt8) : UInt8 := if 97 ≤ c.toNat ∧ c.toNat ≤ 122 then c - 32 else c
def upB (s : B) : B := s.map upC
theorem upB_len (s : B) : (upB s).length = s.length := List.length_map ..
def trim (s : B) : B := if s.getLast? = some 10 then s.dropLast else s
def linesB (s : B) : List B := if s = [] then [] else (Lg.splitB 10 (trim s)).map (· ++ [10])
def sortL (l : List B) : List B := l.mergeSort fun x y => decide (x ≤ y)
def soB (s : B) : B := (sortL (linesB s)).flatten
theorem flat_join : ∀ {l : List B}, l ≠ [] → (l.map (· ++ [10])).flatten = Lg.joinB 10 l ++ [10]
  | [], h => absurd rfl h
  | [a], _ => by simp [Lg.joinB]
  | a :: b :: l, _ => by
    have := flat_join (l := b :: l) (by simp)
    rw [List.map_cons, List.flatten_cons, this, Lg.joinB]
    simp
def full (s : B) : B := if s = [] then [] else trim s ++ [10]
theorem lines_flat (s : B) : (linesB s).flatten = full s := by
  unfold linesB full
  by_cases h : s = []
  · rw [if_pos h, if_pos h]; rfl
  · rw [if_neg h, if_neg h, flat_join (Lg.splitB_ne _ _), Lg.join_split]
theorem full_eq {s : B} : full s = if s = [] then [] else if s.getLast? = some 10 then s else s ++ [10] := by
  unfold full trim
  by_cases h : s = []
  · rw [if_pos h, if_pos h]
  · rw [if_neg h, if_neg h]
    by_cases h2 : s.getLast? = some 10
    · rw [if_pos h2, if_pos h2]
      have h3 : s.getLast h = 10 := by rw [List.getLast?_eq_some_getLast h] at h2; exact Option.some.inj h2
      rw [← h3]
      exact List.dropLast_concat_getLast h
    · rw [if_neg h2, if_neg h2]
theorem so_perm (s : B) : (soB s).Perm (full s) := by
  rw [← lines_flat]
  exact (List.mergeSort_perm _ _).flatten
theorem so_len (s : B) : (soB s).length = (full s).length := (so_perm s).length_eq
end Go.Proofs.YtdidnlkilleljaaGreatDoor.Bx
/- BxOut, what a claim needs of it (prune.py). -/
namespace Go.Proofs.YtdidnlkilleljaaGreatDoor.Bx
open Lg (Stp pathOk)
open Fs (B belowB)
set_option linter.unusedVariables false
set_option maxRecDepth 100000
def outf : B := [111, 117, 116, 47, 102]
variable {names : List B} {up so : B → B}
theorem all_one {fu : Nat} {o n : Int} {a : List B} {b r : List Stp} {s t : St} (ho : s.kind = 0) (h : does fu withF withoutF names up so o a n (all fu withF withoutF names up so b) s = t) :
    all fu withF withoutF names up so (⟨o, a, n, b⟩ :: r) s = all fu withF withoutF names up so r t := by
  rw [all, if_neg (by unfold over; rw [ho]; simp), h]
theorem all_end {fu : Nat} {s : St} : all fu withF withoutF names up so [] s = s := by rw [all]
theorem does_up {fu : Nat} {a : List B} {n : Int} {f : St → St} {s : St} : does fu withF withoutF names up so 4 a n f s = writes fu withF (a.getD 0 []) a up s := by
  unfold does
  rw [if_neg (by decide), if_neg (by decide), if_neg (by decide), if_pos rfl]
theorem does_so {fu : Nat} {a : List B} {n : Int} {f : St → St} {s : St} : does fu withF withoutF names up so 5 a n f s = writes fu withF (a.getD 0 []) a so s := by
  unfold does
  rw [if_neg (by decide), if_neg (by decide), if_neg (by decide), if_neg (by decide), if_pos rfl]
def xs : Nat → B
  | 0 => []
  | k + 1 => [120, 10] ++ xs k
def lP : B := [108]
def mP : B := [109]
def body : List Stp := [⟨3, [mP, lP, outf], 0, []⟩, ⟨2, [mP, outf], 0, []⟩]
def l0 : Fl := ⟨bs lP, bs [120, 10]⟩
theorem does_cat {fu : Nat} {a : List B} {n : Int} {f : St → St} {s : St} : does fu withF withoutF names up so 3 a n f s = writes fu withF (a.getD 0 []) (a.drop 1) id s := by
  unfold does
  rw [if_neg (by decide), if_neg (by decide), if_pos rfl]
theorem does_copy {fu : Nat} {a : List B} {n : Int} {f : St → St} {s : St} : does fu withF withoutF names up so 2 a n f s = writes fu withF (a.getD 1 []) (a.take 1) id s := by
  unfold does
  rw [if_neg (by decide), if_pos rfl]
theorem does_put {fu : Nat} {a : List B} {n : Int} {f : St → St} {s : St} : does fu withF withoutF names up so 1 a n f s = writes fu withF (a.getD 0 []) [] (fun _ => a.getD 1 [] ++ [10]) s := by
  unfold does
  rw [if_pos rfl]
end Go.Proofs.YtdidnlkilleljaaGreatDoor.Bx
/- BxUpper, what a claim needs of it (prune.py). -/
namespace Go.Proofs.YtdidnlkilleljaaGreatDoor.Bx
open Go.RowKit
open Fs (B)
set_option linter.unusedVariables false
set_option maxRecDepth 100000
theorem frozen_row {w : World} {b : Nat} {cs : Array Value} {T : TypeId} {m : Nat} (hb : w.heap[b]? = some (.cells cs T (m, m + 1))) {j : Nat} (hj : j < m) : w.frozen? ⟨b, j, none⟩ = false := by
  simp [World.frozen?, hb]; omega
theorem upC_yes {c : UInt8} (h1 : 97 ≤ c.toNat) (h2 : c.toNat ≤ 122) : ((upC c).toNat : Int) = (c.toNat : Int) - 97 + 65 := by
  unfold upC
  rw [if_pos ⟨h1, h2⟩, UInt8.toNat_sub_of_le]
  · show ((c.toNat - 32 : Nat) : Int) = _; omega
  · rw [UInt8.le_iff_toNat_le]; show 32 ≤ c.toNat; omega
theorem upC_not {c : UInt8} (h : ¬ (97 ≤ c.toNat ∧ c.toNat ≤ 122)) : upC c = c := by unfold upC; rw [if_neg h]
def UpTo (s : ByteArray) (k : Nat) (cur : Array Value) : Prop := ∀ j (hj : j < s.size), cur[j]? = some (.int .u8 ((if j < k then upC s[j] else s[j]).toNat : Int))
theorem UpTo.next {s : ByteArray} {k : Nat} {cur : Array Value} (h : UpTo s k cur) (hk : k < s.size) (hc : s.size ≤ cur.size) : UpTo s (k + 1) (cur.setIfInBounds k (.int .u8 ((upC s[k]).toNat : Int))) := fun j hj => by
  by_cases e : k = j
  · subst e
    rw [Array.getElem?_setIfInBounds_self_of_lt (by omega), if_pos (by omega)]
  · rw [Array.getElem?_setIfInBounds_ne e, h j hj]
    by_cases h2 : j < k
    · rw [if_pos h2, if_pos (by omega)]
    · rw [if_neg h2, if_neg (by omega)]
theorem UpTo.same {s : ByteArray} {k : Nat} {cur : Array Value} (h : UpTo s k cur) (hk : k < s.size) (he : upC s[k] = s[k]) : UpTo s (k + 1) cur := fun j hj => by
  rw [h j hj]
  by_cases e : k = j
  · subst e
    rw [if_neg (by omega), if_pos (by omega), he]
  · by_cases h2 : j < k
    · rw [if_pos h2, if_pos (by omega)]
    · rw [if_neg h2, if_neg (by omega)]
def UpRow (s : ByteArray) (g m : Nat) (w W : World) (k : Nat) : Prop := (∃ cur, W.heap[g]? = some (.cells cur 5 (m, m + 1)) ∧ cur.size = m ∧ UpTo s k cur) ∧ Below w.heap.size w W
theorem bytes_at {s : ByteArray} {G j : Nat} (hj : j < s.size) : (bytesRow s G)[j]? = some (.int .u8 (s[j].toNat : Int)) := by
  unfold bytesRow
  rw [Array.getElem?_append_left (by rw [Array.size_map]; exact hj), Array.getElem?_map]
  have : s.data[j]? = some s[j] := Array.getElem?_eq_getElem hj
  rw [this]; rfl
theorem up_list {s : ByteArray} {cur : Array Value} (h : UpTo s s.size cur) {w : World} {g m : Nat} (hg : w.heap[g]? = some (.cells cur 5 (m, m + 1))) : ∀ j (hj : j < (upB (tl s)).length), w.cell? ((⟨g, 0, none⟩ : Addr).add j) = some (.int .u8 ((upB (tl s))[j].toNat : Int)) := fun j hj => by
  have hl : (upB (tl s)).length = s.size := by rw [upB_len, Fs.tl_len]
  rw [Lg.add_eq, cell_heap hg, h j (by omega), if_pos (by omega)]
  have e : (upB (tl s))[j] = upC (s[j]'(by omega)) := List.getElem_map upC
  rw [e]
set_option maxHeartbeats 2000000 in
theorem upper_any (s : ByteArray) (w : World) (hs : s.size ≤ 1000000) :
    Calls Tryz.prog 118 #[.string s] w fun e w' => e = .returned (.string (bs (upB (tl s)))) ∧ Below w.heap.size w w' := by
  obtain ⟨G, hG⟩ : ∃ G, G = grownCap w s.size 0 5 := ⟨_, rfl⟩
  obtain ⟨ROW, hROW⟩ : ∃ ROW, ROW = bytesRow s G := ⟨_, rfl⟩
  obtain ⟨W1, eW⟩ : ∃ W1, W1 = w.drew.alloc (.cells ROW 5 (ROW.size, ROW.size + 1)) := ⟨_, rfl⟩
  have CV : (convert 9 94 (.string s)).run Tryz.prog w = .ok (.slice (some ⟨w.heap.size, 0, none⟩) s.size G) W1 := by
    rw [run_bytes_of_string w _ _ 5 s Tryz.underlying9 Tryz.underlying94 Tryz.underlying5, ← hG, ← hROW, ← eW]
  have hRs : s.size ≤ ROW.size := by rw [hROW]; simp [bytesRow]
  have R0 : Hid (UpRow s w.heap.size ROW.size w W1 0) := Lib.hid (by
    refine ⟨⟨ROW, by rw [eW]; exact heap_alloc_new w.drew _, rfl, fun j hj => ?_⟩, by rw [eW]; exact (Below.refl _ _).drew.alloc (Nat.le_refl _) _⟩
    rw [if_neg (by omega), hROW]
    exact bytes_at hj)
  clear eW hROW hG
  generalize ROW.size = m at *
  go_enter Tryz.func118, Tryz.ntmps118
  go_wp2_with (fail)
  go_loopw [10] (fun i W => ∃ k : Nat, i = .int .i64 k ∧ k ≤ s.size ∧ UpRow s w.heap.size m w W k) (fun i _ => s.size - (intOf i).toNat)
  case atStart => exact ⟨0, rfl, by omega, R0.out⟩
  case round =>
    obtain ⟨k, rfl, hk, ⟨cur, hh, hcm, hu⟩, hb⟩ := hrel
    have HU := Lib.hid hu
    have HB := Lib.hid hb
    have HH := Lib.hid hh
    clear hu hb R0 CV
    by_cases hlt : k < s.size
    · have hkI : (k : Int) < (s.size : Int) := by omega
      have hck := HU.out k hlt
      rw [if_neg (by omega)] at hck
      have c0 : wr.cell? ⟨w.heap.size, k, none⟩ = some (.int .u8 (s[k].toNat : Int)) := (cell_heap hh k).trans hck
      have f0 := frozen_row hh (j := k) (by omega)
      have NX := Lib.hid (HU.out.next hlt (by omega))
      have SM := Lib.hid (HU.out.same hlt)
      clear hh hck
      by_cases h1 : 97 ≤ s[k].toNat
      · by_cases h2 : s[k].toNat ≤ 122
        · have e := upC_yes h1 h2
          rw [e] at NX
          have g1 : (97 : Int) ≤ (s[k].toNat : Int) := by omega
          have g2 : (s[k].toNat : Int) ≤ 122 := by omega
          clear e SM
          generalize (s[k].toNat : Int) = q at *
          go_wp2_with (fail)
          go_roundw
          case rel => exact ⟨k + 1, by go_num, by omega, ⟨_, heap_set HH.out, by simp [hcm], NX.out⟩, HB.out.setCell (p := ⟨w.heap.size, k, none⟩) (Nat.le_refl _) _⟩
          case measure => simp [intOf]; omega
        · have F := Lib.hid (SM.out (upC_not (fun h => h2 h.2)))
          have g1 : (97 : Int) ≤ (s[k].toNat : Int) := by omega
          have g2 : ¬ (s[k].toNat : Int) ≤ 122 := by omega
          clear SM NX h1 h2
          generalize (s[k].toNat : Int) = q at *
          go_wp2_with (fail)
          go_roundw
          case rel => exact ⟨k + 1, by go_num, by omega, ⟨cur, HH.out, hcm, F.out⟩, HB.out⟩
          case measure => simp [intOf]; omega
      · have F := Lib.hid (SM.out (upC_not (fun h => h1 h.1)))
        have g1 : ¬ (97 : Int) ≤ (s[k].toNat : Int) := by omega
        clear SM NX h1
        generalize (s[k].toNat : Int) = q at *
        go_wp2_with (fail)
        go_roundw
        case rel => exact ⟨k + 1, by go_num, by omega, ⟨cur, HH.out, hcm, F.out⟩, HB.out⟩
        case measure => simp [intOf]; omega
    · obtain rfl : k = s.size := by omega
      have hl : (upB (tl s)).length = s.size := by rw [upB_len, Fs.tl_len]
      have CB : (convert 94 9 (.slice (some ⟨w.heap.size, 0, none⟩) s.size G)).run Tryz.prog wr = .ok (.string (bs (upB (tl s)))) wr := by
        rw [← hl]
        exact run_convert_bytes_back wr _ _ 5 ⟨w.heap.size, 0, none⟩ G (upB (tl s)) Tryz.underlying94 Tryz.underlying5 Tryz.underlying9 (up_list HU.out hh)
      clear hh hl
      obtain ⟨r, hr⟩ : ∃ r, r = bs (upB (tl s)) := ⟨_, rfl⟩
      rw [← hr] at CB
      have HR := Lib.hid hr
      clear hr
      go_wp2_with (fail)
      go_ret
      exact ⟨by rw [← HR.out]; rfl, HB.out⟩
end Go.Proofs.YtdidnlkilleljaaGreatDoor.Bx
