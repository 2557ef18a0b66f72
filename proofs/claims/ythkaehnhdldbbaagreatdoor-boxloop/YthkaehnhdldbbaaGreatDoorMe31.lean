/- Joined by mkmerged.py: BxAll. -/
import Derived.Test.YthkaehnhdldbbaaGreatDoorMe30
/- BxAll, what a claim needs of it (prune.py). -/
namespace Go.Proofs.YthkaehnhdldbbaaGreatDoor.Bx
open Go.RowKit
open Lg (BelowX Lies strV StepsAt Stp)
open Fs (fc fc_len fc_cell Fls Env B)
set_option linter.unusedVariables false
set_option maxRecDepth 100000
def loopN : List Stp → Prop
  | [] => True
  | ⟨o, a, n, b⟩ :: r => n ≤ 9223372036854775807 ∧ loopN b ∧ loopN r
def bulkS : List Stp → Nat
  | [] => 0
  | ⟨o, a, n, b⟩ :: r => 1 + bulkS b + bulkS r
theorem bulk_cons (o : Int) (a : List B) (n : Int) (b r : List Stp) : bulkS (⟨o, a, n, b⟩ :: r) = 1 + bulkS b + bulkS r := by rw [bulkS]
theorem needs_true : ∀ l : List Stp, needsQ (fun _ => True) l
  | [] => by rw [needsQ]; trivial
  | ⟨o, a, n, b⟩ :: r => by rw [needsQ]; exact ⟨fun _ => trivial, needs_true b, needs_true r⟩
theorem drop_step : ∀ {l : List Stp} {k : Nat} (hk : k < l.length), rightS l → loopN l → StepR l[k].op l[k].args ∧ l[k].n ≤ 9223372036854775807 ∧ rightS l[k].block ∧ loopN l[k].block ∧ bulkS l[k].block < bulkS l
  | ⟨o, a, n, b⟩ :: r, 0, _, h1, h2 => by
    rw [rightS] at h1
    rw [loopN] at h2
    refine ⟨h1.1, h2.1, h1.2.1, h2.2.1, ?_⟩
    rw [bulk_cons]
    show bulkS b < _
    omega
  | ⟨o, a, n, b⟩ :: r, k + 1, hk, h1, h2 => by
    rw [rightS] at h1
    rw [loopN] at h2
    obtain ⟨g1, g2, g3, g4, g5⟩ := drop_step (l := r) (k := k) (by simpa using hk) h1.2.2 h2.2.2
    refine ⟨g1, g2, g3, g4, ?_⟩
    rw [bulk_cons]
    have e : ((⟨o, a, n, b⟩ :: r : List Stp)[k + 1]).block = (r[k]'(by simpa using hk)).block := rfl
    rw [e]
    omega
theorem len_bulk : ∀ l : List Stp, l.length ≤ bulkS l
  | [] => by simp
  | ⟨o, a, n, b⟩ :: r => by
    have := len_bulk r
    rw [bulk_cons, List.length_cons]
    omega
set_option maxHeartbeats 8000000 in
theorem all_any {b fu : Nat} {N : Option Addr} {nn nc : Nat} {names : List B} (hfu1 : 1 ≤ fu) (hfu2 : fu ≤ 2000) (hnml : nn = names.length) (hnmz : names.length ≤ 1000000) : ∀ (K : Nat) (l : List Stp), K ≤ 1000000 → bulkS l < K → rightS l → loopN l → ∀ (w : World) (s : St) (L : Option Addr) (m mc : Nat),
    EnvB b w → StM w b fu N nn nc s → Fine (fun _ => True) s → s.used ≤ fu → Lies w (fun k => k ≠ b) 1 N nn (strV names) → StepsAt w (fun k => k ≠ b) L m l →
    Calls Tryz.prog 32 #[.pointer (some ⟨b, 0, none⟩), .slice L m mc] w (Went b fu N nn nc w (all fu withF withoutF names upB soB l s))
  | 0, _, _, h, _, _ => absurd h (by omega)
  | K + 1, l, hK2, hK, hrl, hln => by
    intro w s L m mc hE hst hF hu hnm hsl
    have hml : m = l.length := hsl.1
    subst hml
    have hll := len_bulk l
    have hll2 : l.length ≤ 1000000 := by omega
    obtain ⟨A0, c0, hst0⟩ := hst
    have hbw := lt_heap hst0.blk
    have SA : Hid (∀ W, BelowX w.heap.size b w W → StepsAt W (fun k => k ≠ b) L l.length l) := Lib.hid fun W hW => hsl.mono fun k hk hs => ⟨hk, hW.block k hs hk⟩
    have NM : Hid (∀ W, BelowX w.heap.size b w W → Lies W (fun k => k ≠ b) 1 N nn (strV names)) := Lib.hid fun W hW => hnm.mono (by decide) fun k hk hs => ⟨hk, hW.block k hs hk⟩
    have EV := Lib.hid (fun W (hW : BelowX w.heap.size b w W) => hE.onX hW)
    have DS := Lib.hid (fun k (hk : k < l.length) => drop_step hk hrl hln)
    have IH : Hid (∀ k (hk : k < l.length), ∀ (W : World) (s' : St) (L' : Option Addr) (m' mc' : Nat), EnvB b W → StM W b fu N nn nc s' → Fine (fun _ => True) s' → s'.used ≤ fu → Lies W (fun k => k ≠ b) 1 N nn (strV names) → StepsAt W (fun k => k ≠ b) L' m' l[k].block →
        Calls Tryz.prog 32 #[.pointer (some ⟨b, 0, none⟩), .slice L' m' mc'] W (Went b fu N nn nc W (all fu withF withoutF names upB soB l[k].block s'))) := Lib.hid fun k hk => by
      obtain ⟨_, _, g3, g4, g5⟩ := drop_step hk hrl hln
      exact all_any hfu1 hfu2 hnml hnmz K l[k].block (by omega) (by omega) g3 g4
    have EN : Hid (∀ W s', all fu withF withoutF names upB soB l s = s' → StM W b fu N nn nc s' → BelowX w.heap.size b w W → Went b fu N nn nc w (all fu withF withoutF names upB soB l s) (.returned (.tuple #[])) W) := Lib.hid fun W s' h1 h2 h3 => ⟨rfl, by rw [h1]; exact h2, h3⟩
    have F0 := Lib.hid hF
    have U0 := Lib.hid hu
    have S0 : Hid (StM w b fu N nn nc s) := Lib.hid ⟨A0, c0, hst0⟩
    clear hE hst0 hF hu hnm hsl hrl hln hK hll
    generalize Went b fu N nn nc w (all fu withF withoutF names upB soB l s) = Q at *
    go_enter Tryz.func32, Tryz.ntmps32
    go_wp2_with (fail)
    go_loopw [8] (fun i W => ∃ (k : Nat) (s' : St), i = .int .i64 k ∧ k ≤ l.length ∧ Hid (all fu withF withoutF names upB soB l s = all fu withF withoutF names upB soB (l.drop k) s') ∧ Hid (Fine (fun _ => True) s' ∧ s'.used ≤ fu) ∧ Hid (StM W b fu N nn nc s') ∧ BelowX w.heap.size b w W) (fun i _ => l.length - (intOf i).toNat)
    case atStart => exact ⟨0, s, rfl, by omega, Lib.hid (by rw [List.drop_zero]), Lib.hid ⟨F0.out, U0.out⟩, S0, BelowX.refl _ _ _⟩
    case round =>
      obtain ⟨k, s', rfl, hk, RE, SF, SM, hb⟩ := hrel
      by_cases hlt : k < l.length
      · have hkI : (k : Int) < (l.length : Int) := by omega
        obtain ⟨ad, A', ka, ca, B', kb, cb, rfl, e0, e1, e2, e3, hka, hkac, hla, hkbc, hsb⟩ := (SA.out wr hb).at_ hlt
        subst hka
        obtain ⟨g1, g2, g3, g4, g5⟩ := DS.out k hlt
        have e0' : wr.cell? (ad.add (k * 4)) = some (.int .i64 l[k].op) := e0
        have e1' : wr.cell? ⟨(ad.add (k * 4)).block, (ad.add (k * 4)).off + 1, none⟩ = some (.slice A' l[k].args.length ca) := by rw [← add_of_add] at e1; exact e1
        have e2' : wr.cell? ⟨(ad.add (k * 4)).block, (ad.add (k * 4)).off + 2, none⟩ = some (.int .i64 l[k].n) := by rw [← add_of_add] at e2; exact e2
        have e3' : wr.cell? ⟨(ad.add (k * 4)).block, (ad.add (k * 4)).off + 3, none⟩ = some (.slice B' kb cb) := by rw [← add_of_add] at e3; exact e3
        clear e0 e1 e2 e3
        obtain ⟨A1, c1, hst⟩ := SM.out
        obtain ⟨W1, eW⟩ : ∃ W1, W1 = wr.alloc (.cells #[.int .i64 l[k].op, .slice A' l[k].args.length ca, .int .i64 l[k].n, .slice B' kb cb] 42) := ⟨_, rfl⟩
        have hb1 : Below wr.heap.size wr W1 := by rw [eW]; exact (Below.refl _ _).alloc (Nat.le_refl _) _
        have hX1 : BelowX w.heap.size b w W1 := hb.trans ((BelowX.of hb1).mono hb.size)
        have H1 := Lib.hid (hst.keep hb1)
        have OA := Lib.hid (over_any H1.out)
        have STP : l[k] = ⟨l[k].op, l[k].args, l[k].n, l[k].block⟩ := by cases l[k]; rfl
        have DR : Hid (l.drop k = ⟨l[k].op, l[k].args, l[k].n, l[k].block⟩ :: l.drop (k + 1)) := Lib.hid (by rw [List.drop_eq_getElem_cons hlt]; congr 1)
        have HX := Lib.hid hX1
        cases hov : over s' with
        | true =>
          rw [hov] at OA
          have F : Hid (all fu withF withoutF names upB soB l s = s') := Lib.hid (by rw [RE.out]; exact (all_fair fu _).over s' hov)
          clear hov hst STP DR g1 g2 g3 g4 g5 hla hsb hb1 hX1
          generalize l[k].op = so at *
          generalize l[k].args = sa at *
          generalize l[k].n = sn at *
          go_wp2_with (go_at_call 33; rw [← eW]; clear eW; (with_reducible refine (OA.out).mono ?_); rintro e w2 ⟨rfl, rfl⟩)
          go_end0
          exact EN.out _ s' F.out ⟨A1, c1, H1.out⟩ HX.out
        | false =>
          rw [hov] at OA
          have hf1 := all_fair (wf := withF) (wo := withoutF) (names := names) (up := upB) (so := soB) fu l[k].block
          have hk1 : Keeps (fun _ => True) (all fu withF withoutF names upB soB l[k].block) := all_keeps hfu1 _ (needs_true _)
          have DO : Hid (Calls Tryz.prog 69 #[.pointer (some ⟨b, 0, none⟩), .agg #[.int .i64 l[k].op, .slice A' l[k].args.length ca, .int .i64 l[k].n, .slice B' kb cb]] W1 (Went b fu N nn nc W1 (does fu withF withoutF names upB soB l[k].op l[k].args l[k].n (all fu withF withoutF names upB soB l[k].block) s'))) := Lib.hid
            (does_any ⟨EV.out W1 hX1, SF.out.1, hov, SF.out.2, hfu1, hfu2, NM.out W1 hX1, hnml, hnmz, fun W s'' hW h1 h2 h3 h4 => IH.out k hlt W s'' B' kb cb ((EV.out W1 hX1).onX hW) h1 h2 h4 (NM.out W (hX1.trans (hW.mono hX1.size))) (hsb.mono fun g hg hs => ⟨hg, (hW.block g (Nat.lt_of_lt_of_le hs hb1.size) hg).trans (hb1.block g hs)⟩), hf1, hk1⟩
              H1.out l[k].op l[k].n l[k].args A' ca (hla.mono (by decide) fun g hg hs => ⟨hg, hb1.block g hs⟩) hkac g1 g2)
          have F : Hid (all fu withF withoutF names upB soB l s = all fu withF withoutF names upB soB (l.drop (k + 1)) (does fu withF withoutF names upB soB l[k].op l[k].args l[k].n (all fu withF withoutF names upB soB l[k].block) s')) := Lib.hid (by
            rw [RE.out, DR.out, all, if_neg (by rw [hov]; simp)])
          have SF2 : Hid (Fine (fun _ => True) (does fu withF withoutF names upB soB l[k].op l[k].args l[k].n (all fu withF withoutF names upB soB l[k].block) s') ∧ (does fu withF withoutF names upB soB l[k].op l[k].args l[k].n (all fu withF withoutF names upB soB l[k].block) s').used ≤ fu) := Lib.hid
            ⟨does_keeps hfu1 _ _ _ (fun _ => trivial) hk1 s' SF.out.1 hov, (does_spends _ _ _ hf1 s' SF.out.2).2⟩
          have q0 : W1.heap[wr.heap.size]? = some (.cells #[.int .i64 l[k].op, .slice A' l[k].args.length ca, .int .i64 l[k].n, .slice B' kb cb] 42 (0, 0)) := by rw [eW]; exact heap_alloc_new wr _
          have d0 : W1.cell? ⟨wr.heap.size, 0, none⟩ = some (.int .i64 l[k].op) := (cell_heap q0 0).trans rfl
          have d1 : W1.cell? ⟨wr.heap.size, 1, none⟩ = some (.slice A' l[k].args.length ca) := (cell_heap q0 1).trans rfl
          have d2 : W1.cell? ⟨wr.heap.size, 2, none⟩ = some (.int .i64 l[k].n) := (cell_heap q0 2).trans rfl
          have d3 : W1.cell? ⟨wr.heap.size, 3, none⟩ = some (.slice B' kb cb) := (cell_heap q0 3).trans rfl
          clear hov hst STP DR g1 g2 g3 g4 g5 hla hsb hb1 hX1 hf1 hk1 q0 RE
          generalize does fu withF withoutF names upB soB l[k].op l[k].args l[k].n (all fu withF withoutF names upB soB l[k].block) s' = s2 at *
          generalize l[k].op = so at *
          generalize l[k].args = sa at *
          generalize l[k].n = sn at *
          go_wp2_with (first
            | (go_at_call 33; rw [← eW]; clear eW; (with_reducible refine (OA.out).mono ?_); rintro e w2 ⟨rfl, rfl⟩)
            | (go_at_call 69; (with_reducible refine (DO.out).mono ?_); rintro e w3 ⟨rfl, h4, h5⟩))
          go_roundw
          case rel => exact ⟨k + 1, s2, by go_num, by omega, F, SF2, Lib.hid h4, HX.out.trans (h5.mono HX.out.size)⟩
          case measure => simp [intOf]; omega
      · obtain rfl : k = l.length := by omega
        have F : Hid (all fu withF withoutF names upB soB l s = s') := Lib.hid (by rw [RE.out, List.drop_length, all])
        go_wp2_with (fail)
        go_end0
        exact EN.out _ s' F.out SM.out hb
end Go.Proofs.YthkaehnhdldbbaaGreatDoor.Bx
