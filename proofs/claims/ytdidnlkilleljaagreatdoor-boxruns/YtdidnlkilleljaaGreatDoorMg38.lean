/- Joined by mkmerged.py: RxAll, RxUnder, BxRun. -/
import Derived.Test.YtdidnlkilleljaaGreatDoorMg37
import Derived.Test.YtdidnlkilleljaaGreatDoorMg24
import Derived.Test.YtdidnlkilleljaaGreatDoorMg15
/- RxAll, what a claim needs of it (prune.py). -/
namespace Go.Proofs.YtdidnlkilleljaaGreatDoor.Bx
open Go.RowKit
open Lg (BelowX Lies strV StepsAt Stp)
open Fs (fc fc_len fc_cell Fls Env B)
set_option linter.unusedVariables false
set_option maxRecDepth 100000
set_option maxHeartbeats 8000000 in
theorem rall_any {b fu : Nat} {N : Option Addr} {nn nc : Nat} {names : List B} (hfu1 : 1 ≤ fu) (hfu2 : fu ≤ 2000) (hnml : nn = names.length) (hnmz : names.length ≤ 1000000) : ∀ (K : Nat) (l : List Stp), K ≤ 1000000 → bulkS l < K → rightS l → loopN l → ∀ (w : World) (s : St) (L : Option Addr) (m mc : Nat),
    EnvB b w → RM w b fu N nn nc s → Fine (fun _ => True) s → s.used ≤ fu → Lies w (fun k => k ≠ b) 1 N nn (strV names) → StepsAt w (fun k => k ≠ b) L m l →
    Calls Tryz.prog 34 #[.pointer (some ⟨b, 0, none⟩), .slice L m mc] w (RWent b fu N nn nc w (all fu withF withoutF names upB soB l s))
  | 0, _, _, h, _, _ => absurd h (by omega)
  | K + 1, l, hK2, hK, hrl, hln => by
    intro w s L m mc hE hst hF hu hnm hsl
    have hml : m = l.length := hsl.1
    subst hml
    have hll := len_bulk l
    have hll2 : l.length ≤ 1000000 := by omega
    obtain ⟨A0, c0, hst0⟩ := hst
    have hbw := lt_heap hst0.blk
    have SA : Hid (∀ W, BelowX w.heap.size b w W → StepsAt W (fun k => k ≠ b) L l.length l) := Lib.hid fun W hW => hsl.mono fun k hk hs => ⟨hk, hW.block k hs hk⟩
    have NM : Hid (∀ W, BelowX w.heap.size b w W → Lies W (fun k => k ≠ b) 1 N nn (strV names)) := Lib.hid fun W hW => hnm.mono (by decide) fun k hk hs => ⟨hk, hW.block k hs hk⟩
    have EV := Lib.hid (fun W (hW : BelowX w.heap.size b w W) => hE.onX hW)
    have DS := Lib.hid (fun k (hk : k < l.length) => drop_step hk hrl hln)
    have IH : Hid (∀ k (hk : k < l.length), ∀ (W : World) (s' : St) (L' : Option Addr) (m' mc' : Nat), EnvB b W → RM W b fu N nn nc s' → Fine (fun _ => True) s' → s'.used ≤ fu → Lies W (fun k => k ≠ b) 1 N nn (strV names) → StepsAt W (fun k => k ≠ b) L' m' l[k].block →
        Calls Tryz.prog 34 #[.pointer (some ⟨b, 0, none⟩), .slice L' m' mc'] W (RWent b fu N nn nc W (all fu withF withoutF names upB soB l[k].block s'))) := Lib.hid fun k hk => by
      obtain ⟨_, _, g3, g4, g5⟩ := drop_step hk hrl hln
      exact rall_any hfu1 hfu2 hnml hnmz K l[k].block (by omega) (by omega) g3 g4
    have EN : Hid (∀ W s', all fu withF withoutF names upB soB l s = s' → RM W b fu N nn nc s' → BelowX w.heap.size b w W → RWent b fu N nn nc w (all fu withF withoutF names upB soB l s) (.returned (.tuple #[])) W) := Lib.hid fun W s' h1 h2 h3 => ⟨rfl, by rw [h1]; exact h2, h3⟩
    have F0 := Lib.hid hF
    have U0 := Lib.hid hu
    have S0 : Hid (RM w b fu N nn nc s) := Lib.hid ⟨A0, c0, hst0⟩
    clear hE hst0 hF hu hnm hsl hrl hln hK hll
    generalize RWent b fu N nn nc w (all fu withF withoutF names upB soB l s) = Q at *
    go_enter Tryz.func34, Tryz.ntmps34
    go_wp2_with (fail)
    go_loopw [4] (fun i W => ∃ (k : Nat) (s' : St), i = .int .i64 k ∧ k ≤ l.length ∧ Hid (all fu withF withoutF names upB soB l s = all fu withF withoutF names upB soB (l.drop k) s') ∧ Hid (Fine (fun _ => True) s' ∧ s'.used ≤ fu) ∧ Hid (RM W b fu N nn nc s') ∧ BelowX w.heap.size b w W) (fun i _ => l.length - (intOf i).toNat)
    case atStart => exact ⟨0, s, rfl, by omega, Lib.hid (by rw [List.drop_zero]), Lib.hid ⟨F0.out, U0.out⟩, S0, BelowX.refl _ _ _⟩
    case round =>
      obtain ⟨k, s', rfl, hk, RE, SF, SM, hb⟩ := hrel
      by_cases hlt : k < l.length
      · have hkI : (k : Int) < (l.length : Int) := by omega
        obtain ⟨ad, A', ka, ca, B', kb, cb, rfl, e0, e1, e2, e3, hka, hkac, hla, hkbc, hsb⟩ := (SA.out wr hb).at_ hlt
        subst hka
        obtain ⟨g1, g2, g3, g4, g5⟩ := DS.out k hlt
        have e0' : wr.cell? (ad.add (k * 4)) = some (.int .i64 l[k].op) := e0
        have e1' : wr.cell? ⟨(ad.add (k * 4)).block, (ad.add (k * 4)).off + 1, none⟩ = some (.slice A' l[k].args.length ca) := by rw [← add_of_add] at e1; exact e1
        have e2' : wr.cell? ⟨(ad.add (k * 4)).block, (ad.add (k * 4)).off + 2, none⟩ = some (.int .i64 l[k].n) := by rw [← add_of_add] at e2; exact e2
        have e3' : wr.cell? ⟨(ad.add (k * 4)).block, (ad.add (k * 4)).off + 3, none⟩ = some (.slice B' kb cb) := by rw [← add_of_add] at e3; exact e3
        clear e0 e1 e2 e3
        obtain ⟨A1, c1, hst⟩ := SM.out
        have k3 : wr.cell? ⟨b, 3, none⟩ = some (.int .i64 s'.kind) := (cell_heap hst.blk 3).trans rfl
        have H1 := Lib.hid hst
        have STP : l[k] = ⟨l[k].op, l[k].args, l[k].n, l[k].block⟩ := by cases l[k]; rfl
        have DR : Hid (l.drop k = ⟨l[k].op, l[k].args, l[k].n, l[k].block⟩ :: l.drop (k + 1)) := Lib.hid (by rw [List.drop_eq_getElem_cons hlt]; congr 1)
        have HX := Lib.hid hb
        cases hov : over s' with
        | true =>
          have F : Hid (all fu withF withoutF names upB soB l s = s') := Lib.hid (by rw [RE.out]; exact (all_fair fu _).over s' hov)
          have n1 : ((s'.kind : Int) == 0) = false := by have := kind_over hov; simpa using this
          have n2 : ¬ (s'.kind : Int) = 0 := by have := kind_over hov; omega
          clear hov hst STP DR g1 g2 g3 g4 g5 hla hsb
          go_wp2_with (fail)
          go_end0
          exact EN.out _ s' F.out ⟨A1, c1, H1.out⟩ HX.out
        | false =>
          have hf1 := all_fair (wf := withF) (wo := withoutF) (names := names) (up := upB) (so := soB) fu l[k].block
          have hk1 : Keeps (fun _ => True) (all fu withF withoutF names upB soB l[k].block) := all_keeps hfu1 _ (needs_true _)
          have DO : Hid (Calls Tryz.prog 73 #[.pointer (some ⟨b, 0, none⟩), .agg #[.int .i64 l[k].op, .slice A' l[k].args.length ca, .int .i64 l[k].n, .slice B' kb cb]] wr (RWent b fu N nn nc wr (does fu withF withoutF names upB soB l[k].op l[k].args l[k].n (all fu withF withoutF names upB soB l[k].block) s'))) := Lib.hid
            (rstep_any ⟨EV.out wr hb, SF.out.1, hov, SF.out.2, hfu1, hfu2, NM.out wr hb, hnml, hnmz, fun W s'' hW h1 h2 h3 h4 => IH.out k hlt W s'' B' kb cb ((EV.out wr hb).onX hW) h1 h2 h4 (NM.out W (hb.trans (hW.mono hb.size))) (hsb.mono fun g hg hs => ⟨hg, hW.block g hs hg⟩), hf1, hk1⟩
              H1.out l[k].op l[k].n l[k].args A' ca hla hkac g1 g2)
          have F : Hid (all fu withF withoutF names upB soB l s = all fu withF withoutF names upB soB (l.drop (k + 1)) (does fu withF withoutF names upB soB l[k].op l[k].args l[k].n (all fu withF withoutF names upB soB l[k].block) s')) := Lib.hid (by
            rw [RE.out, DR.out, all, if_neg (by rw [hov]; simp)])
          have SF2 : Hid (Fine (fun _ => True) (does fu withF withoutF names upB soB l[k].op l[k].args l[k].n (all fu withF withoutF names upB soB l[k].block) s') ∧ (does fu withF withoutF names upB soB l[k].op l[k].args l[k].n (all fu withF withoutF names upB soB l[k].block) s').used ≤ fu) := Lib.hid
            ⟨does_keeps hfu1 _ _ _ (fun _ => trivial) hk1 s' SF.out.1 hov, (does_spends _ _ _ hf1 s' SF.out.2).2⟩
          have hk0 := kind_on hov
          rw [hk0] at k3
          clear hov hst STP DR g1 g2 g3 g4 g5 hla hsb hf1 hk1 RE hk0
          generalize does fu withF withoutF names upB soB l[k].op l[k].args l[k].n (all fu withF withoutF names upB soB l[k].block) s' = s2 at *
          generalize l[k].op = so at *
          generalize l[k].args = sa at *
          generalize l[k].n = sn at *
          go_wp2_with (go_at_call 73; (with_reducible refine (DO.out).mono ?_); rintro e w3 ⟨rfl, h4, h5⟩)
          go_roundw
          case rel => exact ⟨k + 1, s2, by go_num, by omega, F, SF2, Lib.hid h4, HX.out.trans (h5.mono HX.out.size)⟩
          case measure => simp [intOf]; omega
      · obtain rfl : k = l.length := by omega
        have F : Hid (all fu withF withoutF names upB soB l s = s') := Lib.hid (by rw [RE.out, List.drop_length, all])
        go_wp2_with (fail)
        go_end0
        exact EN.out _ s' F.out SM.out hb
end Go.Proofs.YtdidnlkilleljaaGreatDoor.Bx
/- RxUnder, what a claim needs of it (prune.py). -/
namespace Go.Proofs.YtdidnlkilleljaaGreatDoor.Fs
open Go.RowKit
set_option linter.unusedVariables false
set_option maxRecDepth 100000
set_option maxHeartbeats 1000000 in
theorem runder_own (A : Option Addr) (l : List Fl) (c : Nat) (p : ByteArray) (hp : p.size ≤ 1000000000) (w : World) (hr : Fls w A l) (hs : Small l) :
    Calls Tryz.prog 35 #[.slice A l.length c, .string p] w (FilesOwn (under l (tl p)) w) := by
  obtain ⟨z, hzi, hzs⟩ := infoF
  obtain ⟨i0, hi, hz0, hz1, hz2⟩ := Lg.info_parts hzi
  have RD : Hid (∀ W, Below w.heap.size w W → Reads W w.heap.size 2 A l.length (fc l)) := Lib.hid fun W hW => hr.below hW
  have hl := hs.len
  have HP := Lib.hid hp
  have EN : Hid (∀ W v, W.ownsRow w.heap.size 49 2 v (upto l (tl p) l.length).length (fc (upto l (tl p) l.length)) → Below w.heap.size w W → FilesOwn (under l (tl p)) w (.returned v) W) := Lib.hid fun W v h hb => by
    rw [← upto_all]
    exact ⟨v, rfl, h, hb⟩
  clear hr hs hzi
  generalize FilesOwn (under l (tl p)) w = Q at *
  go_enter Tryz.func35, Tryz.ntmps35
  go_wp2_with (fail)
  go_loopw [5, 6] (fun v i W => ∃ k : Nat, i = .int .i64 k ∧ k ≤ l.length ∧ W.ownsRow w.heap.size 49 2 v (upto l (tl p) k).length (fc (upto l (tl p) k)) ∧ Below w.heap.size w W) (fun _ i _ => l.length - (intOf i).toNat)
  case atStart => exact ⟨0, rfl, by omega, World.ownsRow_nil _ _ _ _, Below.refl _ _⟩
  case round =>
    obtain ⟨k, rfl, hk, hown, hb⟩ := hrel
    have HO := Lib.hid hown
    clear hown
    by_cases hlt : k < l.length
    · have hkI : (k : Int) < (l.length : Int) := by omega
      obtain ⟨ad, rfl, had, c0, c1⟩ := Fls.at_ (RD.out _ hb) hlt
      have hul := upto_len l (tl p) k
      have HIT := Lib.hid (fun r => upto_hit (p := tl p) (r := r) hlt)
      have MISS := Lib.hid (upto_miss (p := tl p) hlt)
      generalize upto l (tl p) k = u at *
      generalize l[k] = f at *
      have BL : Hid (∀ W, Calls Tryz.prog 72 #[.string f.p, .string p] W fun e w' => e = .returned (.bool (belowB (tl f.p) (tl p)).isSome) ∧ W = w') := Lib.hid fun W => rbelow_any f.p p HP.out W
      have hs1 := hb.size
      cases h : belowB (tl f.p) (tl p) with
      | none =>
        rw [h, Option.isSome_none] at BL
        have F := Lib.hid (MISS.out h)
        clear h HIT MISS
        go_wp2_with (go_at_call 72; ((with_reducible refine (BL.out _).mono ?_); rintro e w1 ⟨rfl, rfl⟩))
        go_roundw
        case rel => exact ⟨k + 1, by go_num, by omega, by rw [F.out]; exact HO.out, hb⟩
        case measure => simp [intOf]; omega
      | some r =>
        rw [h, Option.isSome_some] at BL
        have F := Lib.hid (HIT.out _ h)
        have hbl := below_len h
        rw [tl_len, tl_len] at hbl
        have RX : Hid (f.p.extract (p.size + 1) f.p.size = bs r) := Lib.hid (by
          apply Lg.tl_inj
          show (f.p.extract (p.size + 1) f.p.size).data.toList = r
          rw [Lib.extract_to_end, (below_tl h).1, tl_len])
        have i1 : (p.size : Int) + 1 ≤ (f.p.size : Int) := by omega
        have v0 : IntKind.i64.wrap ((p.size : Int) + 1) = (p.size : Int) + 1 := IntWalk.i64_in _ (by have := HP.out; omega)
        have v1 : ((p.size : Int) + 1).toNat = p.size + 1 := by omega
        have v2 : (0 : Int) ≤ (p.size : Int) + 1 := by omega
        clear h HIT MISS
        go_wp2_with (go_at_call 72; ((with_reducible refine (BL.out _).mono ?_); rintro e w1 ⟨rfl, rfl⟩))
        refine wp_region_mix (C := fun w' => ∃ n, w' = wr.drewN n) 16 (by kernel_rfl) (by kernel_rfl) (fun _ _ d _ _ h => by cases d <;> exact h) ⟨1, rfl⟩ ?_
        simp only [List.take_succ_cons, List.take_zero, List.drop_succ_cons, List.drop_zero]
        repeat (quiet_step (first | (intro _; rfl) | (rintro ⟨n, rfl⟩; first | (rw [show ∀ a, (wr.drewN n).cell? a = wr.cell? a from fun _ => rfl, c0]; exact ⟨rfl, rfl⟩) | (rw [show ∀ a, (wr.drewN n).cell? a = wr.cell? a from fun _ => rfl, c1]; exact ⟨rfl, rfl⟩))))
        refine wpQuiet_nil ?_
        rintro _ ⟨n0, rfl⟩
        rw [RX.out]
        go_wp2_with (at_builtin; refine wpList_append_any _ rfl (.tmp 20) (.tmp 36) _ rfl w.heap.size 49 i0 _ 2 32 Tryz.underlying23 hi hz0 hz1 hz2 hzs (by omega) _ u.length _ rfl (own_later HO.out ((belowDN (Below.refl _ _) n0).alloc (Nat.le_refl _) _)) _ (some ⟨wr.heap.size, 0, none⟩) 1 1 [.string (bs r), .string f.d] rfl (reads2_one _ _ _ _ _ rfl) (fc_cell [⟨bs r, f.d⟩]) (by simp only [maxLen]; omega) (by omega) (by simp; omega) ?_; intro v' w2 hown2 hg2 hat2)
        go_roundw
        case rel =>
          refine ⟨k + 1, by go_num, by omega, ?_, Below.grown (hb.trans (((belowDN (Below.refl _ _) n0).alloc (Nat.le_refl _) _).mono hs1)) hg2 (by simp; omega) (fun g hg => (HO.out.lt g hg).1)⟩
          rw [F.out, fc_append, List.length_append]; exact hown2
        case measure => simp [intOf]; omega
    · obtain rfl : k = l.length := by omega
      go_wp2_with (fail)
      exact EN.out _ _ HO.out hb
end Go.Proofs.YtdidnlkilleljaaGreatDoor.Fs
/- BxRun, what a claim needs of it (prune.py). -/
namespace Go.Proofs.YtdidnlkilleljaaGreatDoor.Bx
open Go.RowKit
open Lg (BelowX Lies strV StepsAt Stp numL rightE print)
open Fs (fc fc_len fc_cell Fls Env B under checkE)
set_option linter.unusedVariables false
set_option maxRecDepth 100000
structure Out where
  kind : Int
  files : List Fl
  need : B
  err : Int
  text : B
  used : Int
def outB : B := [111, 117, 116]
def ended (s : St) : Out := if over s = true then ⟨s.kind, [], s.need, s.err, s.text, s.used⟩ else ⟨1, under s.files outB, s.need, s.err, s.text, s.used⟩
def badO (e : Int) : Out := ⟨3, [], [], e, [], 0⟩
noncomputable def outcome (l : List Stp) (fs : List Fl) (names : List B) (fuel : Int) : Out :=
  if rightE l ≠ 0 then badO (rightE l) else if checkE fs ≠ 0 ∨ fuel < 1 ∨ 2000 < fuel then badO 1
  else ended (run withF withoutF names upB soB fuel.toNat l fs)
def outc (o : Out) (A : Option Addr) (c : Nat) : Array Value := #[.int .i64 o.kind, .slice A o.files.length c, .string (bs o.need), .int .i64 o.err, .string (bs o.text), .int .i64 o.used]
def RunSays (o : Out) (w : World) (e : Ending) (w' : World) : Prop := ∃ A c, e = .returned (.agg (outc o A c)) ∧ Fls w' A o.files ∧ o.files.length ≤ c ∧ Below w.heap.size w w'
def RunOwn (o : Out) (w : World) (e : Ending) (w' : World) : Prop := ∃ A c, e = .returned (.agg (outc o A c)) ∧ Lies w' (fun g => w.heap.size ≤ g) 2 A o.files.length (fc o.files) ∧ o.files.length ≤ c ∧ Below w.heap.size w w'
theorem RunOwn.says {o : Out} {w : World} {e : Ending} {w' : World} (h : RunOwn o w e w') : RunSays o w e w' := by
  obtain ⟨A, c, h1, h2, h3, h4⟩ := h
  exact ⟨A, c, h1, h2.reads (by decide), h3, h4⟩
theorem lies_own {W : World} {ok : Nat → Prop} {B0 T s : Nat} {A : Option Addr} {n c : Nat} {xs : List Value} (ho : W.ownsRow B0 T s (.slice A n c) n xs) (hl : xs.length = n * s) (hok : ∀ g, B0 ≤ g → ok g) : Lies W ok s A n xs := by
  refine ⟨hl, fun h0 => ?_⟩
  obtain ⟨ad, rfl, hb, hr⟩ := (Reads.of_own ho).2 h0
  obtain ⟨g, cap, hv, hg, hlt⟩ := ho.form h0
  injection hv with hv
  injection hv with hv
  subst hv
  exact ⟨_, rfl, hok _ hg, hr⟩
theorem set6 {w : World} {g : Nat} {a b c d e f : Value} {T : TypeId} (h : w.heap[g]? = some (.cells #[a, b, c, d, e, f] T (0, 0))) (a' b' c' d' e' f' : Value) :
    ((((((w.setCell ⟨g, 0, none⟩ a').setCell ⟨g, 1, none⟩ b').setCell ⟨g, 2, none⟩ c').setCell ⟨g, 3, none⟩ d').setCell ⟨g, 4, none⟩ e').setCell ⟨g, 5, none⟩ f').heap[g]? = some (.cells #[a', b', c', d', e', f'] T (0, 0)) :=
  (heap_set (heap_set (heap_set (heap_set (heap_set (heap_set h)))))).trans rfl
theorem set6_below {B : Nat} {w0 w : World} (h : Below B w0 w) {g : Nat} (hg : B ≤ g) (a' b' c' d' e' f' : Value) :
    Below B w0 ((((((w.setCell ⟨g, 0, none⟩ a').setCell ⟨g, 1, none⟩ b').setCell ⟨g, 2, none⟩ c').setCell ⟨g, 3, none⟩ d').setCell ⟨g, 4, none⟩ e').setCell ⟨g, 5, none⟩ f') :=
  (((((h.setCell (p := ⟨g, 0, none⟩) hg _).setCell (p := ⟨g, 1, none⟩) hg _).setCell (p := ⟨g, 2, none⟩) hg _).setCell (p := ⟨g, 3, none⟩) hg _).setCell (p := ⟨g, 4, none⟩) hg _).setCell (p := ⟨g, 5, none⟩) hg _
theorem load_out {W : World} {g : Nat} {cs : Array Value} (h : W.heap[g]? = some (.cells cs 31 (0, 0))) (hs : cs.size = 6) : (loadVar 31 ⟨g, 0, none⟩).run Tryz.prog W = .ok (.agg cs) W :=
  run_loadVar_row W g 31 31 cs (0, 0) _ h rfl rfl (by rw [hs]; kernel_rfl)
theorem fs_env {w : World} (h : Lg.Env w) : Env w := ⟨h.1, h.2.1⟩
theorem parse_short {cmd : B} {l : List Stp} (h : Lg.parse cmd = (l, 0)) : cmd.length ≤ 8192 := by
  rcases Nat.lt_or_ge 8192 cmd.length with h1 | h1
  · unfold Lg.parse at h
    rw [if_pos h1] at h
    injection h with _ h
    exact absurd h (by decide)
  · exact h1
theorem bulk_weight : ∀ l : List Stp, bulkS l = Lg.weight l
  | [] => by rw [bulkS, Lg.weight]
  | ⟨o, a, n, b⟩ :: r => by rw [bulkS, Lg.weight, bulk_weight b, bulk_weight r]
theorem loop_num : ∀ {l : List Stp}, numL l → loopN l
  | [], _ => by rw [loopN]; trivial
  | ⟨o, a, n, b⟩ :: r, h => by
    rw [numL] at h
    rw [loopN]
    exact ⟨h.1.2, loop_num h.2.1, loop_num h.2.2⟩
theorem right_small {l : List Fl} (h : RightF l) : Fs.Small l := ⟨by have := h.len; omega, fun f hf => ⟨by have := path_size (h.each f hf).1; omega, by have := (h.each f hf).2; omega⟩⟩
theorem StAt.open_ {w : World} {b fu : Nat} {N A : Option Addr} {nn nc c : Nat} {s : St} (h : StAt w b fu N nn nc A c s) :
    w.cell? ⟨b, 0, none⟩ = some (.slice A s.files.length c) ∧ w.cell? ⟨b, 3, none⟩ = some (.int .i64 s.kind) ∧ w.cell? ⟨b, 4, none⟩ = some (.slice none 0 0) ∧ w.cell? ⟨b, 5, none⟩ = some (.string (bs s.need)) ∧ w.cell? ⟨b, 6, none⟩ = some (.int .i64 s.err) ∧ w.cell? ⟨b, 7, none⟩ = some (.string (bs s.text)) ∧ w.cell? ⟨b, 8, none⟩ = some (.int .i64 s.used) ∧ w.frozen? ⟨b, 3, none⟩ = false ∧ w.frozen? ⟨b, 4, none⟩ = false :=
  ⟨(cell_heap h.blk 0).trans rfl, (cell_heap h.blk 3).trans rfl, (cell_heap h.blk 4).trans rfl, (cell_heap h.blk 5).trans rfl, (cell_heap h.blk 6).trans rfl, (cell_heap h.blk 7).trans rfl, (cell_heap h.blk 8).trans rfl, frozen_heap h.blk 3, frozen_heap h.blk 4⟩
def zeroO : Array Value := #[.int .i64 0, .slice none 0 0, .string ⟨#[]⟩, .int .i64 0, .string ⟨#[]⟩, .int .i64 0]
set_option maxHeartbeats 8000000 in
theorem run_own (l : List Stp) (L : Option Addr) (m mc : Nat) (fs : List Fl) (F : Option Addr) (fc' : Nat) (names : List B) (N : Option Addr) (nn nc : Nat) (fuel : Int) (w : World) (ok : Nat → Prop) (hE : Lg.Env w) (hsl : StepsAt w ok L m l) (hn : numL l) (hpl : (print l).length ≤ 4000000)
    (hf : Fls w F fs) (hfl : fs.length ≤ 1000) (hfc : fs.length ≤ fc') (hfz : ∀ f ∈ fs, f.p.size ≤ maxLen ∧ f.d.size ≤ maxLen) (hnm : Reads w w.heap.size 1 N nn (strV names)) (hnn : nn = names.length) (hnl : names.length ≤ 1000000) :
    Calls Tryz.prog 10 #[.slice L m mc, .slice F fs.length fc', .slice N nn nc, .int .i64 fuel] w (RunOwn (outcome l fs names fuel) w) := by
  obtain ⟨W1, eW⟩ : ∃ W1, W1 = w.alloc (.cells zeroO 31) := ⟨_, rfl⟩
  have hb1 : Below w.heap.size w W1 := by rw [eW]; exact (Below.refl _ _).alloc (Nat.le_refl _) _
  have q1 : W1.heap[w.heap.size]? = some (.cells zeroO 31 (0, 0)) := by rw [eW]; exact heap_alloc_new w _
  have hz1 : W1.heap.size = w.heap.size + 1 := by rw [eW]; simp
  have HB := Lib.hid (fun W (hW : Below W1.heap.size W1 W) => hb1.trans (hW.mono hb1.size))
  have RI := Lib.hid (Lg.lright_any l L m mc W1 ok (hsl.mono fun k hk hs => ⟨hk, hb1.block k hs⟩) hn (by omega) (hE.below hb1))
  have PC : Hid (∀ W, Below W1.heap.size W1 W → Calls Tryz.prog 20 #[.slice F fs.length fc'] W fun e w' => e = .returned (.int .i64 (checkE fs)) ∧ Below W.heap.size W w') := Lib.hid fun W hW => by
    have h := HB.out W hW
    exact Fs.pcheck_any F fs fc' W (fs_env (hE.below h)) ((hf.below h).more h.size) (by unfold maxLen; omega) hfz
  have BAD : Hid (∀ (e : Int) W, outcome l fs names fuel = badO e → Below W1.heap.size W1 W → RunOwn (outcome l fs names fuel) w (.returned (.agg #[.int .i64 3, .slice none 0 0, .string ⟨#[]⟩, .int .i64 e, .string ⟨#[]⟩, .int .i64 0]))
      ((((((W.setCell ⟨w.heap.size, 0, none⟩ (.int .i64 3)).setCell ⟨w.heap.size, 1, none⟩ (.slice none 0 0)).setCell ⟨w.heap.size, 2, none⟩ (.string ⟨#[]⟩)).setCell ⟨w.heap.size, 3, none⟩ (.int .i64 e)).setCell ⟨w.heap.size, 4, none⟩ (.string ⟨#[]⟩)).setCell ⟨w.heap.size, 5, none⟩ (.int .i64 0))) := Lib.hid fun e W h1 h2 => by
    rw [h1]
    exact ⟨none, 0, rfl, Lies.none_, Nat.le_refl _, set6_below (HB.out W h2) (Nat.le_refl _) _ _ _ _ _ _⟩
  have Q1 : Hid (∀ W, Below W1.heap.size W1 W → W.heap[w.heap.size]? = some (.cells zeroO 31 (0, 0))) := Lib.hid fun W hW => heap_below hW (by omega) q1
  have O1 : Hid (rightE l ≠ 0 → outcome l fs names fuel = badO (rightE l)) := Lib.hid fun h => by unfold outcome; rw [if_pos h]
  have ZC : Hid (∀ W, Below W1.heap.size W1 W → (∃ u, W.cell? ⟨w.heap.size, 0, none⟩ = some u) ∧ (∃ u, W.cell? ⟨w.heap.size, 1, none⟩ = some u) ∧ (∃ u, W.cell? ⟨w.heap.size, 2, none⟩ = some u) ∧ (∃ u, W.cell? ⟨w.heap.size, 3, none⟩ = some u) ∧ (∃ u, W.cell? ⟨w.heap.size, 4, none⟩ = some u) ∧ (∃ u, W.cell? ⟨w.heap.size, 5, none⟩ = some u) ∧
      W.frozen? ⟨w.heap.size, 0, none⟩ = false ∧ W.frozen? ⟨w.heap.size, 1, none⟩ = false ∧ W.frozen? ⟨w.heap.size, 2, none⟩ = false ∧ W.frozen? ⟨w.heap.size, 3, none⟩ = false ∧ W.frozen? ⟨w.heap.size, 4, none⟩ = false ∧ W.frozen? ⟨w.heap.size, 5, none⟩ = false) := Lib.hid fun W hW => by
    have q := Q1.out W hW
    exact ⟨⟨_, (cell_heap q 0).trans rfl⟩, ⟨_, (cell_heap q 1).trans rfl⟩, ⟨_, (cell_heap q 2).trans rfl⟩, ⟨_, (cell_heap q 3).trans rfl⟩, ⟨_, (cell_heap q 4).trans rfl⟩, ⟨_, (cell_heap q 5).trans rfl⟩, frozen_heap q 0, frozen_heap q 1, frozen_heap q 2, frozen_heap q 3, frozen_heap q 4, frozen_heap q 5⟩
  by_cases he : rightE l = 0
  · rw [he] at RI
    have hpa := Lg.right_ok he
    by_cases hgood : checkE fs = 0 ∧ 1 ≤ fuel ∧ fuel ≤ 2000
    · obtain ⟨hc0, hf1, hf2⟩ := hgood
      obtain ⟨fu, rfl⟩ : ∃ fu : Nat, fuel = (fu : Int) := ⟨fuel.toNat, by omega⟩
      rw [hc0] at PC
      have hRF := right_iff.1 hc0
      have k1 : ¬ (fu : Int) < 1 := by omega
      have k2 : ¬ (2000 : Int) < (fu : Int) := by omega
      have k3 : decide ((fu : Int) < 1) = false := decide_eq_false k1
      have k4 : decide ((2000 : Int) < (fu : Int)) = false := decide_eq_false k2
      have hrs : rightS l := by
        have := parse_right (cmd := print l)
        rw [hpa] at this
        exact this
      have hbk : bulkS l < 1000000 := by
        have h1 := Lg.parse_size hpa
        have h2 := parse_short hpa
        rw [bulk_weight]
        omega
      have hOUT : outcome l fs names fu = ended (run withF withoutF names upB soB fu l fs) := by
        unfold outcome
        rw [if_neg (by simp [he]), if_neg (by omega)]
        rfl
      -- the state that is begun
      have ALL : Hid (∀ W, Below W1.heap.size W1 W → Calls Tryz.prog 29 #[.pointer (some ⟨W.heap.size, 0, none⟩), .slice L m mc] (W.alloc (.cells #[.slice F fs.length fc', .slice N nn nc, .int .i64 fu, .int .i64 0, .slice none 0 0, .string ⟨#[]⟩, .int .i64 0, .string ⟨#[]⟩, .int .i64 0] 65))
          (Went W.heap.size fu N nn nc (W.alloc (.cells #[.slice F fs.length fc', .slice N nn nc, .int .i64 fu, .int .i64 0, .slice none 0 0, .string ⟨#[]⟩, .int .i64 0, .string ⟨#[]⟩, .int .i64 0] 65)) (run withF withoutF names upB soB fu l fs))) := Lib.hid fun W hW => by
        have hw := HB.out W hW
        have hws := hw.size
        have hw2 : Below w.heap.size w (W.alloc (.cells #[.slice F fs.length fc', .slice N nn nc, .int .i64 fu, .int .i64 0, .slice none 0 0, .string ⟨#[]⟩, .int .i64 0, .string ⟨#[]⟩, .int .i64 0] 65)) := hw.alloc hws _
        exact all_any (by omega) (by omega) hnn hnl 1000000 l (Nat.le_refl _) hbk hrs (loop_num hn) _ (start fs) L m mc ⟨w, fs_env hE, hws, hw2⟩
          ⟨F, fc', (heap_alloc_new W _).trans rfl, (Lies.of_reads hf).mono (by decide) (fun k hk hs => ⟨by omega, hw2.block k hs⟩), hfc⟩
          ⟨hRF, .inl ⟨rfl, rfl, rfl, rfl⟩⟩ (Nat.zero_le _)
          ((Lies.of_reads hnm).mono (by decide) (fun k hk hs => ⟨by omega, hw2.block k hs⟩)) (hsl.mono fun k hk hs => ⟨by omega, hw2.block k hs⟩)
      have QX : Hid (∀ W V, Below W1.heap.size W1 W → BelowX (W.alloc (.cells #[.slice F fs.length fc', .slice N nn nc, .int .i64 fu, .int .i64 0, .slice none 0 0, .string ⟨#[]⟩, .int .i64 0, .string ⟨#[]⟩, .int .i64 0] 65)).heap.size W.heap.size (W.alloc (.cells #[.slice F fs.length fc', .slice N nn nc, .int .i64 fu, .int .i64 0, .slice none 0 0, .string ⟨#[]⟩, .int .i64 0, .string ⟨#[]⟩, .int .i64 0] 65)) V →
          V.cell? ⟨w.heap.size, 0, none⟩ = some (.int .i64 0) ∧ V.cell? ⟨w.heap.size, 1, none⟩ = some (.slice none 0 0) ∧ V.cell? ⟨w.heap.size, 2, none⟩ = some (.string ⟨#[]⟩) ∧ V.cell? ⟨w.heap.size, 3, none⟩ = some (.int .i64 0) ∧ V.cell? ⟨w.heap.size, 4, none⟩ = some (.string ⟨#[]⟩) ∧ V.cell? ⟨w.heap.size, 5, none⟩ = some (.int .i64 0) ∧
          V.frozen? ⟨w.heap.size, 0, none⟩ = false ∧ V.frozen? ⟨w.heap.size, 1, none⟩ = false ∧ V.frozen? ⟨w.heap.size, 2, none⟩ = false ∧ V.frozen? ⟨w.heap.size, 3, none⟩ = false ∧ V.frozen? ⟨w.heap.size, 4, none⟩ = false ∧ V.frozen? ⟨w.heap.size, 5, none⟩ = false) := Lib.hid fun W V hW hX => by
        have hws := hW.size
        have q0 := heap_alloc_lt (o' := .cells #[.slice F fs.length fc', .slice N nn nc, .int .i64 fu, .int .i64 0, .slice none 0 0, .string ⟨#[]⟩, .int .i64 0, .string ⟨#[]⟩, .int .i64 0] 65) (Q1.out W hW)
        have q := (hX.block w.heap.size (by simp; omega) (by omega)).trans q0
        exact ⟨(cell_heap q 0).trans rfl, (cell_heap q 1).trans rfl, (cell_heap q 2).trans rfl, (cell_heap q 3).trans rfl, (cell_heap q 4).trans rfl, (cell_heap q 5).trans rfl, frozen_heap q 0, frozen_heap q 1, frozen_heap q 2, frozen_heap q 3, frozen_heap q 4, frozen_heap q 5⟩
      have QH : Hid (∀ W V, Below W1.heap.size W1 W → BelowX (W.alloc (.cells #[.slice F fs.length fc', .slice N nn nc, .int .i64 fu, .int .i64 0, .slice none 0 0, .string ⟨#[]⟩, .int .i64 0, .string ⟨#[]⟩, .int .i64 0] 65)).heap.size W.heap.size (W.alloc (.cells #[.slice F fs.length fc', .slice N nn nc, .int .i64 fu, .int .i64 0, .slice none 0 0, .string ⟨#[]⟩, .int .i64 0, .string ⟨#[]⟩, .int .i64 0] 65)) V →
          V.heap[w.heap.size]? = some (.cells zeroO 31 (0, 0)) ∧ w.heap.size < W.heap.size ∧ Below w.heap.size w V) := Lib.hid fun W V hW hX => by
        have hws := hW.size
        have q0 := heap_alloc_lt (o' := .cells #[.slice F fs.length fc', .slice N nn nc, .int .i64 fu, .int .i64 0, .slice none 0 0, .string ⟨#[]⟩, .int .i64 0, .string ⟨#[]⟩, .int .i64 0] 65) (Q1.out W hW)
        exact ⟨(hX.block w.heap.size (by simp; omega) (by omega)).trans q0, by omega, ((HB.out W hW).alloc (HB.out W hW).size _).trans (hX.below (by simp; omega) (by omega))⟩
      have FIN : Hid (Fine (fun _ => True) (run withF withoutF names upB soB fu l fs)) := Lib.hid (run_fine (by omega) (needs_true l) hRF)
      clear hpa hRF hrs hbk hE hsl hn hpl hf hfl hfc hfz hnm hnn hnl BAD O1 hb1 q1 hc0 he
      rw [hOUT]
      clear hOUT
      generalize run withF withoutF names upB soB fu l fs = st at *
      cases hov : over st with
      | true =>
        have OV := Lib.hid hov
        have EN : Hid (∀ V, Below w.heap.size w V → RunOwn (ended st) w (.returned (.agg #[.int .i64 st.kind, .slice none 0 0, .string (bs st.need), .int .i64 st.err, .string (bs st.text), .int .i64 st.used])) V) := Lib.hid fun V h => by
          unfold ended
          rw [if_pos hov]
          exact ⟨none, 0, rfl, Lies.none_, Nat.le_refl _, h⟩
        clear hov
        generalize RunOwn (ended st) w = Q at *
        go_enter Tryz.func10, Tryz.ntmps10
        go_wp2_with (first | (go_at_call 28; rw [zeroO] at eW; rw [← eW]; clear eW; (with_reducible refine (RI.out).mono ?_); rintro e w2 ⟨rfl, hb2⟩) | (go_at_call 20; (with_reducible refine (PC.out _ hb2).mono ?_); rintro e w3 ⟨rfl, hb3⟩; have h3 := hb2.trans (hb3.mono hb2.size); clear hb3) | (go_at_call 29; (with_reducible refine (ALL.out _ h3).mono ?_); rintro e w4 ⟨rfl, ⟨A4, c4, h4⟩, h5⟩; have H4 := Lib.hid h4; have OA := Lib.hid (over_any h4); obtain ⟨s0, s3, s4, s5, s6, s7, s8, t3, t4⟩ := h4.open_; clear h4) | (go_at_call 30; rw [OV.out] at OA; (with_reducible refine (OA.out).mono ?_); rintro e w5 ⟨rfl, rfl⟩; obtain ⟨x0, x1, x2, x3, x4, x5, y0, y1, y2, y3, y4, y5⟩ := QX.out _ _ h3 h5))
        refine bodyPost_ret (results_cell rfl _ _ _ ⟨w.heap.size, 0, none⟩ _ _ rfl (load_out (set6 (QH.out _ _ h3 h5).1 _ _ _ _ _ _) rfl)) rfl ?_
        exact EN.out _ (set6_below (QH.out _ _ h3 h5).2.2 (Nat.le_refl _) _ _ _ _ _ _)
      | false =>
        have OV := Lib.hid hov
        have EN : Hid (∀ V A c, Lies V (fun g => w.heap.size ≤ g) 2 A (under st.files outB).length (fc (under st.files outB)) → (under st.files outB).length ≤ c → Below w.heap.size w V → RunOwn (ended st) w (.returned (.agg #[.int .i64 1, .slice A (under st.files outB).length c, .string (bs st.need), .int .i64 st.err, .string (bs st.text), .int .i64 st.used])) V) := Lib.hid fun V A c h1 h2 h => by
          unfold ended
          rw [if_neg (by simp [hov])]
          exact ⟨A, c, rfl, h1, h2, h⟩
        clear hov
        generalize RunOwn (ended st) w = Q at *
        go_enter Tryz.func10, Tryz.ntmps10
        go_wp2_with (first | (go_at_call 28; rw [zeroO] at eW; rw [← eW]; clear eW; (with_reducible refine (RI.out).mono ?_); rintro e w2 ⟨rfl, hb2⟩) | (go_at_call 20; (with_reducible refine (PC.out _ hb2).mono ?_); rintro e w3 ⟨rfl, hb3⟩; have h3 := hb2.trans (hb3.mono hb2.size); clear hb3) | (go_at_call 29; (with_reducible refine (ALL.out _ h3).mono ?_); rintro e w4 ⟨rfl, ⟨A4, c4, h4⟩, h5⟩; have H4 := Lib.hid h4; have OA := Lib.hid (over_any h4); obtain ⟨s0, s3, s4, s5, s6, s7, s8, t3, t4⟩ := h4.open_; clear h4) | (go_at_call 30; rw [OV.out] at OA; (with_reducible refine (OA.out).mono ?_); rintro e w5 ⟨rfl, rfl⟩; have UN : Hid (Calls Tryz.prog 31 #[.slice A4 st.files.length c4, .string ⟨#[111, 117, 116]⟩] w4 (Fs.FilesOwn (under st.files outB) w4)) := Lib.hid (Fs.under_own A4 st.files c4 ⟨#[111, 117, 116]⟩ (by decide) w4 H4.out.flsr (right_small FIN.out.files)); have hq1 := (QH.out _ _ h3 h5).2.1; have hne1 : ¬ w.heap.size = w3.heap.size := (by omega); have hne2 : ¬ w3.heap.size = w.heap.size := (by omega); clear s3 s4 s5 s6 s7 s8 t3 t4) | (go_at_call 31; (with_reducible refine (UN.out).mono ?_); rintro e w6 ⟨v6, rfl, ho6, hb6⟩; clear s0; have H6 := Lib.hid (H4.out.keep hb6); obtain ⟨vA, vc, rfl, hvc⟩ := own_slc ho6; have HO6 := Lib.hid ho6; have hlt4 := lt_heap H4.out.blk; have hs4 := h5.size; clear ho6; have hx6 := h5.trans ((BelowX.of hb6).mono h5.size); obtain ⟨s0, s3, s4, s5, s6, s7, s8, t3, t4⟩ := H6.out.open_; obtain ⟨x0, x1, x2, x3, x4, x5, y0, y1, y2, y3, y4, y5⟩ := QX.out _ _ h3 hx6; have HH := Lib.hid (QH.out _ _ h3 hx6)))
        simp at hs4
        refine bodyPost_ret (results_cell rfl _ _ _ ⟨w.heap.size, 0, none⟩ _ _ rfl (load_out (set6 (by rw [heap_set_ne hne2, heap_set_ne hne2]; exact HH.out.1) _ _ _ _ _ _) rfl)) rfl ?_
        refine EN.out _ vA vc (lies_own (c := vc) (own_past (own_past (own_past (own_past (own_past (own_past (own_past (own_past HO6.out hlt4 _ _) hlt4 _ _) (by omega) _ _) (by omega) _ _) (by omega) _ _) (by omega) _ _) (by omega) _ _) (by omega) _ _) (fc_len _) (fun g hg => by have := HH.out.2.1; omega)) hvc ?_
        exact set6_below ((HH.out.2.2.setCell (p := ⟨w3.heap.size, 3, none⟩) (by show w.heap.size ≤ w3.heap.size; omega) _).setCell (p := ⟨w3.heap.size, 4, none⟩) (by show w.heap.size ≤ w3.heap.size; omega) _) (Nat.le_refl _) _ _ _ _ _ _
    · have O2 : outcome l fs names fuel = badO 1 := by unfold outcome; rw [if_neg (by simp [he]), if_pos (by omega)]
      have B1 := Lib.hid (fun W hW => BAD.out _ W O2 hW)
      clear he hE hsl hn hpl hf hfl hfc hfz hnm hnn hnl BAD O1 hb1 q1 O2 hpa
      generalize RunOwn (outcome l fs names fuel) w = Q at *
      by_cases hc : checkE fs = 0
      · rw [hc] at PC
        have hff : fuel < 1 ∨ 2000 < fuel := by omega
        clear hc hgood
        rcases hff with hlo | hhi
        · have k1 : decide (fuel < 1) = true := decide_eq_true hlo
          go_enter Tryz.func10, Tryz.ntmps10
          go_wp2_with (first | (go_at_call 28; rw [zeroO] at eW; rw [← eW]; clear eW; (with_reducible refine (RI.out).mono ?_); rintro e w2 ⟨rfl, hb2⟩) | (go_at_call 20; (with_reducible refine (PC.out _ hb2).mono ?_); rintro e w3 ⟨rfl, hb3⟩; have h3 := hb2.trans (hb3.mono hb2.size); obtain ⟨⟨u0, x0⟩, ⟨u1, x1⟩, ⟨u2, x2⟩, ⟨u3, x3⟩, ⟨u4, x4⟩, ⟨u5, x5⟩, y0, y1, y2, y3, y4, y5⟩ := ZC.out _ h3))
          refine bodyPost_ret (results_cell rfl _ _ _ ⟨w.heap.size, 0, none⟩ _ _ rfl (load_out (set6 (Q1.out _ h3) _ _ _ _ _ _) rfl)) rfl ?_
          exact B1.out _ h3
        · have hlo : ¬ fuel < 1 := by omega
          have k1 : decide (fuel < 1) = false := decide_eq_false hlo
          have k2 : decide (2000 < fuel) = true := decide_eq_true hhi
          go_enter Tryz.func10, Tryz.ntmps10
          go_wp2_with (first | (go_at_call 28; rw [zeroO] at eW; rw [← eW]; clear eW; (with_reducible refine (RI.out).mono ?_); rintro e w2 ⟨rfl, hb2⟩) | (go_at_call 20; (with_reducible refine (PC.out _ hb2).mono ?_); rintro e w3 ⟨rfl, hb3⟩; have h3 := hb2.trans (hb3.mono hb2.size); obtain ⟨⟨u0, x0⟩, ⟨u1, x1⟩, ⟨u2, x2⟩, ⟨u3, x3⟩, ⟨u4, x4⟩, ⟨u5, x5⟩, y0, y1, y2, y3, y4, y5⟩ := ZC.out _ h3))
          refine bodyPost_ret (results_cell rfl _ _ _ ⟨w.heap.size, 0, none⟩ _ _ rfl (load_out (set6 (Q1.out _ h3) _ _ _ _ _ _) rfl)) rfl ?_
          exact B1.out _ h3
      · have k0 : (checkE fs != 0) = true := by simpa using hc
        clear hgood
        generalize checkE fs = ce at *
        go_enter Tryz.func10, Tryz.ntmps10
        go_wp2_with (first | (go_at_call 28; rw [zeroO] at eW; rw [← eW]; clear eW; (with_reducible refine (RI.out).mono ?_); rintro e w2 ⟨rfl, hb2⟩) | (go_at_call 20; (with_reducible refine (PC.out _ hb2).mono ?_); rintro e w3 ⟨rfl, hb3⟩; have h3 := hb2.trans (hb3.mono hb2.size); obtain ⟨⟨u0, x0⟩, ⟨u1, x1⟩, ⟨u2, x2⟩, ⟨u3, x3⟩, ⟨u4, x4⟩, ⟨u5, x5⟩, y0, y1, y2, y3, y4, y5⟩ := ZC.out _ h3))
        refine bodyPost_ret (results_cell rfl _ _ _ ⟨w.heap.size, 0, none⟩ _ _ rfl (load_out (set6 (Q1.out _ h3) _ _ _ _ _ _) rfl)) rfl ?_
        exact B1.out _ h3
  · have B1 := Lib.hid (fun W hW => BAD.out _ W (O1.out he) hW)
    have he2 : ((rightE l : Int) != 0) = true := by simpa using he
    have he3 : ¬ (rightE l : Int) = 0 := by omega
    clear he hE hsl hn hpl hf hfl hfc hfz hnm hnn hnl BAD O1 hb1 q1 PC
    generalize (rightE l : Int) = er at *
    generalize RunOwn (outcome l fs names fuel) w = Q at *
    go_enter Tryz.func10, Tryz.ntmps10
    go_wp2_with (go_at_call 28; rw [zeroO] at eW; rw [← eW]; clear eW; (with_reducible refine (RI.out).mono ?_); rintro e w2 ⟨rfl, hb2⟩; obtain ⟨⟨u0, x0⟩, ⟨u1, x1⟩, ⟨u2, x2⟩, ⟨u3, x3⟩, ⟨u4, x4⟩, ⟨u5, x5⟩, y0, y1, y2, y3, y4, y5⟩ := ZC.out _ hb2)
    refine bodyPost_ret (results_cell rfl _ _ _ ⟨w.heap.size, 0, none⟩ _ _ rfl (load_out (set6 (Q1.out _ hb2) _ _ _ _ _ _) rfl)) rfl ?_
    exact B1.out _ hb2
theorem run_any (l : List Stp) (L : Option Addr) (m mc : Nat) (fs : List Fl) (F : Option Addr) (fc' : Nat) (names : List B) (N : Option Addr) (nn nc : Nat) (fuel : Int) (w : World) (ok : Nat → Prop) (hE : Lg.Env w) (hsl : StepsAt w ok L m l) (hn : numL l) (hpl : (print l).length ≤ 4000000)
    (hf : Fls w F fs) (hfl : fs.length ≤ 1000) (hfc : fs.length ≤ fc') (hfz : ∀ f ∈ fs, f.p.size ≤ maxLen ∧ f.d.size ≤ maxLen) (hnm : Reads w w.heap.size 1 N nn (strV names)) (hnn : nn = names.length) (hnl : names.length ≤ 1000000) :
    Calls Tryz.prog 10 #[.slice L m mc, .slice F fs.length fc', .slice N nn nc, .int .i64 fuel] w (RunSays (outcome l fs names fuel) w) :=
  (run_own l L m mc fs F fc' names N nn nc fuel w ok hE hsl hn hpl hf hfl hfc hfz hnm hnn hnl).mono fun _ _ h => h.says
end Go.Proofs.YtdidnlkilleljaaGreatDoor.Bx
