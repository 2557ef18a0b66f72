/- Joined by mkmerged.py: StrSet, GrTwice, GrFind, GrSorted. -/
import Derived.Test.YtmlaolmaopjhbaaGreatDoorProg
import Derived.Test.YtmlaolmaopjhbaaGreatDoorMi10
import Derived.WalkKit
import Derived.Maps.OwnSet
import Derived.Maps.OwnOps
import Derived.Maps.Views
import Derived.Deep.Draws
import Derived.Deep.QuietTactic
import Derived.BigQuiet
import Derived.Test.YtmlaolmaopjhbaaGreatDoorMi03
import Derived.RegionTactic
import Derived.ChangeAlike
/- StrSet, what a claim needs of it (prune.py). -/
namespace Go.Proofs.YtmlaolmaopjhbaaGreatDoor
open Go.RowKit Go.Maps
set_option linter.unusedVariables false
set_option maxRecDepth 100000
namespace Ss
theorem kstr : Keyed Tryz.prog 9 := string_keyed Tryz.underlying9
theorem kof {s : ByteArray} (hs : s.size ≤ maxLen) : keyOf Tryz.prog 9 (.string s) = some (.string s.data.toList) := WideMaps.keyOf_string_mk Tryz.underlying9 hs
theorem lit_ne {a b : ByteArray} (h : a ≠ b) : (Lit.string a.data.toList) ≠ .string b.data.toList := by
  intro e
  injection e with e
  apply h
  cases a; cases b
  exact congrArg ByteArray.mk (Array.toList_inj.1 e)
def SetAt (w : World) (m n : Nat) (S : List ByteArray) : Prop :=
  ∃ D : DataW Unit, w.ownsMap Tryz.prog 9 (plainElem Tryz.prog 4) m n D ∧ ∀ s : ByteArray, D.atKey (.string s.data.toList) (.lit (.bool false)) = .lit (.bool (Gr.has S s))
theorem plain_bool_inv {v : Value} {b : Bool} {ps : List MemPlace} (h : plainElem (H := Unit) Tryz.prog 4 v = some (.lit (.bool b), ps)) : v = .bool b := by
  unfold plainElem at h
  rw [Tryz.underlying4] at h
  cases v <;> simp at h
  rw [h.1]
theorem SetAt.keep {w w' : World} {m n : Nat} {S : List ByteArray} (h : SetAt w m n S) (hb : w'.heap[m]? = w.heap[m]?) : SetAt w' m n S := by
  obtain ⟨D, ⟨es, cl, h1, h2, h3, h4⟩, hs⟩ := h
  exact ⟨D, ⟨es, cl, hb.trans h1, h2, h3, h4⟩, hs⟩
theorem SetAt.lt {w : World} {m n : Nat} {S : List ByteArray} (h : SetAt w m n S) : m < w.heap.size := by
  obtain ⟨D, h1, _⟩ := h
  exact h1.lt
theorem SetAt.below {w w' : World} {m n : Nat} {S : List ByteArray} (h : SetAt w m n S) {B : Nat} (hB : m < B) (hb : Below B w w') : SetAt w' m n S := h.keep (hb.block m hB)
theorem SetAt.later {w w' : World} {m n : Nat} {S : List ByteArray} (h : SetAt w m n S) (hb : Below w.heap.size w w') : SetAt w' m n S := h.below h.lt hb
theorem SetAt.alloc {w : World} {m n : Nat} {S : List ByteArray} (h : SetAt w m n S) (o : Obj) : SetAt (w.alloc o) m n S := h.keep (Below.heap_alloc _ _ _ h.lt)
theorem SetAt.drewN {w : World} {m n : Nat} {S : List ByteArray} (h : SetAt w m n S) (k : Nat) : SetAt (w.drewN k) m n S := h
theorem SetAt.setCell {w : World} {m n : Nat} {S : List ByteArray} (h : SetAt w m n S) {p : Addr} (hp : m ≠ p.block) (u : Value) : SetAt (w.setCell p u) m n S := h.keep (Below.heap_setCell _ _ _ _ hp)
theorem SetAt.grown {w w' : World} {m n : Nat} {S : List ByteArray} {row : Option Nat} (h : SetAt w m n S) (hg : w.grownBy w' row) (hne : some m ≠ row) : SetAt w' m n S := h.keep (hg.block m h.lt hne)
theorem SetAt.congr {w : World} {m n : Nat} {S S' : List ByteArray} (h : SetAt w m n S) (hs : ∀ s, Gr.has S s = Gr.has S' s) : SetAt w m n S' := by
  obtain ⟨D, h1, h2⟩ := h
  exact ⟨D, h1, fun s => by rw [h2 s, hs s]⟩
theorem SetAt.made (w : World) : SetAt (w.alloc (.map #[] 0)) w.heap.size 0 [] := ⟨.map [], World.ownsMap_made _ _ _ _, fun s => rfl⟩
theorem SetAt.more {w : World} {m n n' : Nat} {S : List ByteArray} (h : SetAt w m n S) (hn : n ≤ n') : SetAt w m n' S := by
  obtain ⟨D, h1, h2⟩ := h
  exact ⟨D, h1.mono hn, h2⟩
theorem SetAt.look {w : World} {m n : Nat} {S : List ByteArray} (h : SetAt w m n S) {s : ByteArray} (hs : s.size ≤ maxLen) :
    (Instr.lookup 287 (.map (some m)) (.string s) false).run Tryz.prog w = .ok (.bool (Gr.has S s)) w := by
  obtain ⟨D, h1, h2⟩ := h
  obtain ⟨v, ps, hrun, hv⟩ := h1.lookup kstr Tryz.underlying287 (z := .bool false) (by kernel_rfl) (plainElem_bool Tryz.underlying4 false) (kof hs)
  rw [h2 s] at hv
  rw [hrun, plain_bool_inv hv]
theorem has_cons (S : List ByteArray) (s x : ByteArray) : Gr.has (s :: S) x = (decide (s = x) || Gr.has S x) := rfl
theorem SetAt.put {w : World} {m n : Nat} {S : List ByteArray} (h : SetAt w m n S) (hn : n < maxLen) {s : ByteArray} (hs : s.size ≤ maxLen) :
    ∃ w', (Instr.mapUpdate 287 (.map (some m)) (.string s) (.bool true)).run Tryz.prog w = .ok () w' ∧ SetAt w' m (n + 1) (s :: S) ∧ w.grownBy w' (some m) := by
  obtain ⟨D, h1, h2⟩ := h
  obtain ⟨w', hrun, ho, hg⟩ := h1.update kstr Tryz.underlying287 hn (kof hs) (plainElem_bool Tryz.underlying4 true)
  refine ⟨w', hrun, ⟨_, ho, fun x => ?_⟩, hg⟩
  rw [has_cons]
  by_cases e : s = x
  · subst e
    rw [atKey_put_same h1.isMap (show WideAt.IsKeyLit (.string s.data.toList) from trivial), decide_eq_true rfl]; rfl
  · rw [atKey_put_other (fun h => lit_ne e h.symm), h2 x, decide_eq_false e]; rfl
end Ss
end Go.Proofs.YtmlaolmaopjhbaaGreatDoor
/- GrTwice, what a claim needs of it (prune.py). -/
namespace Go.Proofs.YtmlaolmaopjhbaaGreatDoor.Gr
open Go.RowKit
open Lg (Strs tl)
set_option linter.unusedVariables false
set_option maxRecDepth 100000
def Drew (w w' : World) : Prop := ∃ m, w' = w.drewN m
theorem Drew.refl (w : World) : Drew w w := ⟨0, rfl⟩
theorem Drew.more {w w' : World} (h : Drew w w') (n : Nat) : Drew w (w'.drewN n) := by
  obtain ⟨m, rfl⟩ := h
  exact ⟨_, World.drewN_drewN _ _ _⟩
theorem Drew.below {w w' : World} (h : Drew w w') : Below w.heap.size w w' := by
  obtain ⟨m, rfl⟩ := h
  exact ⟨rfl, rfl, rfl, Nat.le_refl _, fun _ _ => rfl⟩
theorem Drew.strs {w w' : World} (h : Drew w w') {A : Option Addr} {l : List ByteArray} (k : Strs w A l) : Strs w' A l := by
  obtain ⟨m, rfl⟩ := h
  exact k
theorem has_next {l : List ByteArray} {k : Nat} (hk : k < l.length) (s : ByteArray) : has (l.take (k + 1)) s = (has (l.take k) s || decide (l[k] = s)) := by
  unfold has
  rw [List.take_succ_eq_append_getElem hk, List.any_append, List.any_cons, List.any_nil, Bool.or_false]
theorem nodup_no (l : List ByteArray) : (l.take 0).Nodup := by simp
theorem twice_any (A : Option Addr) (l : List ByteArray) (c : Nat) (w : World) (hr : Strs w A l) (hl : l.length ≤ 1000000000) (hs : ∀ x ∈ l, x.size ≤ maxLen) :
    Calls Tryz.prog 257 #[.slice A l.length c] w fun e w' => e = .returned (.bool (dup l)) ∧ Below w.heap.size w w' := by
  have RD : Hid (∀ W, Below w.heap.size w W → Strs W A l) := Lib.hid fun W hW => hr.below hW
  have SZ := Lib.hid hs
  have hmm := @run_makeMap Tryz.prog
  clear hr hs
  go_enter Tryz.func257, Tryz.ntmps257
  go_wp2_with (fail)
  go_loopw [9] (fun i wx => ∃ (k : Nat) (S : List ByteArray), i = .int .i64 k ∧ k ≤ l.length ∧ Ss.SetAt wx w.heap.size k S ∧ (∀ x, has S x = has (l.take k) x) ∧ (l.take k).Nodup ∧ Below w.heap.size w wx) (fun i _ => l.length - (intOf i).toNat)
  case atStart => exact ⟨0, [], rfl, by omega, Ss.SetAt.made w, fun _ => rfl, nodup_no l, (Below.refl _ _).alloc (Nat.le_refl _) _⟩
  case round =>
    obtain ⟨k, S, rfl, hk, hS, hx, hn, hb⟩ := hrel
    have HX := Lib.hid hx
    have HN := Lib.hid hn
    clear hx hn
    by_cases hlt : k < l.length
    · have hkI : (k : Int) < (l.length : Int) := by omega
      obtain ⟨ad, rfl, _, hc⟩ := (RD.out _ hb).at_ hlt
      have hz := SZ.out _ (List.getElem_mem hlt)
      have LK := hS.look hz
      rw [HX.out] at LK
      cases h : has (l.take k) l[k]
      · rw [h] at LK
        obtain ⟨w2, hput, hS2, hg⟩ := hS.put (by unfold maxLen; omega) hz
        have NX : Hid (∀ x, has (l[k] :: S) x = has (l.take (k + 1)) x) := Lib.hid (fun x => by
          rw [has_next hlt x, ← HX.out x, Bool.or_comm]; rfl)
        have ND := Lib.hid (nodup_next hlt HN.out (has_no.1 h))
        have hb2 : Below w.heap.size w w2 := hb.grown hg hb.size (fun g e => by injection e with e; omega)
        clear h hS hg
        generalize l[k] = x at *
        go_wp2_with (fail)
        go_roundw
        case rel => exact ⟨k + 1, x :: S, by go_num, by omega, hS2, NX.out, ND.out, hb2⟩
        case measure => simp [intOf]; omega
      · rw [h] at LK
        have F := Lib.hid (dup_hit hlt (has_iff.1 h))
        clear h
        go_wp2_with (fail)
        go_ret
        exact ⟨Lg.ret_bool F.out, hb⟩
    · obtain rfl : k = l.length := by omega
      have F := Lib.hid (dup_none HN.out)
      go_wp2_with (fail)
      go_ret
      exact ⟨Lg.ret_bool F.out, hb⟩
def same (a b : List ByteArray) : Bool := decide (a = b)
end Go.Proofs.YtmlaolmaopjhbaaGreatDoor.Gr
/- GrFind, what a claim needs of it (prune.py). -/
namespace Go.Proofs.YtmlaolmaopjhbaaGreatDoor.Gr
open Go.RowKit
open Lg (Strs tl)
set_option linter.unusedVariables false
set_option maxRecDepth 100000
theorem find1_any (n c s : ByteArray) (Ad As : Option Addr) (ld cd ls cs B : Nat) (W : World) (hB : B < W.heap.size) (hc : W.cell? ⟨B, 0, none⟩ = some (.string s)) :
    Calls Tryz.prog 225 #[.agg #[.string n, .string c, .slice Ad ld cd, .slice As ls cs], .pointer (some ⟨B, 0, none⟩)] W fun e w' => e = .returned (.bool (decide (n = s))) ∧ Below W.heap.size W w' := by
  have hne : B ≠ W.heap.size := by omega
  by_cases h : n = s
  · have F : Hid (decide (n = s) = true) := Lib.hid (decide_eq_true h)
    subst h
    go_enter Tryz.func225, Tryz.ntmps225
    go_wp2_with (fail)
    go_ret
    exact ⟨Lg.ret_bool F.out, (Below.refl _ _).alloc (Nat.le_refl _) _⟩
  · have F : Hid (decide (n = s) = false) := Lib.hid (decide_eq_false h)
    have g := Lg.s_ne h
    clear h
    go_enter Tryz.func225, Tryz.ntmps225
    go_wp2_with (fail)
    go_ret
    exact ⟨Lg.ret_bool F.out, (Below.refl _ _).alloc (Nat.le_refl _) _⟩
def zeroT : Tg := ⟨⟨#[]⟩, ⟨#[]⟩, [], []⟩
def FindSays (l : List Tg) (s : ByteArray) (w0 w : World) (e : Ending) (w' : World) : Prop :=
  (∃ (t : Tg) (Ad As : Option Addr) (cd cs : Nat), e = .returned (.tuple #[.agg #[.string t.n, .string t.c, .slice Ad t.ds.length cd, .slice As t.ss.length cs], .bool (isT l s)]) ∧ t = (find l s).getD zeroT ∧ Strs w0 Ad t.ds ∧ Strs w0 As t.ss) ∧ Below w.heap.size w w'
theorem none_isT {l : List Tg} {s : ByteArray} (h : find l s = none) : isT l s = false := by unfold isT; rw [h]; rfl
theorem some_isT {l : List Tg} {s : ByteArray} {t : Tg} (h : find l s = some t) : isT l s = true := by unfold isT; rw [h]; rfl
set_option maxHeartbeats 1000000 in
theorem find_any (A : Option Addr) (l : List Tg) (c : Nat) (s : ByteArray) (w0 w : World) (hr : Tgs w0 A l) (h0 : Below w0.heap.size w0 w) (hl : l.length ≤ 1000000000) :
    Calls Tryz.prog 190 #[.slice A l.length c, .string s] w (FindSays l s w0 w) := by
  obtain ⟨W2, eW⟩ : ∃ W2, W2 = (w.alloc (.cells #[.string s] 9)).alloc (.cells #[.string ⟨#[]⟩, .string ⟨#[]⟩, .slice none 0 0, .slice none 0 0] 154) := ⟨_, rfl⟩
  have hb2 : Below w.heap.size w W2 := by rw [eW]; exact ((Below.refl _ _).alloc (Nat.le_refl _) _).alloc (by simp) _
  have hsz : W2.heap.size = w.heap.size + 1 + 1 := by rw [eW]; simp
  have k0 : W2.heap[w.heap.size]? = some (.cells #[.string s] 9 (0, 0)) := by rw [eW]; exact Lg.heap_two
  have k1 : W2.heap[w.heap.size + 1]? = some (.cells #[.string ⟨#[]⟩, .string ⟨#[]⟩, .slice none 0 0, .slice none 0 0] 154 (0, 0)) := by rw [eW]; exact heap_alloc2_new w _ _
  have IX := Lib.hid (indexT_any 225 #[.pointer (some ⟨w.heap.size, 0, none⟩)] (enters_of Tryz.func225 (by kernel_rfl) rfl) (fun t => decide (t.n = s)) A l c W2 ((hr.below h0).below hb2) hl
    (fun k hk Ad cd As cs V hV _ _ => find1_any _ _ _ _ _ _ _ _ _ _ V (by have := hV.size; omega) ((hV.cell (p := ⟨w.heap.size, 0, none⟩) (by show w.heap.size < _; omega)).trans (Lg.cell_at k0 0))))
  have K1 : Hid (∀ W, Below W2.heap.size W2 W → W.heap[w.heap.size + 1]? = some (.cells #[.string ⟨#[]⟩, .string ⟨#[]⟩, .slice none 0 0, .slice none 0 0] 154 (0, 0))) := Lib.hid fun W hW => (hW.block _ (by omega)).trans k1
  have HS := Lib.hid hsz
  have h12 : w.heap.size + 1 < W2.heap.size := by omega
  clear k0 k1 hsz
  rcases idx_cases (fun t : Tg => decide (t.n = s)) l with ⟨e1, e2⟩ | ⟨k, hk, e1, e2, _, _⟩
  · rw [e1] at IX
    have F : Hid (find l s = none) := Lib.hid e2
    clear e1 e2 hr
    go_enter Tryz.func190, Tryz.ntmps190
    go_wp2_with (go_at_call 224; rw [← eW]; (with_reducible refine (IX.out).mono ?_); rintro e w1 ⟨rfl, hb⟩; have K2 := Lib.hid (K1.out _ hb); obtain ⟨c0, c1, c2, c3, f0, f1, f2, f3⟩ := Lg.four (K1.out _ hb); have hs1 := hb.size; clear eW)
    (try simp only [Exit.inBlock, Exit.then])
    refine bodyPost_ret_by (Lg.results_cell_row2 rfl _ _ (w.heap.size + 1) 154 _ (0, 0) _ rfl (Lg.set4 K2.out _ _ _ _) rfl rfl (by kernel_rfl)) rfl ?_
    refine ⟨⟨zeroT, none, none, 0, 0, by rw [none_isT F.out]; rfl, by rw [F.out]; rfl, Reads.none_, Reads.none_⟩, ?_⟩
    exact Lg.set4_below (hb2.trans (hb.mono hb2.size)) (by omega) _ _ _ _
  · rw [e1] at IX
    have F : Hid (find l s = some l[k]) := Lib.hid e2
    clear e1 e2
    have hkI : (k : Int) < (l.length : Int) := by omega
    obtain ⟨ad, rfl, had, hcs⟩ := hr (by omega)
    obtain ⟨Ad, cd, As, cs, d0, d1, d2, d3, hd, hs⟩ := hcs k hk
    have HD := Lib.hid hd
    have HT := Lib.hid hs
    have cat : ∀ (W : World), Below w0.heap.size w0 W → W.cell? (ad.add (k * 4)) = some (.string l[k].n) ∧ W.cell? ⟨(ad.add (k * 4)).block, (ad.add (k * 4)).off + 1, none⟩ = some (.string l[k].c) ∧ W.cell? ⟨(ad.add (k * 4)).block, (ad.add (k * 4)).off + 2, none⟩ = some (.slice Ad l[k].ds.length cd) ∧ W.cell? ⟨(ad.add (k * 4)).block, (ad.add (k * 4)).off + 3, none⟩ = some (.slice As l[k].ss.length cs) := fun W hW =>
      have hk : ∀ j, W.cell? ((ad.add (k * 4)).add j) = w0.cell? ((ad.add (k * 4)).add j) := fun j => hW.cell (by rw [block_of_add, block_of_add]; exact had)
      ⟨(hW.cell (by rw [block_of_add]; exact had)).trans d0, (hk 1).trans d1, (hk 2).trans d2, (hk 3).trans d3⟩
    have CAT := Lib.hid cat
    clear hcs d0 d1 d2 d3 hd hs hr cat
    generalize l[k] = t at *
    go_enter Tryz.func190, Tryz.ntmps190
    go_wp2_with (go_at_call 224; rw [← eW]; (with_reducible refine (IX.out).mono ?_); rintro e w1 ⟨rfl, hb⟩; have K2 := Lib.hid (K1.out _ hb); obtain ⟨c0, c1, c2, c3, f0, f1, f2, f3⟩ := Lg.four (K1.out _ hb); have hs1 := hb.size; clear eW; have hbw := hb2.trans (hb.mono hb2.size); obtain ⟨e0, e1, e2, e3⟩ := CAT.out _ (h0.trans (hbw.mono h0.size)))
    (try simp only [Exit.inBlock, Exit.then])
    refine bodyPost_ret_by (Lg.results_cell_row2 rfl _ _ (w.heap.size + 1) 154 _ (0, 0) _ rfl (Lg.set4 K2.out _ _ _ _) rfl rfl (by kernel_rfl)) rfl ?_
    have hbf := Lg.set4_below (g := w.heap.size + 1) hbw (by omega) (.string t.n) (.string t.c) (.slice Ad t.ds.length cd) (.slice As t.ss.length cs)
    exact ⟨⟨t, Ad, As, cd, cs, by rw [some_isT F.out]; rfl, by rw [F.out]; rfl, HD.out, HT.out⟩, hbf⟩
def FindB (l : List Tg) (s : ByteArray) (b : Bool) (w0 w : World) (e : Ending) (w' : World) : Prop :=
  (∃ (t : Tg) (Ad As : Option Addr) (cd cs : Nat), e = .returned (.tuple #[.agg #[.string t.n, .string t.c, .slice Ad t.ds.length cd, .slice As t.ss.length cs], .bool b]) ∧ t = (find l s).getD zeroT ∧ Strs w0 Ad t.ds ∧ Strs w0 As t.ss) ∧ Below w.heap.size w w'
theorem FindSays.b {l : List Tg} {s : ByteArray} {b : Bool} {w0 w : World} {e : Ending} {w' : World} (hb : isT l s = b) (h : FindSays l s w0 w e w') : FindB l s b w0 w e w' := by
  subst hb; exact h
theorem findB_any (A : Option Addr) (l : List Tg) (c : Nat) (s : ByteArray) (w0 w : World) (hr : Tgs w0 A l) (h0 : Below w0.heap.size w0 w) (hl : l.length ≤ 1000000000) {b : Bool} (hb : isT l s = b) :
    Calls Tryz.prog 190 #[.slice A l.length c, .string s] w (FindB l s b w0 w) := (find_any A l c s w0 w hr h0 hl).mono fun _ _ h => h.b hb
end Go.Proofs.YtmlaolmaopjhbaaGreatDoor.Gr
/- GrSorted, what a claim needs of it (prune.py). -/
namespace Go.Proofs.YtmlaolmaopjhbaaGreatDoor.Gr
open Go.RowKit
open Lg (Strs tl)
set_option linter.unusedVariables false
set_option maxRecDepth 100000
theorem s11_any (d : ByteArray) (B m n : Nat) (S : List ByteArray) (W : World) (hc : W.cell? ⟨B, 0, none⟩ = some (.map (some m))) (hS : Ss.SetAt W m n S) (hd : d.size ≤ maxLen) :
    Calls Tryz.prog 260 #[.string d, .pointer (some ⟨B, 0, none⟩)] W fun e w' => e = .returned (.bool (!has S d)) ∧ Below W.heap.size W w' := by
  have LK := hS.look hd
  clear hS
  generalize has S d = q at *
  go_enter Tryz.func260, Tryz.ntmps260
  go_wp2_with (fail)
  go_ret
  exact ⟨rfl, Below.refl _ _⟩
theorem any_not (S l : List ByteArray) : l.any (fun d => !has S d) = !(l.all fun d => has S d) := by
  rw [List.not_all_eq_any_not]
theorem ready_any (t : Tg) (Ad As : Option Addr) (cd cs B m n : Nat) (S : List ByteArray) (W : World) (hB : B < W.heap.size) (hc : W.cell? ⟨B, 0, none⟩ = some (.map (some m))) (hS : Ss.SetAt W m n S) (hf : Fits t) (hd : Strs W Ad t.ds) :
    Calls Tryz.prog 259 #[.agg #[.string t.n, .string t.c, .slice Ad t.ds.length cd, .slice As t.ss.length cs], .pointer (some ⟨B, 0, none⟩)] W fun e w' => e = .returned (.bool (ready S t)) ∧ Below W.heap.size W w' := by
  obtain ⟨W1, eW⟩ : ∃ W1, W1 = W.alloc (.cells #[.string t.n, .string t.c, .slice Ad t.ds.length cd, .slice As t.ss.length cs] 154) := ⟨_, rfl⟩
  have hb1 : Below W.heap.size W W1 := by rw [eW]; exact (Below.refl _ _).alloc (Nat.le_refl _) _
  have hblk : W1.heap[W.heap.size]? = some (.cells #[.string t.n, .string t.c, .slice Ad t.ds.length cd, .slice As t.ss.length cs] 154 (0, 0)) := by rw [eW]; exact heap_alloc_new W _
  obtain ⟨c0, _, c2, _, _, _, _, _⟩ := Lg.four hblk
  have hS1 := hS.later hb1
  have hc1 : W1.cell? ⟨B, 0, none⟩ = some (.map (some m)) := (hb1.cell (p := ⟨B, 0, none⟩) hB).trans hc
  have LK := hS1.look (s := t.n) (by have := hf.n; unfold maxLen; omega)
  have CF := Lib.hid (containsS_any 260 #[.pointer (some ⟨B, 0, none⟩)] (enters_of Tryz.func260 (by kernel_rfl) rfl) (fun d => !has S d) Ad t.ds cd W1 (hd.below hb1) (by have := hf.dl; omega)
    (fun s hs V hV => s11_any s B m n S V ((hV.cell (p := ⟨B, 0, none⟩) (Nat.lt_of_lt_of_le hB hb1.size)).trans hc1) (hS1.later hV) (by have := hf.d s hs; unfold maxLen; omega)))
  rw [any_not] at CF
  have RE : Hid (ready S t = (!has S t.n && t.ds.all fun d => has S d)) := Lib.hid rfl
  have hne : B ≠ W.heap.size := by omega
  clear hS hS1 hd hf c0 c2 hblk hc1 hb1
  subst eW
  generalize (t.ds.all fun d => has S d) = q at *
  cases h : has S t.n
  · rw [h] at LK RE
    clear h
    go_enter Tryz.func259, Tryz.ntmps259
    go_wp2_with (go_at_call 98; ((with_reducible refine (CF.out).mono ?_); rintro e w1 ⟨rfl, hb⟩))
    go_ret
    exact ⟨Lg.ret_bool (by rw [RE.out]; simp), ((Below.refl _ _).alloc (Nat.le_refl _) _).trans (hb.mono (by simp))⟩
  · rw [h] at LK RE
    clear h CF
    go_enter Tryz.func259, Tryz.ntmps259
    go_wp2_with (fail)
    go_ret
    exact ⟨Lg.ret_bool (by rw [RE.out]; simp), (Below.refl _ _).alloc (Nat.le_refl _) _⟩
def ListSays (m : List ByteArray) (w : World) (e : Ending) (w' : World) : Prop := (∃ A c, e = .returned (.slice A m.length c) ∧ m.length ≤ c ∧ Strs w' A m) ∧ Below w.heap.size w w'
theorem ready_congr {S S' : List ByteArray} (h : ∀ x, has S x = has S' x) : ready S = ready S' := by
  funext t
  unfold ready
  have : (fun d => has S d) = fun d => has S' d := funext h
  rw [h, this]
theorem own_ans {B : Nat} {v : Value} {k : Nat} {w0 w : World} {m : List ByteArray} (h : w.ownsRow B 9 1 v k (m.map Value.string)) (hk : m.length = k) (hb : Below w0.heap.size w0 w) : ListSays m w0 (.returned v) w := by
  subst hk
  obtain ⟨A, c, rfl, h1, h2⟩ := Lg.own_strs h
  exact ⟨⟨A, c, rfl, h1, h2⟩, hb⟩
def sliceLen : Value → Nat
  | .slice _ n _ => n
  | _ => 0
theorem own_len {w : World} {B : Nat} {e : TypeId} {size : Nat} {v : Value} {n : Nat} {xs : List Value} (h : w.ownsRow B e size v n xs) : sliceLen v = n := by
  rcases h.2 with ⟨rfl, h0⟩ | ⟨g, cap, cur, rfl, _⟩
  · exact h0.symm
  · rfl
structure So (w : World) (l : List Tg) (k : Nat) (S : List ByteArray) (v : Value) (wx : World) : Prop where
  same : ∀ x, has S x = has (stage l k) x
  len : (stage l k).length = k
  own : wx.ownsRow (w.heap.size + 2) 9 1 v k ((stage l k).map Value.string)
  set : Ss.SetAt wx w.heap.size k S
  cell : wx.heap[w.heap.size + 1]? = some (.cells #[.map (some w.heap.size)] 287 (0, 0))
  below : Below w.heap.size w wx
  size : w.heap.size + 2 ≤ wx.heap.size
theorem own_later {w w' : World} {B : Nat} {e : TypeId} {size : Nat} {v : Value} {n : Nat} {xs : List Value} (h : w.ownsRow B e size v n xs) (k : Below w.heap.size w w') : w'.ownsRow B e size v n xs := by
  refine ⟨h.1, ?_⟩
  rcases h.2 with h0 | ⟨g, cap, cur, hv, hg, hc, h1, h2, h3, h4⟩
  · exact .inl h0
  · exact .inr ⟨g, cap, cur, hv, hg, (k.block _ (Lg.lt_heap hc)).trans hc, h1, h2, h3, h4⟩
theorem So.later {w wx wy : World} {l : List Tg} {k : Nat} {S : List ByteArray} {v : Value} (h : So w l k S v wx) (hb : Below wx.heap.size wx wy) : So w l k S v wy :=
  ⟨h.same, h.len, own_later h.own hb, h.set.later hb, (hb.block _ (Lg.lt_heap h.cell)).trans h.cell, h.below.trans (hb.mono h.below.size), by have := hb.size; have := h.size; omega⟩
theorem So.next {w wr w2 : World} {l : List Tg} {k : Nat} {S : List ByteArray} {v v2 : Value} {o : Obj} {x : ByteArray} (h : So w l k S v wr) (hg : (wr.alloc o).grownBy w2 v.ownBlock) (hown : w2.ownsRow (w.heap.size + 2) 9 1 v2 (k + 1) ((stage l k).map Value.string ++ [.string x]))
    (hx : x.size ≤ maxLen) (hk : k < maxLen) (hs : stage l (k + 1) = stage l k ++ [x]) :
    w2.cell? ⟨w.heap.size + 1, 0, none⟩ = some (.map (some w.heap.size)) ∧ Below w.heap.size w w2 ∧ ∃ w3, (Instr.mapUpdate 287 (.map (some w.heap.size)) (.string x) (.bool true)).run Tryz.prog w2.drew = .ok () w3 ∧ So w l (k + 1) (x :: S) v2 w3 := by
  have hb2 : Below w.heap.size w w2 := (h.below.alloc h.below.size o).grown hg (by have := h.size; simp; omega) (fun j hj => by have := (h.own.lt j hj).1; omega)
  have hne : ∀ j, j < w.heap.size + 2 → some j ≠ v.ownBlock := fun j hj e => by have := (h.own.lt j e.symm).1; omega
  have hS2 : Ss.SetAt w2 w.heap.size k S := (h.set.alloc o).grown hg (hne _ (by omega))
  have hc2 : w2.heap[w.heap.size + 1]? = some (.cells #[.map (some w.heap.size)] 287 (0, 0)) :=
    (hg.block _ (by have := h.size; simp; omega) (hne _ (by omega))).trans ((Below.heap_alloc _ _ _ (by have := h.size; omega)).trans h.cell)
  obtain ⟨w3, hput, hS3, hg3⟩ := Ss.SetAt.put (w := w2.drew) hS2 hk hx
  refine ⟨Lg.cell_at hc2 0, hb2, w3, hput, ?_, by rw [hs, List.length_append, h.len]; rfl, ?_, hS3, ?_, ?_, ?_⟩
  · intro y
    rw [Ss.has_cons, hs, h.same y]
    simp only [has, List.any_append, List.any_cons, List.any_nil, Bool.or_false]
    rw [Bool.or_comm]
  · rw [hs, List.map_append]
    refine ⟨hown.1, ?_⟩
    rcases hown.2 with h0 | ⟨g, cap, cur, hv, hgB, hc, h1, h2, h3, h4⟩
    · exact .inl h0
    · exact .inr ⟨g, cap, cur, hv, hgB, (hg3.block _ (Lg.lt_heap hc) (fun e => by injection e with e; omega)).trans hc, h1, h2, h3, h4⟩
  · exact (hg3.block _ (Lg.lt_heap hc2) (fun e => by injection e with e; omega)).trans hc2
  · exact (hb2.drew).grown hg3 hb2.size (fun j e => by injection e with e; omega)
  · have h1 := hg3.size
    have h2 := Lg.lt_heap hc2
    have h3 : w2.drew.heap.size = w2.heap.size := rfl
    omega
set_option maxHeartbeats 2000000 in
theorem sorted_any (A : Option Addr) (l : List Tg) (c : Nat) (w : World) (hr : Tgs w A l) (hl : l.length ≤ 1000) (hf : ∀ t ∈ l, Fits t) :
    Calls Tryz.prog 219 #[.slice A l.length c] w (ListSays (order l) w) := by
  obtain ⟨i0, hi, hz0, hz1, hz2⟩ := Lg.info_parts Lg.infoS
  have hmm := @run_makeMap Tryz.prog
  have IX : Hid (∀ W, Below w.heap.size w W → ∀ n S, Ss.SetAt W w.heap.size n S → W.heap[w.heap.size + 1]? = some (.cells #[.map (some w.heap.size)] 287 (0, 0)) → Calls Tryz.prog 224 #[.slice A l.length c, .func (.func 259) #[] #[.pointer (some ⟨w.heap.size + 1, 0, none⟩)]] W fun e w' => e = .returned (.int .i64 (idx (ready S) l)) ∧ Below W.heap.size W w') :=
    Lib.hid fun W hW n S hS hc => indexT_any 259 _ (enters_of Tryz.func259 (by kernel_rfl) rfl) (ready S) A l c W (hr.below hW) (by omega)
      (fun k hk Ad cd As cs V hV hd hs => by
        have hlt := Lg.lt_heap hc
        refine (ready_any l[k] Ad As cd cs (w.heap.size + 1) w.heap.size n S V (by have := hV.size; omega) ((hV.cell (p := ⟨w.heap.size + 1, 0, none⟩) hlt).trans (Lg.cell_at hc 0)) (hS.later hV) (hf _ (List.getElem_mem hk)) hd))
  have NM : Hid (∀ W, Below w.heap.size w W → 0 < l.length → ∃ ad, A = some ad ∧ ∀ k (hk : k < l.length), W.cell? (ad.add (k * 4)) = some (.string l[k].n)) := Lib.hid fun W hW hl => by
    obtain ⟨ad, e, had, hcs⟩ := hr.below hW hl
    refine ⟨ad, e, fun k hk => ?_⟩
    obtain ⟨_, _, _, _, h, _⟩ := hcs k hk
    exact h
  have SZ : Hid (∀ k (hk : k < l.length), l[k].n.size ≤ maxLen) := Lib.hid fun k hk => by have := (hf _ (List.getElem_mem hk)).n; unfold maxLen; omega
  have OS : Hid (∀ k, k ≤ l.length → l.find? (ready (stage l k)) = none → order l = stage l k) := Lib.hid fun k hk h => order_of_stop hk h
  have SN : Hid (∀ k t, l.find? (ready (stage l k)) = some t → stage l (k + 1) = stage l k ++ [t.n]) := Lib.hid fun k t h => stage_next h
  have SL : Hid (∀ k, (stage l k).length ≤ l.length) := Lib.hid fun k => stage_le l k
  obtain ⟨W0, eW⟩ : ∃ W0, W0 = (w.alloc (.map #[] 0)).alloc (.cells #[.map (some w.heap.size)] 287) := ⟨_, rfl⟩
  have hb0 : Below w.heap.size w W0 := by rw [eW]; exact ((Below.refl _ _).alloc (Nat.le_refl _) _).alloc (by simp) _
  have k1 : W0.heap[w.heap.size + 1]? = some (.cells #[.map (some w.heap.size)] 287 (0, 0)) := by rw [eW]; exact heap_alloc2_new w _ _
  have hS0 : Ss.SetAt W0 w.heap.size 0 [] := by rw [eW]; exact (Ss.SetAt.made w).alloc _
  have S0 : Hid (So w l 0 [] (.slice none 0 0) W0) := Lib.hid ⟨fun _ => rfl, rfl, World.ownsRow_nil _ _ _ _, hS0, k1, hb0, by have := Lg.lt_heap k1; omega⟩
  have C0 := Lib.hid (IX.out W0 hb0 0 [] hS0 k1)
  clear hr hf hS0 k1
  go_enter Tryz.func219, Tryz.ntmps219
  go_wp2_with (go_at_call 224; rw [← eW]; (with_reducible refine (C0.out).mono ?_); rintro e w1 ⟨rfl, hb1⟩; clear eW)
  go_loopw [3, 6] (fun v i wx => ∃ (k : Nat) (S : List ByteArray), i = .int .i64 (idx (ready S) l) ∧ So w l k S v wx) (fun v _ _ => l.length - sliceLen v)
  case atStart => exact ⟨0, [], rfl, S0.out.later hb1⟩
  case round =>
    obtain ⟨k, S, rfl, hs⟩ := hrel
    have HS := Lib.hid hs
    have hre := ready_congr hs.same
    have hkl : k ≤ l.length := by have := SL.out k; rw [hs.len] at this; exact this
    clear hs
    rcases idx_cases (ready S) l with ⟨e1, e2⟩ | ⟨j, hj, e1, e2, _, _⟩
    · rw [hre] at e2
      have F := Lib.hid (OS.out k hkl e2)
      rw [e1]
      clear e1 e2 hre
      go_wp2_with (fail)
      go_ret
      rw [F.out]
      exact own_ans HS.out.own HS.out.len HS.out.below
    · rw [hre] at e2
      have SX := Lib.hid (SN.out k _ e2)
      rw [e1]
      have hk1 : k + 1 ≤ l.length := by have := SL.out (k + 1); rw [SX.out, List.length_append, HS.out.len] at this; simpa using this
      clear e1 e2 hre
      have hjI : (j : Int) < (l.length : Int) := by omega
      obtain ⟨ad, rfl, hcn⟩ := NM.out _ HS.out.below (by omega)
      have hc0 := hcn j hj
      have NJ : Hid (∀ W, Below w.heap.size w W → W.cell? (ad.add (j * 4)) = some (.string l[j].n)) := Lib.hid fun W hW => by
        obtain ⟨ad', e, h⟩ := NM.out W hW (by omega)
        injection e with e; subst e
        exact h j hj
      have hxz := SZ.out j hj
      clear hcn
      generalize l[j] = t at *
      have hkm : k < maxLen := by unfold maxLen; omega
      have hown := HS.out.own
      have hsz := HS.out.size
      go_wp2_with (at_builtin; refine wpList_append_any _ rfl (.tmp 17) (.tmp 23) _ rfl (w.heap.size + 2) 9 i0 _ 1 16 Tryz.underlying65 hi hz0 hz1 hz2 rfl (by omega) _ k _ rfl (hown.alloc _) _ (some ⟨wr.heap.size, 0, none⟩) 1 1 [.string t.n] rfl (Lg.reads_one (heap_alloc_new wr _)) (Lg.mem1 rfl) (by simp only [maxLen]; omega) (by omega) (by simp; omega) ?_; intro v2 w2 hown2 hg2 hat2; obtain ⟨cm, hb2, w3, hput, hs3⟩ := HS.out.next hg2 hown2 hxz hkm SX.out; have cn := NJ.out _ hb2; have HS3 := Lib.hid hs3; clear hs3 hown2 hg2 hat2 hown)
      go_region
      have C3 := Lib.hid (IX.out w3 HS3.out.below _ _ HS3.out.set HS3.out.cell)
      go_wp2_with (go_at_call 224; (with_reducible refine (C3.out).mono ?_); rintro e w4 ⟨rfl, hb4⟩)
      go_roundw
      case rel => exact ⟨k + 1, t.n :: S, rfl, HS3.out.later hb4⟩
      case measure =>
        have m1 := own_len HS.out.own
        have m2 := own_len HS3.out.own
        omega
end Go.Proofs.YtmlaolmaopjhbaaGreatDoor.Gr
namespace Go.Proofs.YtmlaolmaopjhbaaGreatDoor.Gr
open Go.RowKit
open Lg (Strs tl)
set_option linter.unusedVariables false
set_option maxRecDepth 100000
structure Or (w : World) (l : List Tg) (k : Nat) (v : Value) (wx : World) : Prop where
  len : (stage l k).length = k
  own : wx.ownsRow w.heap.size 9 1 v (stage l k).length ((stage l k).map Value.string)
  below : Below w.heap.size w wx
theorem Or.next {w wr w2 : World} {l : List Tg} {k : Nat} {v v2 : Value} {o : Obj} {x : ByteArray} (h : Or w l k v wr) (hg : (wr.alloc o).grownBy w2 v.ownBlock) (hown : w2.ownsRow w.heap.size 9 1 v2 ((stage l k).length + 1) ((stage l k).map Value.string ++ [.string x]))
    (hs : stage l (k + 1) = stage l k ++ [x]) : Or w l (k + 1) v2 w2 := by
  refine ⟨by rw [hs, List.length_append, h.len]; rfl, ?_, (h.below.alloc h.below.size o).grown hg (by have := h.below.size; simp; omega) (fun j hj => (h.own.lt j hj).1)⟩
  rw [hs, List.map_append, List.length_append]
  exact hown
end Go.Proofs.YtmlaolmaopjhbaaGreatDoor.Gr
