/- Joined by mkmerged.py: MnIn. -/
import Derived.Test.YtdidnlkilleljaaGreatDoorMf29
import Derived.Test.YtdidnlkilleljaaGreatDoorMf24
import Derived.Test.YtdidnlkilleljaaGreatDoorMf27
/- MnIn, what a claim needs of it (prune.py). -/
namespace Go.Proofs.YtdidnlkilleljaaGreatDoor.Mn
open Go.RowKit
open Lg (BelowX Lies)
open Fs (fc fc_len fc_cell Fls Env B)
open Bx (withF WithSays with_any with_right RightF lies_own)
set_option linter.unusedVariables false
set_option maxRecDepth 100000
theorem set4 {w : World} {g : Nat} {a b c d : Value} {T : TypeId} (h : w.heap[g]? = some (.cells #[a, b, c, d] T (0, 0))) (a' b' c' d' : Value) :
    ((((w.setCell ⟨g, 0, none⟩ a').setCell ⟨g, 1, none⟩ b').setCell ⟨g, 2, none⟩ c').setCell ⟨g, 3, none⟩ d').heap[g]? = some (.cells #[a', b', c', d'] T (0, 0)) :=
  (heap_set (heap_set (heap_set (heap_set h)))).trans rfl
theorem set4_x {B x : Nat} {w0 w : World} (h : BelowX B x w0 w) {g : Nat} (hg : B ≤ g) (a' b' c' d' : Value) :
    BelowX B x w0 ((((w.setCell ⟨g, 0, none⟩ a').setCell ⟨g, 1, none⟩ b').setCell ⟨g, 2, none⟩ c').setCell ⟨g, 3, none⟩ d') :=
  (((h.setCell (p := ⟨g, 0, none⟩) hg _).setCell (p := ⟨g, 1, none⟩) hg _).setCell (p := ⟨g, 2, none⟩) hg _).setCell (p := ⟨g, 3, none⟩) hg _
theorem set4_ne {w : World} {g k : Nat} (h : k ≠ g) (a' b' c' d' : Value) : ((((w.setCell ⟨g, 0, none⟩ a').setCell ⟨g, 1, none⟩ b').setCell ⟨g, 2, none⟩ c').setCell ⟨g, 3, none⟩ d').heap[k]? = w.heap[k]? := by
  rw [heap_set_ne h.symm, heap_set_ne h.symm, heap_set_ne h.symm, heap_set_ne h.symm]
def zeroR : Array Value := #[.int .i64 0, .string ⟨#[]⟩, .string ⟨#[]⟩, .slice none 0 0]
theorem four {W : World} {g : Nat} {a b c d : Value} {T : TypeId} (q : W.heap[g]? = some (.cells #[a, b, c, d] T (0, 0))) :
    (∃ u, W.cell? ⟨g, 0, none⟩ = some u) ∧ (∃ u, W.cell? ⟨g, 1, none⟩ = some u) ∧ (∃ u, W.cell? ⟨g, 2, none⟩ = some u) ∧ (∃ u, W.cell? ⟨g, 3, none⟩ = some u) ∧
    W.frozen? ⟨g, 0, none⟩ = false ∧ W.frozen? ⟨g, 1, none⟩ = false ∧ W.frozen? ⟨g, 2, none⟩ = false ∧ W.frozen? ⟨g, 3, none⟩ = false :=
  ⟨⟨_, (cell_heap q 0).trans rfl⟩, ⟨_, (cell_heap q 1).trans rfl⟩, ⟨_, (cell_heap q 2).trans rfl⟩, ⟨_, (cell_heap q 3).trans rfl⟩, frozen_heap q 0, frozen_heap q 1, frozen_heap q 2, frozen_heap q 3⟩
def rsv (r : Rs) (A : Option Addr) (c : Nat) : Value := .agg #[.int .i64 r.err, .string r.at_, .string r.text, .slice A r.files.length c]
structure InAt (W : World) (ok : Nat → Prop) (b : Nat) (t : Tg) (dv sv : Value) (A : Option Addr) (c : Nat) (fs : List Fl) : Prop where
  blk : W.heap[b]? = some (.cells #[.string t.n, .string t.c, dv, sv, .slice A fs.length c] 81 (0, 0))
  fls : Lies W ok 2 A fs.length (fc fs)
  cap : fs.length ≤ c
theorem InAt.keep {W W' : World} {ok ok' : Nat → Prop} {b : Nat} {t : Tg} {dv sv : Value} {A : Option Addr} {c : Nat} {fs : List Fl} (h : InAt W ok b t dv sv A c fs) (hb : W'.heap[b]? = W.heap[b]?) (hk : ∀ k, ok k → k < W.heap.size → ok' k ∧ W'.heap[k]? = W.heap[k]?) : InAt W' ok' b t dv sv A c fs :=
  ⟨hb.trans h.blk, h.fls.mono (by decide) hk, h.cap⟩
theorem InAt.below {W W' : World} {ok : Nat → Prop} {b : Nat} {t : Tg} {dv sv : Value} {A : Option Addr} {c : Nat} {fs : List Fl} (h : InAt W ok b t dv sv A c fs) (hb : Below W.heap.size W W') : InAt W' ok b t dv sv A c fs :=
  h.keep (hb.block b (lt_heap h.blk)) fun k hk hs => ⟨hk, hb.block k hs⟩
theorem InAt.flsr {W : World} {ok : Nat → Prop} {b : Nat} {t : Tg} {dv sv : Value} {A : Option Addr} {c : Nat} {fs : List Fl} (h : InAt W ok b t dv sv A c fs) : Fls W A fs := h.fls.reads (by decide)
theorem InAt.put {W : World} {ok ok2 : Nat → Prop} {b : Nat} {t : Tg} {dv sv : Value} {A A2 : Option Addr} {c c2 n2 : Nat} {fs fs2 : List Fl} (h : InAt W ok b t dv sv A c fs) (hn : n2 = fs2.length) {B0 : Nat} (ho : W.ownsRow B0 49 2 (.slice A2 n2 c2) n2 (fc fs2)) (hB : b < B0) (hok : ∀ g, B0 ≤ g → ok2 g) (hc : n2 ≤ c2) :
    InAt (W.setCell ⟨b, 4, none⟩ (.slice A2 n2 c2)) ok2 b t dv sv A2 c2 fs2 := by
  subst hn
  refine ⟨(heap_set h.blk).trans rfl, ?_, hc⟩
  have h2 := lies_own (ok := fun g => ok2 g ∧ g ≠ b) ho (fc_len fs2) fun g hg => ⟨hok g hg, by omega⟩
  exact h2.mono (by decide) fun k hk hs => ⟨hk.1, heap_set_ne hk.2.symm⟩
def SrcSays (W : World) (b : Nat) (t : Tg) (dv sv : Value) (x : Rs ⊕ List Fl) (e : Ending) (w' : World) : Prop := BelowX W.heap.size b W w' ∧ match x with
  | .inl r => e = .returned (rsv r none 0) ∧ r.files = []
  | .inr fs => e = .returned (rsv (done []) none 0) ∧ ∃ A c, InAt w' (fun g => g ≠ b) b t dv sv A c fs
theorem src_none {get : B → Option ByteArray} {nm : ByteArray} {ps : List ByteArray} {k : Nat} (hk : k < ps.length) {fs : List Fl} (h : get (tl ps[k]) = none) : srcF get nm (ps.drop k) fs = .inl (failed 32 nm ps[k]) := by
  rw [List.drop_eq_getElem_cons hk, srcF, h]
theorem src_bad {get : B → Option ByteArray} {nm : ByteArray} {ps : List ByteArray} {k : Nat} (hk : k < ps.length) {fs : List Fl} {d : ByteArray} (h : get (tl ps[k]) = some d) (h2 : (withF fs (tl ps[k]) (tl d)).2 ≠ 0) : srcF get nm (ps.drop k) fs = .inl (failed (withF fs (tl ps[k]) (tl d)).2 nm ps[k]) := by
  rw [List.drop_eq_getElem_cons hk, srcF, h]
  exact if_pos h2
theorem src_next {get : B → Option ByteArray} {nm : ByteArray} {ps : List ByteArray} {k : Nat} (hk : k < ps.length) {fs : List Fl} {d : ByteArray} (h : get (tl ps[k]) = some d) (h2 : (withF fs (tl ps[k]) (tl d)).2 = 0) : srcF get nm (ps.drop k) fs = srcF get nm (ps.drop (k + 1)) (withF fs (tl ps[k]) (tl d)).1 := by
  rw [List.drop_eq_getElem_cons hk, srcF, h]
  exact if_neg (by simp [h2])
set_option maxHeartbeats 4000000 in
theorem sources_any (W : World) (b : Nat) (t : Tg) (dv : Value) (As : Option Addr) (cs : Nat) (A : Option Addr) (c : Nat) (fs : List Fl) (F : Option Addr) (snap : List Fl) (d : Nat)
    (h : InAt W (fun g => g ≠ b) b t dv (.slice As t.ss.length cs) A c fs) (hE : ∀ V, BelowX W.heap.size b W V → Env V) (hR : RightF fs) (hs : Lies W (fun g => g ≠ b) 1 As t.ss.length (t.ss.map Value.string)) (hf : Lies W (fun g => g ≠ b) 2 F snap.length (fc snap)) (hl : snap.length ≤ 1000000) (hss : t.ss.length ≤ 1000000) :
    Calls Tryz.prog 42 #[.pointer (some ⟨b, 0, none⟩), .slice F snap.length d] W (SrcSays W b t dv (.slice As t.ss.length cs) (srcF (Fs.get snap) t.n t.ss fs)) := by
  obtain ⟨W1, eW⟩ : ∃ W1, W1 = W.alloc (.cells zeroR 37) := ⟨_, rfl⟩
  have hb1 : Below W.heap.size W W1 := by rw [eW]; exact (Below.refl _ _).alloc (Nat.le_refl _) _
  have hz1 : W1.heap.size = W.heap.size + 1 := by rw [eW]; simp
  have q1 : W1.heap[W.heap.size]? = some (.cells zeroR 37 (0, 0)) := by rw [eW]; exact heap_alloc_new W _
  have hbW := lt_heap h.blk
  have HX := Lib.hid (fun V (hV : BelowX W1.heap.size b W1 V) => ((BelowX.of hb1).trans (hV.mono (by omega)) : BelowX W.heap.size b W V))
  have EV := Lib.hid (fun V (hV : BelowX W1.heap.size b W1 V) => hE V (HX.out V hV))
  have Q1 : Hid (∀ V, BelowX W1.heap.size b W1 V → V.heap[W.heap.size]? = some (.cells zeroR 37 (0, 0))) := Lib.hid fun V hV => (hV.block _ (by omega) (by omega)).trans q1
  have SN : Hid (∀ V, BelowX W1.heap.size b W1 V → Fls V F snap) := Lib.hid fun V hV => (hf.mono (ok' := fun g => g ≠ b) (by decide) fun k hk hs => ⟨hk, (HX.out V hV).block k hs hk⟩).reads (by decide)
  have SS : Hid (∀ V, BelowX W1.heap.size b W1 V → Reads V V.heap.size 1 As t.ss.length (t.ss.map Value.string)) := Lib.hid fun V hV => (hs.mono (ok' := fun g => g ≠ b) (by decide) fun k hk hs => ⟨hk, (HX.out V hV).block k hs hk⟩).reads (by decide)
  have HI : Hid (InAt W1 (fun g => g ≠ b ∧ g ≠ W.heap.size) b t dv (.slice As t.ss.length cs) A c fs) := Lib.hid (h.keep (hb1.block b hbW) fun k hk hs => ⟨⟨hk, by omega⟩, hb1.block k hs⟩)
  have HR := Lib.hid hR
  have c3 : W1.cell? ⟨b, 3, none⟩ = some (.slice As t.ss.length cs) := (cell_heap HI.out.blk 3).trans rfl
  clear h hE hR hs hf q1
  generalize hQ : SrcSays W b t dv (.slice As t.ss.length cs) (srcF (Fs.get snap) t.n t.ss fs) = Q
  have BAD : Hid (∀ e tx V, srcF (Fs.get snap) t.n t.ss fs = .inl (failed e t.n tx) → BelowX W1.heap.size b W1 V → Q (.returned (.agg #[.int .i64 e, .string t.n, .string tx, .slice none 0 0])) ((((V.setCell ⟨W.heap.size, 0, none⟩ (.int .i64 e)).setCell ⟨W.heap.size, 1, none⟩ (.string t.n)).setCell ⟨W.heap.size, 2, none⟩ (.string tx)).setCell ⟨W.heap.size, 3, none⟩ (.slice none 0 0))) := Lib.hid fun e tx V h1 h2 => by
    rw [← hQ]
    refine ⟨set4_x (HX.out V h2) (Nat.le_refl _) _ _ _ _, ?_⟩
    rw [h1]
    exact ⟨rfl, rfl⟩
  have GOOD : Hid (∀ fs2 A2 c2 V, srcF (Fs.get snap) t.n t.ss fs = .inr fs2 → BelowX W1.heap.size b W1 V → InAt V (fun g => g ≠ b ∧ g ≠ W.heap.size) b t dv (.slice As t.ss.length cs) A2 c2 fs2 → Q (.returned (.agg #[.int .i64 0, .string ⟨#[]⟩, .string ⟨#[]⟩, .slice none 0 0])) ((((V.setCell ⟨W.heap.size, 0, none⟩ (.int .i64 0)).setCell ⟨W.heap.size, 1, none⟩ (.string ⟨#[]⟩)).setCell ⟨W.heap.size, 2, none⟩ (.string ⟨#[]⟩)).setCell ⟨W.heap.size, 3, none⟩ (.slice none 0 0))) := Lib.hid fun fs2 A2 c2 V h1 h2 h3 => by
    rw [← hQ]
    refine ⟨set4_x (HX.out V h2) (Nat.le_refl _) _ _ _ _, ?_⟩
    rw [h1]
    refine ⟨rfl, A2, c2, (set4_ne (by omega) _ _ _ _).trans h3.blk, h3.fls.mono (by decide) fun k hk hs => ⟨hk.1, set4_ne hk.2 _ _ _ _⟩, h3.cap⟩
  clear hQ
  go_enter Tryz.func42, Tryz.ntmps42
  rw [zeroR] at eW
  rw [eW] at c3
  go_wp2_with (fail)
  rw [← eW]
  clear eW c3
  go_loopw [17] (fun i V => ∃ (k : Nat) (A2 : Option Addr) (c2 : Nat) (fs2 : List Fl), i = .int .i64 k ∧ k ≤ t.ss.length ∧ RightF fs2 ∧ srcF (Fs.get snap) t.n t.ss fs = srcF (Fs.get snap) t.n (t.ss.drop k) fs2 ∧ InAt V (fun g => g ≠ b ∧ g ≠ W.heap.size) b t dv (.slice As t.ss.length cs) A2 c2 fs2 ∧ BelowX W1.heap.size b W1 V) (fun i _ => t.ss.length - (intOf i).toNat)
  case atStart => exact ⟨0, A, c, fs, rfl, by omega, HR.out, rfl, HI.out, BelowX.refl _ _ _⟩
  case round =>
    obtain ⟨k, A2, c2, fs2, rfl, hk, hr2, hsr, hin, hbx⟩ := hrel
    have R2 := Lib.hid hr2
    have SR := Lib.hid hsr
    have IN := Lib.hid hin
    clear hr2 hsr hin HI HR
    have hbs := hbx.size
    by_cases hlt : k < t.ss.length
    · have hkI : (k : Int) < (t.ss.length : Int) := by omega
      obtain ⟨ad, u, rfl, had, hue, c1⟩ := (SS.out _ hbx).at_ hlt
      have hue2 : u = .string t.ss[k] := by
        rw [List.getElem?_map, List.getElem?_eq_getElem hlt] at hue
        exact (Option.some.inj hue).symm
      subst hue2
      clear hue
      have S0 := Lib.hid (fun h => SR.out.trans (src_none (get := Fs.get snap) (nm := t.n) (fs := fs2) hlt h))
      have S1 := Lib.hid (fun d h h2 => SR.out.trans (src_bad (get := Fs.get snap) (nm := t.n) (fs := fs2) (d := d) hlt h h2))
      have S2 := Lib.hid (fun d h h2 => SR.out.trans (src_next (get := Fs.get snap) (nm := t.n) (fs := fs2) (d := d) hlt h h2))
      have GE := Lib.hid (Fs.get_any F snap d t.ss[k] wr (SN.out _ hbx) (by omega))
      unfold Fs.GetSays at GE
      generalize t.ss[k] = p at *
      have CI : Hid (∀ V, Below wr.heap.size wr V → InAt V (fun g => g ≠ b ∧ g ≠ W.heap.size) b t dv (.slice (some ad) t.ss.length cs) A2 c2 fs2) := Lib.hid fun V hV => IN.out.below hV
      have BX : Hid (∀ V, Below wr.heap.size wr V → BelowX W1.heap.size b W1 V) := Lib.hid fun V hV => hbx.trans (.of (hV.mono hbs))
      cases hg : Fs.get snap (tl p) with
      | none =>
        rw [hg] at GE
        have F0 := Lib.hid (S0.out hg)
        clear hg S0 S1 S2
        go_wp2_with (first
          | (go_at_call 79; (with_reducible refine (GE.out).mono ?_); rintro e w2 ⟨rfl, b2⟩; have d0 := (cell_heap (CI.out _ b2).blk 0).trans rfl)
          | (go_at_call 45; (with_reducible refine (failed_any _ _ _ _).mono ?_); rintro e w3 ⟨rfl, b3⟩; have h3 := b2.trans (b3.mono b2.size); have X3 := BX.out _ h3; obtain ⟨⟨u0, x0⟩, ⟨u1, x1⟩, ⟨u2, x2⟩, ⟨u3, x3⟩, y0, y1, y2, y3⟩ := four (Q1.out _ X3)))
        refine bodyPost_ret (results_cell rfl _ _ _ ⟨W.heap.size, 0, none⟩ _ _ rfl (load_res (set4 (Q1.out _ X3) _ _ _ _) rfl)) rfl ?_
        exact BAD.out _ _ _ F0.out X3
      | some dd =>
        rw [hg] at GE
        have F1 := Lib.hid (S1.out dd hg)
        have F2 := Lib.hid (S2.out dd hg)
        clear hg S0 S1 S2
        have WA : Hid (∀ V, Below wr.heap.size wr V → Calls Tryz.prog 80 #[.slice A2 fs2.length c2, .agg #[.string p, .string dd]] V (WithSays fs2 ⟨p, dd⟩ V)) := Lib.hid fun V hV => with_any A2 fs2 c2 ⟨p, dd⟩ V (EV.out _ (BX.out _ hV)) (CI.out _ hV).flsr (right_small R2.out).1 (right_small R2.out).2
        have RW := Lib.hid (fun h => with_right (p := tl p) (d := tl dd) R2.out h)
        unfold WithSays at WA
        simp only at WA
        generalize withF fs2 (tl p) (tl dd) = r at *
        obtain ⟨nl, ne⟩ := r
        simp only at WA RW F1 F2
        by_cases h0 : ne = 0
        · subst h0
          have U2 := Lib.hid (F2.out rfl)
          have RW2 := Lib.hid (RW.out rfl)
          clear F1 F2 RW
          go_wp2_with (first
            | (go_at_call 79; (with_reducible refine (GE.out).mono ?_); rintro e w2 ⟨rfl, b2⟩; have d4 := (cell_heap (CI.out _ b2).blk 4).trans rfl)
            | (go_at_call 80; (with_reducible refine (WA.out _ b2).mono ?_); rintro e w3 ⟨v3, rfl, ho3, b3⟩; obtain ⟨A3, c3, rfl, hc3⟩ := own_len ho3; have h3 := b2.trans (b3.mono b2.size); have X3 := BX.out _ h3; have I3 := CI.out _ h3; have x4 := (cell_heap I3.blk 4).trans rfl; have y4 := frozen_heap I3.blk 4))
          have hw2 := b2.size
          go_roundw
          case rel => exact ⟨k + 1, A3, c3, nl, by go_num, by omega, RW2.out, U2.out, I3.put rfl ho3 (by omega) (fun g hg => by omega) hc3, X3.setX rfl _⟩
          case measure => simp [intOf]; omega
        · have U2 := Lib.hid (F1.out h0)
          have g0 : (ne != 0) = true := by simpa using h0
          clear F1 F2 RW
          go_wp2_with (first
            | (go_at_call 79; (with_reducible refine (GE.out).mono ?_); rintro e w2 ⟨rfl, b2⟩; have d4 := (cell_heap (CI.out _ b2).blk 4).trans rfl)
            | (go_at_call 80; (with_reducible refine (WA.out _ b2).mono ?_); rintro e w3 ⟨v3, rfl, ho3, b3⟩; obtain ⟨A3, c3, rfl, hc3⟩ := own_len ho3; have h3 := b2.trans (b3.mono b2.size); have d0 := (cell_heap (CI.out _ h3).blk 0).trans rfl)
            | (go_at_call 45; (with_reducible refine (failed_any _ _ _ _).mono ?_); rintro e w4 ⟨rfl, b4⟩; have h4 := h3.trans (b4.mono h3.size); have X4 := BX.out _ h4; obtain ⟨⟨u0, x0⟩, ⟨u1, x1⟩, ⟨u2, x2⟩, ⟨u3, x3⟩, y0, y1, y2, y3⟩ := four (Q1.out _ X4)))
          refine bodyPost_ret (results_cell rfl _ _ _ ⟨W.heap.size, 0, none⟩ _ _ rfl (load_res (set4 (Q1.out _ X4) _ _ _ _) rfl)) rfl ?_
          exact BAD.out _ _ _ U2.out X4
    · obtain rfl : k = t.ss.length := by omega
      have U2 := SR.out
      rw [List.drop_length, srcF] at U2
      have U3 := Lib.hid U2
      clear U2
      obtain ⟨⟨u0, x0⟩, ⟨u1, x1⟩, ⟨u2, x2⟩, ⟨u3, x3⟩, y0, y1, y2, y3⟩ := four (Q1.out _ hbx)
      go_wp2_with (fail)
      refine bodyPost_ret (results_cell rfl _ _ _ ⟨W.heap.size, 0, none⟩ _ _ rfl (load_res (set4 (Q1.out _ hbx) _ _ _ _) rfl)) rfl ?_
      exact GOOD.out _ _ _ _ U3.out hbx IN.out
def AddSays (W : World) (b : Nat) (t : Tg) (dv sv : Value) (r : Rs) (F : Option Addr) (d : Nat) (x : Rs ⊕ List Fl) (e : Ending) (w' : World) : Prop := BelowX W.heap.size b W w' ∧ match x with
  | .inl r' => (e = .returned (rsv r' none 0) ∧ r'.files = []) ∨ (r' = r ∧ e = .returned (rsv r F d))
  | .inr fs => e = .returned (rsv (done []) none 0) ∧ ∃ A c, InAt w' (fun g => g ≠ b ∧ W.heap.size ≤ g) b t dv sv A c fs
set_option maxHeartbeats 4000000 in
theorem add_any (W : World) (b : Nat) (t : Tg) (dv sv : Value) (A : Option Addr) (c : Nat) (fs : List Fl) (word : ByteArray) (nm : ByteArray) (r : Rs) (F : Option Addr) (d : Nat)
    (h : InAt W (fun g => g ≠ b) b t dv sv A c fs) (hE : ∀ V, BelowX W.heap.size b W V → Env V) (hR : RightF fs) (hf : Lies W (fun g => g ≠ b) 2 F r.files.length (fc r.files)) (hl : r.files.length ≤ 1000) (hfz : ∀ f ∈ r.files, f.p.size ≤ 1000000) (hws : word.size ≤ 100000) (hns : nm.size ≤ 100000) :
    Calls Tryz.prog 43 #[.pointer (some ⟨b, 0, none⟩), .string word, .string nm, .agg #[.int .i64 r.err, .string r.at_, .string r.text, .slice F r.files.length d]] W (AddSays W b t dv sv r F d (addF t.n fs (tl word) nm r)) := by
  show Calls Tryz.prog 43 #[.pointer (some ⟨b, 0, none⟩), .string word, .string nm, .agg #[.int .i64 r.err, .string r.at_, .string r.text, .slice F r.files.length d]] W (AddSays W b t dv sv r F d (addF t.n fs (tl word) nm r))
  obtain ⟨W1, eW⟩ : ∃ W1, W1 = (W.alloc (.cells #[.int .i64 r.err, .string r.at_, .string r.text, .slice F r.files.length d] 37)).alloc (.cells #[.int .i64 0, .string ⟨#[]⟩, .string ⟨#[]⟩, .slice none 0 0] 37) := ⟨_, rfl⟩
  have hb1 : Below W.heap.size W W1 := by rw [eW]; exact ((Below.refl _ _).alloc (Nat.le_refl _) _).alloc (by simp) _
  have hz1 : W1.heap.size = W.heap.size + 2 := by rw [eW]; simp
  have q0 : W1.heap[W.heap.size]? = some (.cells #[.int .i64 r.err, .string r.at_, .string r.text, .slice F r.files.length d] 37 (0, 0)) := by rw [eW]; exact heap_alloc_lt (heap_alloc_new W _)
  have q1 : W1.heap[W.heap.size + 1]? = some (.cells #[.int .i64 0, .string ⟨#[]⟩, .string ⟨#[]⟩, .slice none 0 0] 37 (0, 0)) := by
    have := heap_alloc_new (W.alloc (.cells #[.int .i64 r.err, .string r.at_, .string r.text, .slice F r.files.length d] 37)) (.cells #[.int .i64 0, .string ⟨#[]⟩, .string ⟨#[]⟩, .slice none 0 0] 37)
    rw [show (W.alloc (.cells #[.int .i64 r.err, .string r.at_, .string r.text, .slice F r.files.length d] 37)).heap.size = W.heap.size + 1 by simp] at this
    rw [eW]; exact this
  have hbW := lt_heap h.blk
  have HX := Lib.hid (fun V (hV : BelowX W1.heap.size b W1 V) => ((BelowX.of hb1).trans (hV.mono (by omega)) : BelowX W.heap.size b W V))
  have EV := Lib.hid (fun V (hV : BelowX W1.heap.size b W1 V) => hE V (HX.out V hV))
  have Q0 : Hid (∀ V, BelowX W1.heap.size b W1 V → V.cell? ⟨W.heap.size, 0, none⟩ = some (.int .i64 r.err) ∧ V.cell? ⟨W.heap.size, 1, none⟩ = some (.string r.at_) ∧ V.cell? ⟨W.heap.size, 2, none⟩ = some (.string r.text) ∧ V.cell? ⟨W.heap.size, 3, none⟩ = some (.slice F r.files.length d)) := Lib.hid fun V hV => by
    have q := (hV.block _ (by omega) (by omega)).trans q0
    exact ⟨(cell_heap q 0).trans rfl, (cell_heap q 1).trans rfl, (cell_heap q 2).trans rfl, (cell_heap q 3).trans rfl⟩
  have Q1 : Hid (∀ V, BelowX W1.heap.size b W1 V → V.heap[W.heap.size + 1]? = some (.cells #[.int .i64 0, .string ⟨#[]⟩, .string ⟨#[]⟩, .slice none 0 0] 37 (0, 0))) := Lib.hid fun V hV => (hV.block _ (by omega) (by omega)).trans q1
  have RF : Hid (∀ V, BelowX W1.heap.size b W1 V → Fls V F r.files) := Lib.hid fun V hV => (hf.mono (ok' := fun g => g ≠ b) (by decide) fun k hk hs => ⟨hk, (HX.out V hV).block k hs hk⟩).reads (by decide)
  have HI : Hid (InAt W1 (fun g => g ≠ b ∧ g ≠ W.heap.size + 1) b t dv sv A c fs) := Lib.hid (h.keep (hb1.block b hbW) fun k hk hs => ⟨⟨hk, by omega⟩, hb1.block k hs⟩)
  have HR := Lib.hid hR
  have X1 : BelowX W1.heap.size b W1 W1 := BelowX.refl _ _ _
  clear h hE hR hf q0 q1
  generalize hQ : AddSays W b t dv sv r F d (addF t.n fs (tl word) nm r) = Q
  have BAD : Hid (∀ e V, addF t.n fs (tl word) nm r = .inl (failed e t.n nm) → BelowX W1.heap.size b W1 V → Q (.returned (.agg #[.int .i64 e, .string t.n, .string nm, .slice none 0 0])) ((((V.setCell ⟨W.heap.size + 1, 0, none⟩ (.int .i64 e)).setCell ⟨W.heap.size + 1, 1, none⟩ (.string t.n)).setCell ⟨W.heap.size + 1, 2, none⟩ (.string nm)).setCell ⟨W.heap.size + 1, 3, none⟩ (.slice none 0 0))) := Lib.hid fun e V h1 h2 => by
    rw [← hQ]
    refine ⟨set4_x (HX.out V h2) (Nat.le_succ _) _ _ _ _, ?_⟩
    rw [h1]
    exact .inl ⟨rfl, rfl⟩
  have GOOD : Hid (∀ fs2 A2 c2 V, addF t.n fs (tl word) nm r = .inr fs2 → BelowX W1.heap.size b W1 V → InAt V (fun g => g ≠ b ∧ g ≠ W.heap.size + 1 ∧ W.heap.size ≤ g) b t dv sv A2 c2 fs2 → Q (.returned (.agg #[.int .i64 0, .string ⟨#[]⟩, .string ⟨#[]⟩, .slice none 0 0])) ((((V.setCell ⟨W.heap.size + 1, 0, none⟩ (.int .i64 0)).setCell ⟨W.heap.size + 1, 1, none⟩ (.string ⟨#[]⟩)).setCell ⟨W.heap.size + 1, 2, none⟩ (.string ⟨#[]⟩)).setCell ⟨W.heap.size + 1, 3, none⟩ (.slice none 0 0))) := Lib.hid fun fs2 A2 c2 V h1 h2 h3 => by
    rw [← hQ]
    refine ⟨set4_x (HX.out V h2) (Nat.le_succ _) _ _ _ _, ?_⟩
    rw [h1]
    exact ⟨rfl, A2, c2, (set4_ne (by omega) _ _ _ _).trans h3.blk, h3.fls.mono (by decide) fun k hk hs => ⟨⟨hk.1, hk.2.2⟩, set4_ne hk.2.1 _ _ _ _⟩, h3.cap⟩
  obtain ⟨d0, d1, d2, d3⟩ := Q0.out _ X1
  obtain ⟨⟨u0, x0⟩, ⟨u1, x1⟩, ⟨u2, x2⟩, ⟨u3, x3⟩, y0, y1, y2, y3⟩ := four (Q1.out _ X1)
  by_cases he : r.err = 0
  · have e1 : (r.err != 0) = false := by simp [he]
    have ET : Hid (tl (word ++ ⟨#[47]⟩ ++ nm) = tl word ++ 47 :: tl nm) := Lib.hid (by
      show (word ++ ⟨#[47]⟩ ++ nm).data.toList = word.data.toList ++ 47 :: nm.data.toList
      simp [ByteArray.data_append])
    have IA := Lib.hid (into_any F r.files d (word ++ ⟨#[47]⟩ ++ nm) W1 (EV.out _ X1) (RF.out _ X1) hl (by simp only [ByteArray.size_append]; have : (⟨#[47]⟩ : ByteArray).size = 1 := rfl; omega) hfz)
    have A1 : Hid ((intoF r.files (tl word ++ 47 :: tl nm)).2 ≠ 0 → addF t.n fs (tl word) nm r = .inl (failed (intoF r.files (tl word ++ 47 :: tl nm)).2 t.n nm)) := Lib.hid fun h => by
      unfold addF; rw [if_neg (by simp [he]), if_pos h]
    have A2' : Hid ((intoF r.files (tl word ++ 47 :: tl nm)).2 = 0 → (unionF fs (intoF r.files (tl word ++ 47 :: tl nm)).1).2 ≠ 0 → addF t.n fs (tl word) nm r = .inl (failed (unionF fs (intoF r.files (tl word ++ 47 :: tl nm)).1).2 t.n nm)) := Lib.hid fun h h2 => by
      unfold addF; rw [if_neg (by simp [he]), if_neg (by simp [h]), if_pos h2]
    have A3 : Hid ((intoF r.files (tl word ++ 47 :: tl nm)).2 = 0 → (unionF fs (intoF r.files (tl word ++ 47 :: tl nm)).1).2 = 0 → addF t.n fs (tl word) nm r = .inr (unionF fs (intoF r.files (tl word ++ 47 :: tl nm)).1).1) := Lib.hid fun h h2 => by
      unfold addF; rw [if_neg (by simp [he]), if_neg (by simp [h]), if_neg (by simp [h2])]
    have IL : Hid ((intoF r.files (tl word ++ 47 :: tl nm)).1.length ≤ 1000) := Lib.hid (by
      unfold intoF
      split
      · simp
      split
      · simp
      · simpa using hl)
    unfold IntoSays at IA
    rw [ET.out] at IA
    clear ET he
    generalize intoF r.files (tl word ++ 47 :: tl nm) = i at *
    obtain ⟨il, ie⟩ := i
    simp only at IA A1 A2' A3 IL
    have UA : Hid (∀ V F2 c2, BelowX W1.heap.size b W1 V → Fls V A fs → Fls V F2 il → Calls Tryz.prog 82 #[.slice A fs.length c, .slice F2 il.length c2] V (UnionSays fs il V)) := Lib.hid fun V F2 c2 hV h1 h2 => union_any A fs c F2 il c2 V (EV.out _ hV) h1 HR.out h2 IL.out
    unfold UnionSays at UA
    generalize unionF fs il = un at *
    obtain ⟨ul, ue⟩ := un
    simp only at UA A2' A3
    by_cases h1 : ie = 0
    · subst h1
      by_cases h2 : ue = 0
      · subst h2
        have G := Lib.hid (A3.out rfl rfl)
        clear A1 A2' A3
        go_enter Tryz.func43, Tryz.ntmps43
        go_wp2_with (fail)
        rw [← eW]
        clear eW
        go_wp2_with (first
          | (go_at_call 81; (with_reducible refine (IA.out).mono ?_); rintro e w2 ⟨v2, rfl, ho2, b2⟩; obtain ⟨A2, c2, rfl, hc2⟩ := own_len ho2; have X2 : BelowX W1.heap.size b W1 w2 := .of b2; have I2 := HI.out.below b2; have d4 := (cell_heap I2.blk 4).trans rfl; have F2 := Lib.hid (Reads.of_own ho2))
          | (go_at_call 82; (with_reducible refine (UA.out _ _ _ X2 I2.flsr F2.out).mono ?_); rintro e w3 ⟨v3, rfl, ho3, b3⟩; obtain ⟨A3, c3, rfl, hc3⟩ := own_len ho3; have h3 := b2.trans (b3.mono b2.size); have X3 : BelowX W1.heap.size b W1 w3 := .of h3; have I3 := HI.out.below h3; have x4 := (cell_heap I3.blk 4).trans rfl; have y4 := frozen_heap I3.blk 4; clear x0 x1 x2 x3 y0 y1 y2 y3; have hw2 := b2.size; have I4 := Lib.hid (I3.put (ok2 := fun g => g ≠ b ∧ g ≠ W.heap.size + 1 ∧ W.heap.size ≤ g) (fs2 := ul) rfl ho3 (by omega) (fun g hg => by omega) hc3); have X4 : BelowX W1.heap.size b W1 (w3.setCell ⟨b, 4, none⟩ (.slice A3 ul.length c3)) := X3.setX rfl _; obtain ⟨⟨u0, x0⟩, ⟨u1, x1⟩, ⟨u2, x2⟩, ⟨u3, x3⟩, y0, y1, y2, y3⟩ := four (Q1.out _ X4)))
        refine bodyPost_ret (results_cell rfl _ _ _ ⟨W.heap.size + 1, 0, none⟩ _ _ rfl (load_res (set4 (Q1.out _ X4) _ _ _ _) rfl)) rfl ?_
        exact GOOD.out _ _ _ _ G.out X4 I4.out
      · have G := Lib.hid (A2'.out rfl h2)
        have g0 : (ue != 0) = true := by simpa using h2
        clear A1 A2' A3
        go_enter Tryz.func43, Tryz.ntmps43
        go_wp2_with (fail)
        rw [← eW]
        clear eW
        go_wp2_with (first
          | (go_at_call 81; (with_reducible refine (IA.out).mono ?_); rintro e w2 ⟨v2, rfl, ho2, b2⟩; obtain ⟨A2, c2, rfl, hc2⟩ := own_len ho2; have X2 : BelowX W1.heap.size b W1 w2 := .of b2; have I2 := HI.out.below b2; have d4 := (cell_heap I2.blk 4).trans rfl; have F2 := Lib.hid (Reads.of_own ho2))
          | (go_at_call 82; (with_reducible refine (UA.out _ _ _ X2 I2.flsr F2.out).mono ?_); rintro e w3 ⟨v3, rfl, ho3, b3⟩; obtain ⟨A3, c3, rfl, hc3⟩ := own_len ho3; have h3 := b2.trans (b3.mono b2.size); have I3 := HI.out.below h3; have z0 := (cell_heap I3.blk 0).trans rfl)
          | (go_at_call 45; (with_reducible refine (failed_any _ _ _ _).mono ?_); rintro e w4 ⟨rfl, b4⟩; have h4 := h3.trans (b4.mono h3.size); have X4 : BelowX W1.heap.size b W1 w4 := .of h4; clear x0 x1 x2 x3 y0 y1 y2 y3; obtain ⟨⟨u0, x0⟩, ⟨u1, x1⟩, ⟨u2, x2⟩, ⟨u3, x3⟩, y0, y1, y2, y3⟩ := four (Q1.out _ X4)))
        refine bodyPost_ret (results_cell rfl _ _ _ ⟨W.heap.size + 1, 0, none⟩ _ _ rfl (load_res (set4 (Q1.out _ X4) _ _ _ _) rfl)) rfl ?_
        exact BAD.out _ _ G.out X4
    · have G := Lib.hid (A1.out h1)
      have g0 : (ie != 0) = true := by simpa using h1
      clear A1 A2' A3
      have z0 : ∀ V, Below W1.heap.size W1 V → V.cell? ⟨b, 0, none⟩ = some (.string t.n) := fun V hV => (cell_heap (HI.out.below hV).blk 0).trans rfl
      have Z0 := Lib.hid z0
      clear z0
      go_enter Tryz.func43, Tryz.ntmps43
      go_wp2_with (fail)
      rw [← eW]
      clear eW
      go_wp2_with (first
        | (go_at_call 81; (with_reducible refine (IA.out).mono ?_); rintro e w2 ⟨v2, rfl, ho2, b2⟩; have z0 := Z0.out _ b2)
        | (go_at_call 45; (with_reducible refine (failed_any _ _ _ _).mono ?_); rintro e w4 ⟨rfl, b4⟩; have h4 := b2.trans (b4.mono b2.size); have X4 : BelowX W1.heap.size b W1 w4 := .of h4; clear x0 x1 x2 x3 y0 y1 y2 y3; obtain ⟨⟨u0, x0⟩, ⟨u1, x1⟩, ⟨u2, x2⟩, ⟨u3, x3⟩, y0, y1, y2, y3⟩ := four (Q1.out _ X4)))
      refine bodyPost_ret (results_cell rfl _ _ _ ⟨W.heap.size + 1, 0, none⟩ _ _ rfl (load_res (set4 (Q1.out _ X4) _ _ _ _) rfl)) rfl ?_
      exact BAD.out _ _ G.out X4
  · have e1 : (r.err != 0) = true := by simpa using he
    clear BAD GOOD eW
    go_enter Tryz.func43, Tryz.ntmps43
    go_wp2_with (fail)
    have q := heap_alloc_new (W.alloc (.cells #[.int .i64 r.err, .string r.at_, .string r.text, .slice F r.files.length d] 37)) (.cells #[.int .i64 r.err, .string r.at_, .string r.text, .slice F r.files.length d] 37)
    rw [show (W.alloc (.cells #[.int .i64 r.err, .string r.at_, .string r.text, .slice F r.files.length d] 37)).heap.size = W.heap.size + 1 by simp] at q
    refine bodyPost_ret (results_cell rfl _ _ _ ⟨W.heap.size + 1, 0, none⟩ _ _ rfl (load_res q rfl)) rfl ?_
    rw [← hQ]
    refine ⟨.of (((Below.refl _ _).alloc (Nat.le_refl _) _).alloc (by simp) _), ?_⟩
    have : addF t.n fs (tl word) nm r = .inl r := by unfold addF; rw [if_pos he]
    rw [this]
    exact .inr ⟨rfl, rfl⟩
end Go.Proofs.YtdidnlkilleljaaGreatDoor.Mn
