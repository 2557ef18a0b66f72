/- Joined by mkmerged.py: LgRmem, LgBlock. -/
import Derived.Test.YtdidnlkilleljaaGreatDoorMf08
/- LgRmem, what a claim needs of it (prune.py). -/
namespace Go.Proofs.YtdidnlkilleljaaGreatDoor.Lg
open Go.RowKit
set_option linter.unusedVariables false
def Slot (w : World) (b b' : Nat) (X : Nat → Prop) (v : Value) (out : List Stp) : Prop :=
  ∃ cells, w.ownsRow b 61 4 v out.length cells ∧ RowAt w (fun x => b ≤ x ∧ x < b' ∧ some x ≠ v.ownBlock ∧ ¬ X x) cells out ∧ ∀ g, v.ownBlock = some g → g < b' ∧ ¬ X g
theorem Slot.none_ (w : World) (b b' : Nat) (X : Nat → Prop) : Slot w b b' X (.slice none 0 0) [] :=
  ⟨[], World.ownsRow_nil _ _ _ _, .nil, fun g h => by cases h⟩
theorem Slot.keep {w w' : World} {b b' b2 : Nat} {X X' : Nat → Prop} {v : Value} {out : List Stp} (h : Slot w b b' X v out) (hb : b' ≤ b2)
    (hk : ∀ x, b ≤ x → x < b' → x < w.heap.size → ¬ X x → ¬ X' x ∧ w'.heap[x]? = w.heap[x]?) : Slot w' b b2 X' v out := by
  obtain ⟨cells, h1, h2, h3⟩ := h
  refine ⟨cells, ?_, h2.mono fun x hx hs => ?_, fun g hg => ?_⟩
  · refine ⟨h1.1, ?_⟩
    rcases h1.2 with h4 | ⟨g, cap, cur, hv, hB, hg, r⟩
    · exact .inl h4
    · have h5 := h3 g (by rw [hv]; rfl)
      exact .inr ⟨g, cap, cur, hv, hB, ((hk g hB h5.1 (lt_of_block hg) h5.2).2).trans hg, r⟩
  · have := hk x hx.1 hx.2.1 hs hx.2.2.2
    exact ⟨⟨hx.1, by have := hx.2.1; omega, hx.2.2.1, this.1⟩, this.2⟩
  · have h5 := own_block h1 hg
    have h6 := h3 g hg
    exact ⟨by omega, (hk g h5.1 h6.1 h5.2 h6.2).1⟩
inductive Fr (w : World) (X : Nat → Prop) (B0 : Nat) : Nat → List Frame → List Value → List Value → Prop
  | nil {b : Nat} : B0 ≤ b → Fr w X B0 b [] [] []
  | cons {b b' : Nat} {f : Frame} {fs : List Frame} {hc vs : List Value} {v : Value} {A : Option Addr} {k c : Nat} :
      Fr w X B0 b fs hc vs → b ≤ b' → Slot w b b' X v f.out → k = f.args.length → k ≤ c → Lies w (fun x => b ≤ x ∧ x < b' ∧ some x ≠ v.ownBlock ∧ ¬ X x) 1 A k (strV f.args) →
      Fr w X B0 b' (f :: fs) (hc ++ [.int .i64 f.op, .slice A k c, .int .i64 f.n, .slice none 0 0]) (vs ++ [v])
theorem Fr.keep {w w' : World} {X X' : Nat → Prop} {B0 b : Nat} {fs : List Frame} {hc vs : List Value} (h : Fr w X B0 b fs hc vs)
    (hk : ∀ x, x < b → x < w.heap.size → ¬ X x → ¬ X' x ∧ w'.heap[x]? = w.heap[x]?) : Fr w' X' B0 b fs hc vs := by
  induction h with
  | nil h => exact .nil h
  | cons h1 hb hs h3 h4 h5 ih =>
    refine .cons (ih fun x hx => hk x (by omega)) hb (hs.keep (Nat.le_refl _) fun x _ hx => hk x hx) h3 h4 (h5.mono (by omega) fun x hx hlt => ?_)
    have := hk x hx.2.1 hlt hx.2.2.2
    exact ⟨⟨hx.1, hx.2.1, hx.2.2.1, this.1⟩, this.2⟩
theorem Fr.len {w : World} {X : Nat → Prop} {B0 b : Nat} {fs : List Frame} {hc vs : List Value} (h : Fr w X B0 b fs hc vs) : hc.length = fs.length * 4 ∧ vs.length = fs.length := by
  induction h with
  | nil h => exact ⟨rfl, rfl⟩
  | cons h1 hb hs h3 h4 h5 ih => simp only [List.length_append, List.length_cons, List.length_nil]; omega
theorem Fr.up {w : World} {X : Nat → Prop} {B0 b b2 : Nat} {fs : List Frame} {hc vs : List Value} (h : Fr w X B0 b fs hc vs) (hb : b ≤ b2) : Fr w X B0 b2 fs hc vs := by
  cases h with
  | nil h => exact .nil (Nat.le_trans h hb)
  | cons h1 h2 hs h3 h4 h5 =>
    exact .cons h1 (Nat.le_trans h2 hb) (hs.keep hb fun x _ _ _ hx => ⟨hx, rfl⟩) h3 h4 (h5.mono (by omega) fun x hx _ => ⟨⟨hx.1, by have := hx.2.1; omega, hx.2.2⟩, rfl⟩)
theorem Fr.inv {w : World} {X : Nat → Prop} {B0 b' : Nat} {f : Frame} {fs : List Frame} {hc vs : List Value} (h : Fr w X B0 b' (f :: fs) hc vs) :
    ∃ b hc' vs' v A k c, hc = hc' ++ [.int .i64 f.op, .slice A k c, .int .i64 f.n, .slice none 0 0] ∧ vs = vs' ++ [v] ∧ Fr w X B0 b fs hc' vs' ∧ b ≤ b' ∧ Slot w b b' X v f.out ∧ k = f.args.length ∧ k ≤ c ∧ Lies w (fun x => b ≤ x ∧ x < b' ∧ some x ≠ v.ownBlock ∧ ¬ X x) 1 A k (strV f.args) := by
  cases h with
  | cons h1 h2 h3 h4 h5 h6 => exact ⟨_, _, _, _, _, _, _, rfl, rfl, h1, h2, h3, h4, h5, h6⟩
theorem Fr.base {w : World} {X : Nat → Prop} {B0 b : Nat} {fs : List Frame} {hc vs : List Value} (h : Fr w X B0 b fs hc vs) : B0 ≤ b := by
  induction h with
  | nil h => exact h
  | cons h1 h2 h3 h4 h5 h6 ih => omega
def own2 (h k : Value) : Nat → Prop := fun x => some x = h.ownBlock ∨ some x = k.ownBlock
abbrev okS (b b' : Nat) (X : Nat → Prop) (v : Value) : Nat → Prop := fun x => b ≤ x ∧ x < b' ∧ some x ≠ v.ownBlock ∧ ¬ X x
theorem slot_push {w w2 : World} {b b' : Nat} {X X' : Nat → Prop} {v v2 : Value} {cells : List Value} {out : List Stp} {op n : Int} {A Bk : Option Addr} {k c kb cb : Nat} {args : List Lg.B} {inn : List Stp}
    (hr : RowAt w (okS b b' X v) cells out) (hb : b' ≤ w.heap.size) (hs : w.heap.size ≤ w2.heap.size)
    (hown : w2.ownsRow b 61 4 v2 (out.length + 1) (cells ++ [.int .i64 op, .slice A k c, .int .i64 n, .slice Bk kb cb]))
    (hsame : ∀ x, b ≤ x → x < w.heap.size → some x ≠ v.ownBlock → ¬ X x → ¬ X' x ∧ w2.heap[x]? = w.heap[x]?)
    (hat : ∀ g, v2.ownBlock = some g → (v.ownBlock = some g ∨ w.heap.size ≤ g) ∧ ¬ X' g)
    (hk : k = args.length) (hc : k ≤ c) (ha : Lies w (okS b w.heap.size X v) 1 A k (strV args)) (hkb : kb ≤ cb) (hin : StepsAt w (okS b w.heap.size X v) Bk kb inn) :
    Slot w2 b w2.heap.size X' v2 (out ++ [⟨op, args, n, inn⟩]) := by
  obtain ⟨h1, bc, h2, h3⟩ := hin
  have hr2 : RowAt w (okS b w.heap.size X v) cells out := hr.mono fun x hx _ => ⟨⟨hx.1, by have := hx.2.1; omega, hx.2.2⟩, rfl⟩
  have h := hr2.append (RowAt.cons (op := op) (n := n) hk hc ha h1 hkb h2 h3 .nil)
  refine ⟨_, by rw [List.length_append]; exact hown, h.mono fun x hx hlt => ?_, fun g hg => ⟨(own_block hown hg).2, (hat g hg).2⟩⟩
  obtain ⟨g1, g2⟩ := hsame x hx.1 hlt hx.2.2.1 hx.2.2.2
  refine ⟨⟨hx.1, by omega, fun e => ?_, g1⟩, g2⟩
  rcases (hat x e.symm).1 with h5 | h5
  · exact hx.2.2.1 h5.symm
  · omega
theorem Slot.steps {w : World} {b b' : Nat} {X : Nat → Prop} {v : Value} {out : List Stp} (h : Slot w b b' X v out) : ∃ A k c, v = .slice A k c ∧ k ≤ c ∧ StepsAt w (fun x => b ≤ x ∧ x < b' ∧ ¬ X x) A k out := by
  obtain ⟨cells, ho, hr, hx⟩ := h
  have hr2 := hr.mono (w' := w) (ok' := fun x => b ≤ x ∧ x < b' ∧ ¬ X x) (fun x h _ => ⟨⟨h.1, h.2.1, h.2.2.2⟩, rfl⟩)
  rcases ho.2 with ⟨rfl, h0⟩ | ⟨g, cap, cur, rfl, hB, hg, h1, h2, h3, h4⟩
  · have : out = [] := List.eq_nil_of_length_eq_zero h0
    subst this
    cases hr2
    exact ⟨none, 0, 0, rfl, Nat.le_refl _, rfl, [], Lies.none_, .nil⟩
  · have h5 := hx g rfl
    refine ⟨_, _, _, rfl, h1, rfl, cells, ⟨ho.1, fun _ => ⟨_, rfl, ⟨hB, h5.1, h5.2⟩, fun j u hu => ?_⟩⟩, hr2⟩
    exact ho.cells (g := g) rfl j u hu
end Go.Proofs.YtdidnlkilleljaaGreatDoor.Lg
/- LgBlock, what a claim needs of it (prune.py). -/
namespace Go.Proofs.YtdidnlkilleljaaGreatDoor.Lg
open Go.RowKit
set_option linter.unusedVariables false
set_option maxRecDepth 100000
theorem infoT : (Tryz.prog.info? 61).map (fun i => (i.zero, i.size, i.bytes)) = some (some (.agg #[.int .i64 0, .slice none 0 0, .int .i64 0, .slice none 0 0]), 4, 64) := by kernel_rfl
set_option maxHeartbeats 4000000 in
theorem block_any (L : List ByteArray) (ba bl bb : Nat) (A : Option Addr) (c : Nat) (W0 : World) (hE : Env W0) (hba : W0.heap.size ≤ ba) (hL : L.length ≤ 64) (hp : ∀ p ∈ L, p.size ≤ 1000000) :
    ∀ (K deep j : Nat) (w : World), L.length - j ≤ K → j ≤ L.length → deep ≤ 4 → Below W0.heap.size W0 w → Cl w ba bl bb A c L → CtAt w ba j →
      Calls Tryz.prog 85 #[.int .i64 deep, .pointer (some ⟨ba, 0, none⟩), .pointer (some ⟨bl, 0, none⟩), .pointer (some ⟨bb, 0, none⟩)] w fun e w' => BlockSays w w' ba (L.map tl) (bk deep [] ((L.map tl).drop j)) e := by
  obtain ⟨i0, hi, hz0, hz1, hz2⟩ := info_parts infoT
  intro K
  induction K using Nat.strongRecOn with
  | ind K ih =>
    intro deep j w hK hj hd hW hcl hct
    have IH := Lib.hid ih
    clear ih
    have hltw : ba < w.heap.size := lt_of_block hct
    go_enter Tryz.func85, Tryz.ntmps85
    go_wp2_with (fail)
    go_loopw [7] (fun v0 wr => ∃ (v : Value) (out : List Stp) (cells : List Value) (i : Nat), v = v0 ∧ wr.ownsRow w.heap.size 61 4 v out.length cells ∧ RowAt wr (okR w.heap.size v) cells out ∧ BelowX w.heap.size ba w wr ∧ CtAt wr ba i ∧ i ≤ L.length ∧ j ≤ i ∧ out.length ≤ i ∧ bk deep out ((L.map tl).drop i) = bk deep [] ((L.map tl).drop j)) (fun _ wr => L.length - ctr wr ba)
    case atStart => exact ⟨_, [], [], j, rfl, World.ownsRow_nil _ _ _ _, .nil, .refl _ _ _, hct, hj, Nat.le_refl _, Nat.zero_le _, rfl⟩
    case round =>
      obtain ⟨v, out, cells, i, rfl, hown, hrow, hbx, hci, hiL, hji, hoi, hbk⟩ := hrel
      rename World => wr
      have hcl1 := hcl.keep hbx
      have hW1 : Below W0.heap.size W0 wr := hW.trans (hbx.below hW.size hba)
      have HBK := Lib.hid hbk
      have HCI := Lib.hid hci
      have HC1 := Lib.hid hcl1
      have f0 := cell_of_one hci
      have f1 := free_of_one hci
      have f2 := hcl1.lines
      have n1 := hcl1.nl
      have n2 := hcl1.nb
      have n3 : ¬ ba = bl := fun e => n1 e.symm
      have n4 : ¬ ba = bb := fun e => n2 e.symm
      clear hbk hci hcl1
      by_cases hlt : i < L.length
      · have hltI : (i : Int) < (L.length : Int) := by omega
        obtain ⟨ad, rfl, hadb, hline⟩ := HC1.out.line i hlt
        have hadb2 : ¬ ba = ad.block := fun e => hadb e.symm
        have DL := drop_line hlt
        have hszl := hp _ (List.getElem_mem hlt)
        have HB1 := HBK.out
        rw [DL] at HB1
        have HD := Lib.hid HB1
        clear HB1 DL
        generalize L[i] = line at *
        have hci2 : ∀ W, BelowX w.heap.size ba w W → W.heap[ba]? = (wr.setCell ⟨ba, 0, none⟩ (.int .i64 ((i + 1 : Nat) : Int))).heap[ba]? → CtAt W ba (i + 1) := fun W _ hW => hW.trans (one_setCell HCI.out)
        have CT2 := Lib.hid hci2
        have hb1 : ∀ u, BelowX w.heap.size ba w (wr.setCell ⟨ba, 0, none⟩ u) := fun u => hbx.setX rfl u
        have hown1 : ∀ u, (wr.setCell ⟨ba, 0, none⟩ u).ownsRow w.heap.size 61 4 v out.length cells := fun u => ownsRow_setCell_below hown hltw u
        have hrow1 : ∀ u, RowAt (wr.setCell ⟨ba, 0, none⟩ u) (okR w.heap.size v) cells out := fun u => hrow.mono fun b hb _ => ⟨hb, Below.heap_setCell _ _ _ _ (by have := hb.1; show b ≠ ba; omega)⟩
        have HI1 : Hid (((i : Int) + 1) = ((i + 1 : Nat) : Int)) := Lib.hid (by omega)
        have HBX := Lib.hid hb1
        have HOW := Lib.hid hown1
        have HRW := Lib.hid hrow1
        have hi64 : i + 1 ≤ 65 := by omega
        clear hci2 hb1 hown1 hrow1 hown hrow
        by_cases he : line = ⟨#[101, 110, 100]⟩
        · subst he
          by_cases hd0 : 0 < deep
          · have hdI : (0 : Int) < (deep : Int) := by omega
            have R : Hid (bk deep [] ((L.map tl).drop j) = .ok out ((L.map tl).drop (i + 1))) := Lib.hid (by rw [← HD.out, bk_cons, if_pos (show tl ⟨#[101, 110, 100]⟩ = endW from rfl), if_pos hd0])
            clear hd0
            go_wp2_with (fail)
            go_ret2
            rw [R.out]
            obtain ⟨A, k, c', rfl, hkc, hs⟩ := own_steps (HOW.out (.int .i64 ((i : Int) + 1))) (HRW.out _) (fun b hb => hb.1)
            exact ⟨HBX.out _, A, k, c', i + 1, rfl, hkc, hs, CT2.out _ (HBX.out _) (by rw [HI1.out]), by simp; omega, rfl⟩
          · obtain rfl : deep = 0 := by omega
            have R : Hid (bk 0 [] ((L.map tl).drop j) = .err 21) := Lib.hid (by rw [← HD.out, bk_cons, if_pos (show tl ⟨#[101, 110, 100]⟩ = endW from rfl), if_neg (by omega)])
            clear hd0
            go_wp2_with (fail)
            go_ret2
            rw [R.out]
            exact ⟨HBX.out _, rfl⟩
        · have hne : (line.toList == [101, 110, 100]) = false := beq_eq_false_iff_ne.2 (fun e => he (lit_in e))
          have hne1 : ¬ line.toList = [101, 110, 100] := fun e => he (lit_in e)
          have hne2 : ¬ tl line = endW := fun e => he (tl_inj e)
          obtain ⟨W1, eW1⟩ : ∃ W1, W1 = wr.setCell ⟨ba, 0, none⟩ (.int .i64 ((i : Int) + 1)) := ⟨_, rfl⟩
          have hx1 : BelowX w.heap.size ba w W1 := by rw [eW1]; exact HBX.out _
          have hW11 : Below W0.heap.size W0 W1 := hW.trans (hx1.below hW.size hba)
          have OW1 : Hid (W1.ownsRow w.heap.size 61 4 v out.length cells) := Lib.hid (by rw [eW1]; exact HOW.out _)
          have RW1 : Hid (RowAt W1 (okR w.heap.size v) cells out) := Lib.hid (by rw [eW1]; exact HRW.out _)
          have CI1 : Hid (CtAt W1 ba (i + 1)) := Lib.hid (CT2.out _ hx1 (by rw [eW1, HI1.out]))
          have hE1 := hE.below hW11
          have CL1 : Hid (Cl W1 ba bl bb (some ad) c L) := Lib.hid (hcl.keep hx1)
          have hbw1 : ba < W1.heap.size := lt_of_block CI1.out
          have hbs1 : w.heap.size ≤ W1.heap.size := hx1.size
          have OB1 : Hid (∀ g, v.ownBlock = some g → w.heap.size ≤ g ∧ g < W1.heap.size) := Lib.hid (fun g hg => own_block OW1.out hg)
          clear he HOW HRW HBX CT2
          have HDs := HD.out
          rw [bk_cons, if_neg hne2] at HDs
          clear hne2
          cases hso : stepOf (tl line) with
          | none =>
            have ST := Lib.hid (step_none hE1 hszl hso)
            rw [hso] at HDs
            have R := Lib.hid HDs.symm
            clear hso HDs
            go_wp2_with (go_at_call 86; rw [← eW1]; (with_reducible refine (ST.out).mono ?_); rintro e W2 ⟨⟨op, A2, k2, c2, n2', rfl⟩, hb2⟩; clear ST eW1)
            go_ret2
            rw [R.out]
            exact ⟨(hx1.trans ((BelowX.of hb2).mono hbs1)).alloc (by have := hb2.size; omega) _, rfl⟩
          | some st =>
            obtain ⟨op, xs, m⟩ := st
            have ST := Lib.hid (step_some hE1 hszl hso)
            rw [hso] at HDs
            simp only at HDs
            have HR2 := Lib.hid HDs
            clear hso HDs
            cases hop : opens op with
            | false =>
              have hnop : ¬ (op = 9 ∨ op = 10) := fun h => by rw [opens_iff.2 h] at hop; cases hop
              have R : Hid (bk deep (out ++ [⟨op, xs, m, []⟩]) ((L.map tl).drop (i + 1)) = bk deep [] ((L.map tl).drop j)) := Lib.hid (by
                have := HR2.out
                rw [if_neg hnop] at this
                exact this)
              have BG0 := fun (A2 : Option Addr) (k2 c2 : Nat) W => begins_any op m A2 none k2 c2 0 0 W
              simp only [hop] at BG0
              have BG := Lib.hid BG0
              clear hop hnop BG0
              go_wp2_with (first | (go_at_call 86; rw [← eW1]; (with_reducible refine (ST.out).mono ?_); rintro e W2 ⟨⟨A2, k2, c2, rfl, hk2, hkc, hl2⟩, hb2⟩; have HL2 := Lib.hid hl2; have HK2 := Lib.hid hk2; clear ST eW1 hl2 hk2; have hX0 : (W2.alloc (.cells #[.int .i64 op, .slice A2 k2 c2, .int .i64 m, .slice none 0 0] 61)).heap[W2.heap.size]? = some (.cells #[.int .i64 op, .slice A2 k2 c2, .int .i64 m, .slice none 0 0] 61 (0, 0)) := heap_new W2 _) | (go_at_call 87; (with_reducible refine (BG.out _ _ _ _).mono ?_); rintro e W3 ⟨rfl, hb3⟩; have hX3 : W3.heap[W2.heap.size]? = some (.cells #[.int .i64 op, .slice A2 k2 c2, .int .i64 m, .slice none 0 0] 61 (0, 0)) := (hb3.block _ (by simp)).trans hX0; obtain ⟨x0, x1, x2, x3, _, _, _, _⟩ := four hX3; have hA3 : Below W2.heap.size W2 W3 := ((Below.refl _ _).alloc (Nat.le_refl _) _).trans (hb3.mono (by simp))) | (go_at_call 87; (with_reducible refine (BG.out _ _ _ _).mono ?_); rintro e W4 ⟨rfl, hb4⟩; have hX4 : W4.heap[W2.heap.size]? = some (.cells #[.int .i64 op, .slice A2 k2 c2, .int .i64 m, .slice none 0 0] 61 (0, 0)) := (hb4.block _ (lt_of_block hX3)).trans hX3; obtain ⟨z0, z1, z2, z3, _, _, _, _⟩ := four hX4; have hA4 : Below W2.heap.size W2 W4 := hA3.trans (hb4.mono hA3.size); have hB4 : Below W1.heap.size W1 W4 := hb2.trans (hA4.mono hb2.size); have h14 := (BelowX.of (x := ba) hB4).alloc hB4.size (.cells #[.int .i64 op, .slice A2 k2 c2, .int .i64 m, .slice none 0 0] 61); have hsz4 := hB4.size) | (at_builtin; refine wpList_append_any _ rfl (.tmp 62) (.tmp 64) _ rfl w.heap.size 61 i0 _ 4 64 Tryz.underlying22 hi hz0 hz1 hz2 rfl (by omega) v out.length cells rfl (own_at4 hltw OW1.out h14) _ (some ⟨W4.heap.size, 0, none⟩) 1 1 [.int .i64 op, .slice A2 k2 c2, .int .i64 m, .slice none 0 0] rfl (reads4 (heap_alloc_new W4 _)) mem4 (by simp only [maxLen]; omega) (by omega) (by simp; omega) ?_; intro v2 w2 hown2 hg2 hat2))
              go_roundw
              case rel =>
                obtain ⟨p1, p2⟩ := push_on hx1 hltw OB1.out h14 ((Below.heap_alloc _ _ _ (by omega)).trans ((hB4.block ba hbw1).trans CI1.out)) hg2
                refine ⟨v2, out ++ [⟨op, xs, m, []⟩], cells ++ [.int .i64 op, .slice A2 k2 c2, .int .i64 m, .slice none 0 0], i + 1, rfl, by rw [List.length_append]; exact hown2, ?_, p1, p2, by omega, by omega, by simp; omega, R.out⟩
                refine row_push (row_at4 hltw RW1.out h14) hg2 hat2 HK2.out hkc ?_ (Nat.le_refl _) ⟨rfl, [], Lies.none_, .nil⟩
                exact HL2.out.mono (by omega) fun b hb hs => ⟨new_ok hbs1 OB1.out hb, (Below.heap_alloc _ _ _ (by have := hA4.size; omega)).trans (hA4.block b hs)⟩
              case measure =>
                obtain ⟨p1, p2⟩ := push_on hx1 hltw OB1.out h14 ((Below.heap_alloc _ _ _ (by omega)).trans ((hB4.block ba hbw1).trans CI1.out)) hg2
                rw [ctr_at p2, ctr_at HCI.out]
                omega
            | true =>
              have hyop : op = 9 ∨ op = 10 := opens_iff.1 hop
              have BG0 := fun (A2 : Option Addr) (k2 c2 : Nat) W => begins_any op m A2 none k2 c2 0 0 W
              simp only [hop] at BG0
              have BG := Lib.hid BG0
              have HR3 := HR2.out
              rw [if_pos hyop] at HR3
              clear hop hyop BG0
              by_cases hd4 : 4 ≤ deep
              · have hdI : (4 : Int) ≤ (deep : Int) := by omega
                rw [if_pos hd4] at HR3
                have R := Lib.hid HR3.symm
                clear HR3 hd4
                go_wp2_with (first | (go_at_call 86; rw [← eW1]; (with_reducible refine (ST.out).mono ?_); rintro e W2 ⟨⟨A2, k2, c2, rfl, hk2, hkc, hl2⟩, hb2⟩; have HL2 := Lib.hid hl2; have HK2 := Lib.hid hk2; clear ST eW1 hl2 hk2; have hX0 : (W2.alloc (.cells #[.int .i64 op, .slice A2 k2 c2, .int .i64 m, .slice none 0 0] 61)).heap[W2.heap.size]? = some (.cells #[.int .i64 op, .slice A2 k2 c2, .int .i64 m, .slice none 0 0] 61 (0, 0)) := heap_new W2 _) | (go_at_call 87; (with_reducible refine (BG.out _ _ _ _).mono ?_); rintro e W3 ⟨rfl, hb3⟩; have hX3 : W3.heap[W2.heap.size]? = some (.cells #[.int .i64 op, .slice A2 k2 c2, .int .i64 m, .slice none 0 0] 61 (0, 0)) := (hb3.block _ (by simp)).trans hX0; obtain ⟨x0, x1, x2, x3, _, _, _, _⟩ := four hX3; have hA3 : Below W2.heap.size W2 W3 := ((Below.refl _ _).alloc (Nat.le_refl _) _).trans (hb3.mono (by simp))))
                go_ret2
                rw [R.out]
                exact ⟨hx1.trans ((BelowX.of (hb2.trans (hA3.mono hb2.size))).mono hbs1), rfl⟩
              · have hdI : ¬ (4 : Int) ≤ (deep : Int) := by omega
                rw [if_neg hd4] at HR3
                have IHW : Hid (∀ W, Below W1.heap.size W1 W → Calls Tryz.prog 85 #[.int .i64 ((deep : Int) + 1), .pointer (some ⟨ba, 0, none⟩), .pointer (some ⟨bl, 0, none⟩), .pointer (some ⟨bb, 0, none⟩)] W fun e w' => BlockSays W w' ba (L.map tl) (bk (deep + 1) [] ((L.map tl).drop (i + 1))) e) := Lib.hid fun W hW => by
                  have := IH.out (L.length - (i + 1)) (by omega) (deep + 1) (i + 1) W (Nat.le_refl _) (by omega) (by omega) (hW11.trans (hW.mono hW11.size)) (CL1.out.keep (.of hW)) ((hW.block ba hbw1).trans CI1.out)
                  rwa [show (((deep + 1 : Nat)) : Int) = (deep : Int) + 1 by omega] at this
                clear hd4
                cases hin : bk (deep + 1) [] ((L.map tl).drop (i + 1)) with
                | err ek =>
                  have hek : ek ≠ 0 := bk_err _ _ _ _ _ (Nat.le_refl _) hin
                  have g3 : ((ek : Int) != 0) = true := by simp; omega
                  rw [hin] at HR3
                  have R := Lib.hid HR3.symm
                  have IHE : Hid (∀ W, Below W1.heap.size W1 W → Calls Tryz.prog 85 #[.int .i64 ((deep : Int) + 1), .pointer (some ⟨ba, 0, none⟩), .pointer (some ⟨bl, 0, none⟩), .pointer (some ⟨bb, 0, none⟩)] W fun e w' => e = .returned (.tuple #[.slice none 0 0, .int .i64 ek]) ∧ BelowX W.heap.size ba W w') := Lib.hid fun W hW => (IHW.out W hW).mono (by
                    rintro e w' ⟨h1, h2⟩
                    rw [hin] at h2
                    exact ⟨h2, h1⟩)
                  clear HR3 hek hin IHW
                  go_wp2_with (first | (go_at_call 86; rw [← eW1]; (with_reducible refine (ST.out).mono ?_); rintro e W2 ⟨⟨A2, k2, c2, rfl, hk2, hkc, hl2⟩, hb2⟩; have HL2 := Lib.hid hl2; have HK2 := Lib.hid hk2; clear ST eW1 hl2 hk2; have hX0 : (W2.alloc (.cells #[.int .i64 op, .slice A2 k2 c2, .int .i64 m, .slice none 0 0] 61)).heap[W2.heap.size]? = some (.cells #[.int .i64 op, .slice A2 k2 c2, .int .i64 m, .slice none 0 0] 61 (0, 0)) := heap_new W2 _) | (go_at_call 87; (with_reducible refine (BG.out _ _ _ _).mono ?_); rintro e W3 ⟨rfl, hb3⟩; have hX3 : W3.heap[W2.heap.size]? = some (.cells #[.int .i64 op, .slice A2 k2 c2, .int .i64 m, .slice none 0 0] 61 (0, 0)) := (hb3.block _ (by simp)).trans hX0; obtain ⟨x0, x1, x2, x3, _, _, _, _⟩ := four hX3; have hA3 : Below W2.heap.size W2 W3 := ((Below.refl _ _).alloc (Nat.le_refl _) _).trans (hb3.mono (by simp))) | (go_at_call 87; (with_reducible refine (BG.out _ _ _ _).mono ?_); rintro e W4 ⟨rfl, hb4⟩; have hX4 : W4.heap[W2.heap.size]? = some (.cells #[.int .i64 op, .slice A2 k2 c2, .int .i64 m, .slice none 0 0] 61 (0, 0)) := (hb4.block _ (lt_of_block hX3)).trans hX3; obtain ⟨z0, z1, z2, z3, _, _, _, _⟩ := four hX4; have hA4 : Below W2.heap.size W2 W4 := hA3.trans (hb4.mono hA3.size); have hB4 : Below W1.heap.size W1 W4 := hb2.trans (hA4.mono hb2.size); have h14 := (BelowX.of (x := ba) hB4).alloc hB4.size (.cells #[.int .i64 op, .slice A2 k2 c2, .int .i64 m, .slice none 0 0] 61); have hsz4 := hB4.size; have s4 := (CL1.out.keep (.of hB4)).self) | (go_at_call 85; (with_reducible refine (IHE.out _ hB4).mono ?_); rintro e W5 ⟨rfl, hx5⟩))
                  go_ret2
                  rw [R.out]
                  exact ⟨hx1.trans (((BelowX.of hB4).trans (hx5.mono hB4.size)).mono hbs1), rfl⟩
                | ok inn rest' =>
                  have hle := bk_le hin
                  rw [hin] at HR3
                  have R := Lib.hid HR3
                  have IHO : Hid (∀ W, Below W1.heap.size W1 W → Calls Tryz.prog 85 #[.int .i64 ((deep : Int) + 1), .pointer (some ⟨ba, 0, none⟩), .pointer (some ⟨bl, 0, none⟩), .pointer (some ⟨bb, 0, none⟩)] W fun e w' => (∃ A k c j, e = .returned (.tuple #[.slice A k c, .int .i64 0]) ∧ k ≤ c ∧ StepsAt w' (fun b => W.heap.size ≤ b) A k inn ∧ CtAt w' ba j ∧ j ≤ (L.map tl).length ∧ rest' = (L.map tl).drop j) ∧ BelowX W.heap.size ba W w') := Lib.hid fun W hW => (IHW.out W hW).mono (by
                    rintro e w' ⟨h1, h2⟩
                    rw [hin] at h2
                    exact ⟨h2, h1⟩)
                  clear HR3 hin IHW
                  go_wp2_with (first | (go_at_call 86; rw [← eW1]; (with_reducible refine (ST.out).mono ?_); rintro e W2 ⟨⟨A2, k2, c2, rfl, hk2, hkc, hl2⟩, hb2⟩; have HL2 := Lib.hid hl2; have HK2 := Lib.hid hk2; clear ST eW1 hl2 hk2; have hX0 : (W2.alloc (.cells #[.int .i64 op, .slice A2 k2 c2, .int .i64 m, .slice none 0 0] 61)).heap[W2.heap.size]? = some (.cells #[.int .i64 op, .slice A2 k2 c2, .int .i64 m, .slice none 0 0] 61 (0, 0)) := heap_new W2 _) | (go_at_call 87; (with_reducible refine (BG.out _ _ _ _).mono ?_); rintro e W3 ⟨rfl, hb3⟩; have hX3 : W3.heap[W2.heap.size]? = some (.cells #[.int .i64 op, .slice A2 k2 c2, .int .i64 m, .slice none 0 0] 61 (0, 0)) := (hb3.block _ (by simp)).trans hX0; obtain ⟨x0, x1, x2, x3, _, _, _, _⟩ := four hX3; have hA3 : Below W2.heap.size W2 W3 := ((Below.refl _ _).alloc (Nat.le_refl _) _).trans (hb3.mono (by simp))) | (go_at_call 87; (with_reducible refine (BG.out _ _ _ _).mono ?_); rintro e W4 ⟨rfl, hb4⟩; have hX4 : W4.heap[W2.heap.size]? = some (.cells #[.int .i64 op, .slice A2 k2 c2, .int .i64 m, .slice none 0 0] 61 (0, 0)) := (hb4.block _ (lt_of_block hX3)).trans hX3; obtain ⟨z0, z1, z2, z3, _, _, _, _⟩ := four hX4; have hA4 : Below W2.heap.size W2 W4 := hA3.trans (hb4.mono hA3.size); have hB4 : Below W1.heap.size W1 W4 := hb2.trans (hA4.mono hb2.size); have h14 := (BelowX.of (x := ba) hB4).alloc hB4.size (.cells #[.int .i64 op, .slice A2 k2 c2, .int .i64 m, .slice none 0 0] 61); have hsz4 := hB4.size; have s4 := (CL1.out.keep (.of hB4)).self) | (go_at_call 85; (with_reducible refine (IHO.out _ hB4).mono ?_); rintro e W5 ⟨⟨Bk, kb, cb, j', rfl, hkb, hs5, hc5, hj5, hr5⟩, hx5⟩; have HS5 := Lib.hid hs5; have HR5 := Lib.hid hr5; have HJ5 := Lib.hid hj5; clear hs5 hr5 hj5; have hX5 : W5.heap[W2.heap.size]? = some (.cells #[.int .i64 op, .slice A2 k2 c2, .int .i64 m, .slice none 0 0] 61 (0, 0)) := (hx5.block _ (lt_of_block hX4) (by have := hb2.size; omega)).trans hX4; obtain ⟨q0, q1, q2, q3, p0, p1, p2, p3⟩ := four hX5; have h15 : BelowX W1.heap.size ba W1 (W5.setCell ⟨W2.heap.size, 3, none⟩ (.slice Bk kb cb)) := ((BelowX.of hB4).trans (hx5.mono hB4.size)).setCell hb2.size _; have h16 := h15.alloc h15.size (.cells #[.int .i64 op, .slice A2 k2 c2, .int .i64 m, .slice Bk kb cb] 61); have hsz5 := h16.size) | (at_builtin; refine wpList_append_any _ rfl (.tmp 62) (.tmp 64) _ rfl w.heap.size 61 i0 _ 4 64 Tryz.underlying22 hi hz0 hz1 hz2 rfl (by omega) v out.length cells rfl (own_at4 hltw OW1.out h16) _ (some ⟨W5.heap.size, 0, none⟩) 1 1 [.int .i64 op, .slice A2 k2 c2, .int .i64 m, .slice Bk kb cb] rfl (reads4 (g := W5.heap.size) (by have := heap_alloc_new (W5.setCell ⟨W2.heap.size, 3, none⟩ (.slice Bk kb cb)) (.cells #[.int .i64 op, .slice A2 k2 c2, .int .i64 m, .slice Bk kb cb] 61); rwa [size_setCell] at this)) mem4 (by simp only [maxLen]; omega) (by omega) (by omega) ?_; intro v2 w2 hown2 hg2 hat2))
                  have hj'' : i + 1 ≤ j' ∧ j' ≤ L.length := by
                    have h1 := HJ5.out
                    have h2 := hle
                    rw [HR5.out] at h2
                    simp only [List.length_drop, List.length_map] at h1 h2
                    omega
                  have hc6 : CtAt ((W5.setCell ⟨W2.heap.size, 3, none⟩ (.slice Bk kb cb)).alloc (.cells #[.int .i64 op, .slice A2 k2 c2, .int .i64 m, .slice Bk kb cb] 61)) ba j' := (Below.heap_alloc _ _ _ (by rw [size_setCell]; exact lt_of_block hc5)).trans ((Below.heap_setCell _ _ _ _ (by have := hb2.size; show ba ≠ W2.heap.size; omega)).trans hc5)
                  obtain ⟨r1, r2⟩ := push_on hx1 hltw OB1.out h16 hc6 hg2
                  go_roundw
                  case rel =>
                    refine ⟨v2, out ++ [⟨op, xs, m, inn⟩], cells ++ [.int .i64 op, .slice A2 k2 c2, .int .i64 m, .slice Bk kb cb], j', rfl, by rw [List.length_append]; exact hown2, ?_, r1, r2, hj''.2, by omega, by simp; omega, by rw [← HR5.out]; exact R.out⟩
                    refine row_push (row_at4 hltw RW1.out h16) hg2 hat2 HK2.out hkc ?_ hkb ?_
                    · refine HL2.out.mono (by omega) fun b hb hs => ⟨new_ok hbs1 OB1.out hb, ?_⟩
                      exact (Below.heap_alloc _ _ _ (by rw [size_setCell]; have := hA4.size; have := hx5.size; omega)).trans ((Below.heap_setCell _ _ _ _ (by show b ≠ W2.heap.size; omega)).trans ((hx5.block b (by have := hA4.size; omega) (by omega)).trans (hA4.block b hs)))
                    · refine HS5.out.mono fun b hb hs => ⟨new_ok hbs1 OB1.out (by have := hB4.size; omega), ?_⟩
                      exact (Below.heap_alloc _ _ _ (by rw [size_setCell]; exact hs)).trans (Below.heap_setCell _ _ _ _ (by have := lt_of_block hX4; show b ≠ W2.heap.size; omega))
                  case measure =>
                    rw [ctr_at r2, ctr_at HCI.out]
                    omega
      · obtain rfl : i = L.length := by omega
        have hnil : (L.map tl).drop L.length = [] := List.drop_eq_nil_of_le (by simp)
        have HB := HBK.out
        rw [hnil, bk_nil] at HB
        by_cases hd0 : 0 < deep
        · have hdI : (0 : Int) < (deep : Int) := by omega
          rw [if_pos hd0] at HB
          have R := Lib.hid HB.symm
          clear HB hnil hd0
          go_wp2_with (fail)
          go_ret2
          rw [R.out]
          exact ⟨hbx, rfl⟩
        · have hdI : ¬ (0 : Int) < (deep : Int) := by omega
          rw [if_neg hd0] at HB
          have R := Lib.hid HB.symm
          have HN := Lib.hid hnil
          clear HB hnil hd0
          go_wp2_with (fail)
          go_ret2
          rw [R.out]
          obtain ⟨A, k, c', rfl, hkc, hs⟩ := own_steps hown hrow (fun b hb => hb.1)
          exact ⟨hbx, A, k, c', L.length, rfl, hkc, hs, HCI.out, by simp, HN.out.symm⟩
end Go.Proofs.YtdidnlkilleljaaGreatDoor.Lg
