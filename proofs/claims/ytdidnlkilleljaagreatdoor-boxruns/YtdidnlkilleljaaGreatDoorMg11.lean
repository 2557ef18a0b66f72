/- Joined by mkmerged.py: LgRlay, LgBlock. -/
import Derived.Test.YtdidnlkilleljaaGreatDoorMg10
import Derived.Test.YtdidnlkilleljaaGreatDoorMg09
/- LgRlay, what a claim needs of it (prune.py). -/
namespace Go.Proofs.YtdidnlkilleljaaGreatDoor.Lg
open Go.RowKit
set_option linter.unusedVariables false
theorem set_last {vs : List Value} {u v : Value} {d : Nat} (h : vs.length = d) : (vs ++ [v]).set d u = vs ++ [u] := by
  subst h
  simp
theorem row_set4 {w : World} {b n ce ge : Nat} {cells : List Value} {a0 b0 c0 d0 : Value} (hl : cells.length = n * 4)
    (h : w.ownsRow b 61 4 (.slice (some ⟨ge, 0, none⟩) (n + 1) ce) (n + 1) (cells ++ [a0, b0, c0, d0])) (a' b' c' d' : Value) :
    ((((w.setCell ⟨ge, n * 4, none⟩ a').setCell ⟨ge, n * 4 + 1, none⟩ b').setCell ⟨ge, n * 4 + 2, none⟩ c').setCell ⟨ge, n * 4 + 3, none⟩ d').ownsRow b 61 4 (.slice (some ⟨ge, 0, none⟩) (n + 1) ce) (n + 1) (cells ++ [a', b', c', d']) := by
  have h1 := own_set h (j := n * 4) (by omega) a'
  have h2 := own_set h1 (j := n * 4 + 1) (by omega) b'
  have h3 := own_set h2 (j := n * 4 + 2) (by omega) c'
  have h4 := own_set h3 (j := n * 4 + 3) (by omega) d'
  rwa [set_four hl] at h4
theorem four_other {w : World} {B g s m : Nat} {T : TypeId} {v : Value} {xs : List Value} (h : w.ownsRow B T s v m xs) (hv : v.ownBlock ≠ some g) (i0 i1 i2 i3 : Nat) (a b c d : Value) :
    ((((w.setCell ⟨g, i0, none⟩ a).setCell ⟨g, i1, none⟩ b).setCell ⟨g, i2, none⟩ c).setCell ⟨g, i3, none⟩ d).ownsRow B T s v m xs :=
  ownsRow_setCell_other (ownsRow_setCell_other (ownsRow_setCell_other (ownsRow_setCell_other h hv _) hv _) hv _) hv _
theorem os_setCell (w : World) (a : Addr) (u : Value) : (w.setCell a u).os = w.os := rfl
theorem tape_setCell (w : World) (a : Addr) (u : Value) : (w.setCell a u).tape = w.tape := rfl
theorem output_setCell (w : World) (a : Addr) (u : Value) : (w.setCell a u).output = w.output := rfl
theorem heap_o {w : World} {x g i : Nat} {u : Value} (h : x ≠ g) : (w.setCell ⟨g, i, none⟩ u).heap[x]? = w.heap[x]? := Below.heap_setCell w ⟨g, i, none⟩ u x h
theorem laid_both {w4 wx : World} {b B0 n d ce ck ge gk : Nat} {cells vs : List Value} {z0 z1 z2 z3 u0 a b' c' d' : Value} (hl : cells.length = n * 4) (hd : vs.length = d) (hne : ge ≠ gk)
    (hs : w4.ownsRow b 61 4 (.slice (some ⟨ge, 0, none⟩) (n + 1) ce) (n + 1) (cells ++ [z0, z1, z2, z3]))
    (hk : w4.ownsRow B0 22 1 (.slice (some ⟨gk, 0, none⟩) (d + 1) ck) (d + 1) (vs ++ [u0]))
    (hx : wx = (((((w4.setCell ⟨ge, n * 4, none⟩ a).setCell ⟨ge, n * 4 + 1, none⟩ b').setCell ⟨ge, n * 4 + 2, none⟩ c').setCell ⟨ge, n * 4 + 3, none⟩ d').setCell ⟨gk, d, none⟩ (.slice (some ⟨ge, 0, none⟩) (n + 1) ce)) ∨
      wx = (((((w4.setCell ⟨gk, d, none⟩ (.slice (some ⟨ge, 0, none⟩) (n + 1) ce)).setCell ⟨ge, n * 4, none⟩ a).setCell ⟨ge, n * 4 + 1, none⟩ b').setCell ⟨ge, n * 4 + 2, none⟩ c').setCell ⟨ge, n * 4 + 3, none⟩ d')) :
    wx.ownsRow b 61 4 (.slice (some ⟨ge, 0, none⟩) (n + 1) ce) (n + 1) (cells ++ [a, b', c', d']) ∧
    wx.ownsRow B0 22 1 (.slice (some ⟨gk, 0, none⟩) (d + 1) ck) (d + 1) (vs ++ [.slice (some ⟨ge, 0, none⟩) (n + 1) ce]) ∧
    (∀ x, x ≠ ge → x ≠ gk → wx.heap[x]? = w4.heap[x]?) ∧ wx.heap.size = w4.heap.size ∧ wx.os = w4.os ∧ wx.tape = w4.tape ∧ wx.output = w4.output := by
  have e1 : (Value.slice (some ⟨ge, 0, none⟩) (n + 1) ce).ownBlock ≠ some gk := fun e => hne (Option.some.inj e)
  have e2 : (Value.slice (some ⟨gk, 0, none⟩) (d + 1) ck).ownBlock ≠ some ge := fun e => hne (Option.some.inj e).symm
  rcases hx with rfl | rfl
  · refine ⟨ownsRow_setCell_other (row_set4 hl hs _ _ _ _) e1 _, ?_, fun x h1 h2 => ?_, ?_, by simp only [os_setCell], by simp only [tape_setCell], by simp only [output_setCell]⟩
    · have := own_set (four_other hk e2 (n * 4) (n * 4 + 1) (n * 4 + 2) (n * 4 + 3) a b' c' d') (j := d) (by omega) (.slice (some ⟨ge, 0, none⟩) (n + 1) ce)
      rwa [set_last hd] at this
    · rw [heap_o h2, heap_o h1, heap_o h1, heap_o h1, heap_o h1]
    · simp only [size_setCell]
  · refine ⟨row_set4 hl (ownsRow_setCell_other hs e1 _) _ _ _ _, ?_, fun x h1 h2 => ?_, ?_, by simp only [os_setCell], by simp only [tape_setCell], by simp only [output_setCell]⟩
    · have := own_set hk (j := d) (by omega) (.slice (some ⟨ge, 0, none⟩) (n + 1) ce)
      rw [set_last hd] at this
      exact four_other this e2 _ _ _ _ _ _ _ _
    · rw [heap_o h1, heap_o h1, heap_o h1, heap_o h1, heap_o h2]
    · simp only [size_setCell]
theorem laid_one {w4 wx : World} {b B0 n d ce ck ge gk : Nat} {cells vs : List Value} {u0 a b' c' d' : Value} (hd : vs.length = d) (hne : ge ≠ gk)
    (hs : w4.ownsRow b 61 4 (.slice (some ⟨ge, 0, none⟩) (n + 1) ce) (n + 1) (cells ++ [a, b', c', d']))
    (hk : w4.ownsRow B0 22 1 (.slice (some ⟨gk, 0, none⟩) (d + 1) ck) (d + 1) (vs ++ [u0]))
    (hx : wx = w4.setCell ⟨gk, d, none⟩ (.slice (some ⟨ge, 0, none⟩) (n + 1) ce)) :
    wx.ownsRow b 61 4 (.slice (some ⟨ge, 0, none⟩) (n + 1) ce) (n + 1) (cells ++ [a, b', c', d']) ∧
    wx.ownsRow B0 22 1 (.slice (some ⟨gk, 0, none⟩) (d + 1) ck) (d + 1) (vs ++ [.slice (some ⟨ge, 0, none⟩) (n + 1) ce]) ∧
    (∀ x, x ≠ ge → x ≠ gk → wx.heap[x]? = w4.heap[x]?) ∧ wx.heap.size = w4.heap.size ∧ wx.os = w4.os ∧ wx.tape = w4.tape ∧ wx.output = w4.output := by
  have e1 : (Value.slice (some ⟨ge, 0, none⟩) (n + 1) ce).ownBlock ≠ some gk := fun e => hne (Option.some.inj e)
  subst hx
  refine ⟨ownsRow_setCell_other hs e1 _, ?_, fun x h1 h2 => ?_, ?_, rfl, rfl, rfl⟩
  · have := own_set hk (j := d) (by omega) (.slice (some ⟨ge, 0, none⟩) (n + 1) ce)
    rwa [set_last hd] at this
  · rw [heap_o h2]
  · simp only [size_setCell]
end Go.Proofs.YtdidnlkilleljaaGreatDoor.Lg
/- LgBlock, what a claim needs of it (prune.py). -/
namespace Go.Proofs.YtdidnlkilleljaaGreatDoor.Lg
open Go.RowKit
set_option linter.unusedVariables false
set_option maxRecDepth 100000
theorem infoT : (Tryz.prog.info? 61).map (fun i => (i.zero, i.size, i.bytes)) = some (some (.agg #[.int .i64 0, .slice none 0 0, .int .i64 0, .slice none 0 0]), 4, 64) := by kernel_rfl
set_option maxHeartbeats 4000000 in
theorem block_any (L : List ByteArray) (ba bl bb : Nat) (A : Option Addr) (c : Nat) (W0 : World) (hE : Env W0) (hba : W0.heap.size ≤ ba) (hL : L.length ≤ 64) (hp : ∀ p ∈ L, p.size ≤ 1000000) :
    ∀ (K deep j : Nat) (w : World), L.length - j ≤ K → j ≤ L.length → deep ≤ 4 → Below W0.heap.size W0 w → Cl w ba bl bb A c L → CtAt w ba j →
      Calls Tryz.prog 85 #[.int .i64 deep, .pointer (some ⟨ba, 0, none⟩), .pointer (some ⟨bl, 0, none⟩), .pointer (some ⟨bb, 0, none⟩)] w fun e w' => BlockSays w w' ba (L.map tl) (bk deep [] ((L.map tl).drop j)) e := by
  obtain ⟨i0, hi, hz0, hz1, hz2⟩ := info_parts infoT
  intro K
  induction K using Nat.strongRecOn with
  | ind K ih =>
    intro deep j w hK hj hd hW hcl hct
    have IH := Lib.hid ih
    clear ih
    have hltw : ba < w.heap.size := lt_of_block hct
    go_enter Tryz.func85, Tryz.ntmps85
    go_wp2_with (fail)
    go_loopw [7] (fun v0 wr => ∃ (v : Value) (out : List Stp) (cells : List Value) (i : Nat), v = v0 ∧ wr.ownsRow w.heap.size 61 4 v out.length cells ∧ RowAt wr (okR w.heap.size v) cells out ∧ BelowX w.heap.size ba w wr ∧ CtAt wr ba i ∧ i ≤ L.length ∧ j ≤ i ∧ out.length ≤ i ∧ bk deep out ((L.map tl).drop i) = bk deep [] ((L.map tl).drop j)) (fun _ wr => L.length - ctr wr ba)
    case atStart => exact ⟨_, [], [], j, rfl, World.ownsRow_nil _ _ _ _, .nil, .refl _ _ _, hct, hj, Nat.le_refl _, Nat.zero_le _, rfl⟩
    case round =>
      obtain ⟨v, out, cells, i, rfl, hown, hrow, hbx, hci, hiL, hji, hoi, hbk⟩ := hrel
      rename World => wr
      have hcl1 := hcl.keep hbx
      have hW1 : Below W0.heap.size W0 wr := hW.trans (hbx.below hW.size hba)
      have HBK := Lib.hid hbk
      have HCI := Lib.hid hci
      have HC1 := Lib.hid hcl1
      have f0 := cell_of_one hci
      have f1 := free_of_one hci
      have f2 := hcl1.lines
      have n1 := hcl1.nl
      have n2 := hcl1.nb
      have n3 : ¬ ba = bl := fun e => n1 e.symm
      have n4 : ¬ ba = bb := fun e => n2 e.symm
      clear hbk hci hcl1
      by_cases hlt : i < L.length
      · have hltI : (i : Int) < (L.length : Int) := by omega
        obtain ⟨ad, rfl, hadb, hline⟩ := HC1.out.line i hlt
        have hadb2 : ¬ ba = ad.block := fun e => hadb e.symm
        have DL := drop_line hlt
        have hszl := hp _ (List.getElem_mem hlt)
        have HB1 := HBK.out
        rw [DL] at HB1
        have HD := Lib.hid HB1
        clear HB1 DL
        generalize L[i] = line at *
        have hci2 : ∀ W, BelowX w.heap.size ba w W → W.heap[ba]? = (wr.setCell ⟨ba, 0, none⟩ (.int .i64 ((i + 1 : Nat) : Int))).heap[ba]? → CtAt W ba (i + 1) := fun W _ hW => hW.trans (one_setCell HCI.out)
        have CT2 := Lib.hid hci2
        have hb1 : ∀ u, BelowX w.heap.size ba w (wr.setCell ⟨ba, 0, none⟩ u) := fun u => hbx.setX rfl u
        have hown1 : ∀ u, (wr.setCell ⟨ba, 0, none⟩ u).ownsRow w.heap.size 61 4 v out.length cells := fun u => ownsRow_setCell_below hown hltw u
        have hrow1 : ∀ u, RowAt (wr.setCell ⟨ba, 0, none⟩ u) (okR w.heap.size v) cells out := fun u => hrow.mono fun b hb _ => ⟨hb, Below.heap_setCell _ _ _ _ (by have := hb.1; show b ≠ ba; omega)⟩
        have HI1 : Hid (((i : Int) + 1) = ((i + 1 : Nat) : Int)) := Lib.hid (by omega)
        have HBX := Lib.hid hb1
        have HOW := Lib.hid hown1
        have HRW := Lib.hid hrow1
        have hi64 : i + 1 ≤ 65 := by omega
        clear hci2 hb1 hown1 hrow1 hown hrow
        by_cases he : line = ⟨#[101, 110, 100]⟩
        · subst he
          by_cases hd0 : 0 < deep
          · have hdI : (0 : Int) < (deep : Int) := by omega
            have R : Hid (bk deep [] ((L.map tl).drop j) = .ok out ((L.map tl).drop (i + 1))) := Lib.hid (by rw [← HD.out, bk_cons, if_pos (show tl ⟨#[101, 110, 100]⟩ = endW from rfl), if_pos hd0])
            clear hd0
            go_wp2_with (fail)
            go_ret2
            rw [R.out]
            obtain ⟨A, k, c', rfl, hkc, hs⟩ := own_steps (HOW.out (.int .i64 ((i : Int) + 1))) (HRW.out _) (fun b hb => hb.1)
            exact ⟨HBX.out _, A, k, c', i + 1, rfl, hkc, hs, CT2.out _ (HBX.out _) (by rw [HI1.out]), by simp; omega, rfl⟩
          · obtain rfl : deep = 0 := by omega
            have R : Hid (bk 0 [] ((L.map tl).drop j) = .err 21) := Lib.hid (by rw [← HD.out, bk_cons, if_pos (show tl ⟨#[101, 110, 100]⟩ = endW from rfl), if_neg (by omega)])
            clear hd0
            go_wp2_with (fail)
            go_ret2
            rw [R.out]
            exact ⟨HBX.out _, rfl⟩
        · have hne : (line.toList == [101, 110, 100]) = false := beq_eq_false_iff_ne.2 (fun e => he (lit_in e))
          have hne1 : ¬ line.toList = [101, 110, 100] := fun e => he (lit_in e)
          have hne2 : ¬ tl line = endW := fun e => he (tl_inj e)
          obtain ⟨W1, eW1⟩ : ∃ W1, W1 = wr.setCell ⟨ba, 0, none⟩ (.int .i64 ((i : Int) + 1)) := ⟨_, rfl⟩
          have hx1 : BelowX w.heap.size ba w W1 := by rw [eW1]; exact HBX.out _
          have hW11 : Below W0.heap.size W0 W1 := hW.trans (hx1.below hW.size hba)
          have OW1 : Hid (W1.ownsRow w.heap.size 61 4 v out.length cells) := Lib.hid (by rw [eW1]; exact HOW.out _)
          have RW1 : Hid (RowAt W1 (okR w.heap.size v) cells out) := Lib.hid (by rw [eW1]; exact HRW.out _)
          have CI1 : Hid (CtAt W1 ba (i + 1)) := Lib.hid (CT2.out _ hx1 (by rw [eW1, HI1.out]))
          have hE1 := hE.below hW11
          have CL1 : Hid (Cl W1 ba bl bb (some ad) c L) := Lib.hid (hcl.keep hx1)
          have hbw1 : ba < W1.heap.size := lt_of_block CI1.out
          have hbs1 : w.heap.size ≤ W1.heap.size := hx1.size
          have OB1 : Hid (∀ g, v.ownBlock = some g → w.heap.size ≤ g ∧ g < W1.heap.size) := Lib.hid (fun g hg => own_block OW1.out hg)
          clear he HOW HRW HBX CT2
          have HDs := HD.out
          rw [bk_cons, if_neg hne2] at HDs
          clear hne2
          cases hso : stepOf (tl line) with
          | none =>
            have ST := Lib.hid (step_none hE1 hszl hso)
            rw [hso] at HDs
            have R := Lib.hid HDs.symm
            clear hso HDs
            go_wp2_with (go_at_call 86; rw [← eW1]; (with_reducible refine (ST.out).mono ?_); rintro e W2 ⟨⟨op, A2, k2, c2, n2', rfl⟩, hb2⟩; clear ST eW1)
            go_ret2
            rw [R.out]
            exact ⟨(hx1.trans ((BelowX.of hb2).mono hbs1)).alloc (by have := hb2.size; omega) _, rfl⟩
          | some st =>
            obtain ⟨op, xs, m⟩ := st
            have ST := Lib.hid (step_some hE1 hszl hso)
            rw [hso] at HDs
            simp only at HDs
            have HR2 := Lib.hid HDs
            clear hso HDs
            cases hop : opens op with
            | false =>
              have hnop : ¬ (op = 9 ∨ op = 10) := fun h => by rw [opens_iff.2 h] at hop; cases hop
              have R : Hid (bk deep (out ++ [⟨op, xs, m, []⟩]) ((L.map tl).drop (i + 1)) = bk deep [] ((L.map tl).drop j)) := Lib.hid (by
                have := HR2.out
                rw [if_neg hnop] at this
                exact this)
              have BG0 := fun (A2 : Option Addr) (k2 c2 : Nat) W => begins_any op m A2 none k2 c2 0 0 W
              simp only [hop] at BG0
              have BG := Lib.hid BG0
              clear hop hnop BG0
              go_wp2_with (first | (go_at_call 86; rw [← eW1]; (with_reducible refine (ST.out).mono ?_); rintro e W2 ⟨⟨A2, k2, c2, rfl, hk2, hkc, hl2⟩, hb2⟩; have HL2 := Lib.hid hl2; have HK2 := Lib.hid hk2; clear ST eW1 hl2 hk2; have hX0 : (W2.alloc (.cells #[.int .i64 op, .slice A2 k2 c2, .int .i64 m, .slice none 0 0] 61)).heap[W2.heap.size]? = some (.cells #[.int .i64 op, .slice A2 k2 c2, .int .i64 m, .slice none 0 0] 61 (0, 0)) := heap_new W2 _) | (go_at_call 87; (with_reducible refine (BG.out _ _ _ _).mono ?_); rintro e W3 ⟨rfl, hb3⟩; have hX3 : W3.heap[W2.heap.size]? = some (.cells #[.int .i64 op, .slice A2 k2 c2, .int .i64 m, .slice none 0 0] 61 (0, 0)) := (hb3.block _ (by simp)).trans hX0; obtain ⟨x0, x1, x2, x3, _, _, _, _⟩ := four hX3; have hA3 : Below W2.heap.size W2 W3 := ((Below.refl _ _).alloc (Nat.le_refl _) _).trans (hb3.mono (by simp))) | (go_at_call 87; (with_reducible refine (BG.out _ _ _ _).mono ?_); rintro e W4 ⟨rfl, hb4⟩; have hX4 : W4.heap[W2.heap.size]? = some (.cells #[.int .i64 op, .slice A2 k2 c2, .int .i64 m, .slice none 0 0] 61 (0, 0)) := (hb4.block _ (lt_of_block hX3)).trans hX3; obtain ⟨z0, z1, z2, z3, _, _, _, _⟩ := four hX4; have hA4 : Below W2.heap.size W2 W4 := hA3.trans (hb4.mono hA3.size); have hB4 : Below W1.heap.size W1 W4 := hb2.trans (hA4.mono hb2.size); have h14 := (BelowX.of (x := ba) hB4).alloc hB4.size (.cells #[.int .i64 op, .slice A2 k2 c2, .int .i64 m, .slice none 0 0] 61); have hsz4 := hB4.size) | (at_builtin; refine wpList_append_any _ rfl (.tmp 62) (.tmp 64) _ rfl w.heap.size 61 i0 _ 4 64 Tryz.underlying22 hi hz0 hz1 hz2 rfl (by omega) v out.length cells rfl (own_at4 hltw OW1.out h14) _ (some ⟨W4.heap.size, 0, none⟩) 1 1 [.int .i64 op, .slice A2 k2 c2, .int .i64 m, .slice none 0 0] rfl (reads4 (heap_alloc_new W4 _)) mem4 (by simp only [maxLen]; omega) (by omega) (by simp; omega) ?_; intro v2 w2 hown2 hg2 hat2))
              go_roundw
              case rel =>
                obtain ⟨p1, p2⟩ := push_on hx1 hltw OB1.out h14 ((Below.heap_alloc _ _ _ (by omega)).trans ((hB4.block ba hbw1).trans CI1.out)) hg2
                refine ⟨v2, out ++ [⟨op, xs, m, []⟩], cells ++ [.int .i64 op, .slice A2 k2 c2, .int .i64 m, .slice none 0 0], i + 1, rfl, by rw [List.length_append]; exact hown2, ?_, p1, p2, by omega, by omega, by simp; omega, R.out⟩
                refine row_push (row_at4 hltw RW1.out h14) hg2 hat2 HK2.out hkc ?_ (Nat.le_refl _) ⟨rfl, [], Lies.none_, .nil⟩
                exact HL2.out.mono (by omega) fun b hb hs => ⟨new_ok hbs1 OB1.out hb, (Below.heap_alloc _ _ _ (by have := hA4.size; omega)).trans (hA4.block b hs)⟩
              case measure =>
                obtain ⟨p1, p2⟩ := push_on hx1 hltw OB1.out h14 ((Below.heap_alloc _ _ _ (by omega)).trans ((hB4.block ba hbw1).trans CI1.out)) hg2
                rw [ctr_at p2, ctr_at HCI.out]
                omega
            | true =>
              have hyop : op = 9 ∨ op = 10 := opens_iff.1 hop
              have BG0 := fun (A2 : Option Addr) (k2 c2 : Nat) W => begins_any op m A2 none k2 c2 0 0 W
              simp only [hop] at BG0
              have BG := Lib.hid BG0
              have HR3 := HR2.out
              rw [if_pos hyop] at HR3
              clear hop hyop BG0
              by_cases hd4 : 4 ≤ deep
              · have hdI : (4 : Int) ≤ (deep : Int) := by omega
                rw [if_pos hd4] at HR3
                have R := Lib.hid HR3.symm
                clear HR3 hd4
                go_wp2_with (first | (go_at_call 86; rw [← eW1]; (with_reducible refine (ST.out).mono ?_); rintro e W2 ⟨⟨A2, k2, c2, rfl, hk2, hkc, hl2⟩, hb2⟩; have HL2 := Lib.hid hl2; have HK2 := Lib.hid hk2; clear ST eW1 hl2 hk2; have hX0 : (W2.alloc (.cells #[.int .i64 op, .slice A2 k2 c2, .int .i64 m, .slice none 0 0] 61)).heap[W2.heap.size]? = some (.cells #[.int .i64 op, .slice A2 k2 c2, .int .i64 m, .slice none 0 0] 61 (0, 0)) := heap_new W2 _) | (go_at_call 87; (with_reducible refine (BG.out _ _ _ _).mono ?_); rintro e W3 ⟨rfl, hb3⟩; have hX3 : W3.heap[W2.heap.size]? = some (.cells #[.int .i64 op, .slice A2 k2 c2, .int .i64 m, .slice none 0 0] 61 (0, 0)) := (hb3.block _ (by simp)).trans hX0; obtain ⟨x0, x1, x2, x3, _, _, _, _⟩ := four hX3; have hA3 : Below W2.heap.size W2 W3 := ((Below.refl _ _).alloc (Nat.le_refl _) _).trans (hb3.mono (by simp))))
                go_ret2
                rw [R.out]
                exact ⟨hx1.trans ((BelowX.of (hb2.trans (hA3.mono hb2.size))).mono hbs1), rfl⟩
              · have hdI : ¬ (4 : Int) ≤ (deep : Int) := by omega
                rw [if_neg hd4] at HR3
                have IHW : Hid (∀ W, Below W1.heap.size W1 W → Calls Tryz.prog 85 #[.int .i64 ((deep : Int) + 1), .pointer (some ⟨ba, 0, none⟩), .pointer (some ⟨bl, 0, none⟩), .pointer (some ⟨bb, 0, none⟩)] W fun e w' => BlockSays W w' ba (L.map tl) (bk (deep + 1) [] ((L.map tl).drop (i + 1))) e) := Lib.hid fun W hW => by
                  have := IH.out (L.length - (i + 1)) (by omega) (deep + 1) (i + 1) W (Nat.le_refl _) (by omega) (by omega) (hW11.trans (hW.mono hW11.size)) (CL1.out.keep (.of hW)) ((hW.block ba hbw1).trans CI1.out)
                  rwa [show (((deep + 1 : Nat)) : Int) = (deep : Int) + 1 by omega] at this
                clear hd4
                cases hin : bk (deep + 1) [] ((L.map tl).drop (i + 1)) with
                | err ek =>
                  have hek : ek ≠ 0 := bk_err _ _ _ _ _ (Nat.le_refl _) hin
                  have g3 : ((ek : Int) != 0) = true := by simp; omega
                  rw [hin] at HR3
                  have R := Lib.hid HR3.symm
                  have IHE : Hid (∀ W, Below W1.heap.size W1 W → Calls Tryz.prog 85 #[.int .i64 ((deep : Int) + 1), .pointer (some ⟨ba, 0, none⟩), .pointer (some ⟨bl, 0, none⟩), .pointer (some ⟨bb, 0, none⟩)] W fun e w' => e = .returned (.tuple #[.slice none 0 0, .int .i64 ek]) ∧ BelowX W.heap.size ba W w') := Lib.hid fun W hW => (IHW.out W hW).mono (by
                    rintro e w' ⟨h1, h2⟩
                    rw [hin] at h2
                    exact ⟨h2, h1⟩)
                  clear HR3 hek hin IHW
                  go_wp2_with (first | (go_at_call 86; rw [← eW1]; (with_reducible refine (ST.out).mono ?_); rintro e W2 ⟨⟨A2, k2, c2, rfl, hk2, hkc, hl2⟩, hb2⟩; have HL2 := Lib.hid hl2; have HK2 := Lib.hid hk2; clear ST eW1 hl2 hk2; have hX0 : (W2.alloc (.cells #[.int .i64 op, .slice A2 k2 c2, .int .i64 m, .slice none 0 0] 61)).heap[W2.heap.size]? = some (.cells #[.int .i64 op, .slice A2 k2 c2, .int .i64 m, .slice none 0 0] 61 (0, 0)) := heap_new W2 _) | (go_at_call 87; (with_reducible refine (BG.out _ _ _ _).mono ?_); rintro e W3 ⟨rfl, hb3⟩; have hX3 : W3.heap[W2.heap.size]? = some (.cells #[.int .i64 op, .slice A2 k2 c2, .int .i64 m, .slice none 0 0] 61 (0, 0)) := (hb3.block _ (by simp)).trans hX0; obtain ⟨x0, x1, x2, x3, _, _, _, _⟩ := four hX3; have hA3 : Below W2.heap.size W2 W3 := ((Below.refl _ _).alloc (Nat.le_refl _) _).trans (hb3.mono (by simp))) | (go_at_call 87; (with_reducible refine (BG.out _ _ _ _).mono ?_); rintro e W4 ⟨rfl, hb4⟩; have hX4 : W4.heap[W2.heap.size]? = some (.cells #[.int .i64 op, .slice A2 k2 c2, .int .i64 m, .slice none 0 0] 61 (0, 0)) := (hb4.block _ (lt_of_block hX3)).trans hX3; obtain ⟨z0, z1, z2, z3, _, _, _, _⟩ := four hX4; have hA4 : Below W2.heap.size W2 W4 := hA3.trans (hb4.mono hA3.size); have hB4 : Below W1.heap.size W1 W4 := hb2.trans (hA4.mono hb2.size); have h14 := (BelowX.of (x := ba) hB4).alloc hB4.size (.cells #[.int .i64 op, .slice A2 k2 c2, .int .i64 m, .slice none 0 0] 61); have hsz4 := hB4.size; have s4 := (CL1.out.keep (.of hB4)).self) | (go_at_call 85; (with_reducible refine (IHE.out _ hB4).mono ?_); rintro e W5 ⟨rfl, hx5⟩))
                  go_ret2
                  rw [R.out]
                  exact ⟨hx1.trans (((BelowX.of hB4).trans (hx5.mono hB4.size)).mono hbs1), rfl⟩
                | ok inn rest' =>
                  have hle := bk_le hin
                  rw [hin] at HR3
                  have R := Lib.hid HR3
                  have IHO : Hid (∀ W, Below W1.heap.size W1 W → Calls Tryz.prog 85 #[.int .i64 ((deep : Int) + 1), .pointer (some ⟨ba, 0, none⟩), .pointer (some ⟨bl, 0, none⟩), .pointer (some ⟨bb, 0, none⟩)] W fun e w' => (∃ A k c j, e = .returned (.tuple #[.slice A k c, .int .i64 0]) ∧ k ≤ c ∧ StepsAt w' (fun b => W.heap.size ≤ b) A k inn ∧ CtAt w' ba j ∧ j ≤ (L.map tl).length ∧ rest' = (L.map tl).drop j) ∧ BelowX W.heap.size ba W w') := Lib.hid fun W hW => (IHW.out W hW).mono (by
                    rintro e w' ⟨h1, h2⟩
                    rw [hin] at h2
                    exact ⟨h2, h1⟩)
                  clear HR3 hin IHW
                  go_wp2_with (first | (go_at_call 86; rw [← eW1]; (with_reducible refine (ST.out).mono ?_); rintro e W2 ⟨⟨A2, k2, c2, rfl, hk2, hkc, hl2⟩, hb2⟩; have HL2 := Lib.hid hl2; have HK2 := Lib.hid hk2; clear ST eW1 hl2 hk2; have hX0 : (W2.alloc (.cells #[.int .i64 op, .slice A2 k2 c2, .int .i64 m, .slice none 0 0] 61)).heap[W2.heap.size]? = some (.cells #[.int .i64 op, .slice A2 k2 c2, .int .i64 m, .slice none 0 0] 61 (0, 0)) := heap_new W2 _) | (go_at_call 87; (with_reducible refine (BG.out _ _ _ _).mono ?_); rintro e W3 ⟨rfl, hb3⟩; have hX3 : W3.heap[W2.heap.size]? = some (.cells #[.int .i64 op, .slice A2 k2 c2, .int .i64 m, .slice none 0 0] 61 (0, 0)) := (hb3.block _ (by simp)).trans hX0; obtain ⟨x0, x1, x2, x3, _, _, _, _⟩ := four hX3; have hA3 : Below W2.heap.size W2 W3 := ((Below.refl _ _).alloc (Nat.le_refl _) _).trans (hb3.mono (by simp))) | (go_at_call 87; (with_reducible refine (BG.out _ _ _ _).mono ?_); rintro e W4 ⟨rfl, hb4⟩; have hX4 : W4.heap[W2.heap.size]? = some (.cells #[.int .i64 op, .slice A2 k2 c2, .int .i64 m, .slice none 0 0] 61 (0, 0)) := (hb4.block _ (lt_of_block hX3)).trans hX3; obtain ⟨z0, z1, z2, z3, _, _, _, _⟩ := four hX4; have hA4 : Below W2.heap.size W2 W4 := hA3.trans (hb4.mono hA3.size); have hB4 : Below W1.heap.size W1 W4 := hb2.trans (hA4.mono hb2.size); have h14 := (BelowX.of (x := ba) hB4).alloc hB4.size (.cells #[.int .i64 op, .slice A2 k2 c2, .int .i64 m, .slice none 0 0] 61); have hsz4 := hB4.size; have s4 := (CL1.out.keep (.of hB4)).self) | (go_at_call 85; (with_reducible refine (IHO.out _ hB4).mono ?_); rintro e W5 ⟨⟨Bk, kb, cb, j', rfl, hkb, hs5, hc5, hj5, hr5⟩, hx5⟩; have HS5 := Lib.hid hs5; have HR5 := Lib.hid hr5; have HJ5 := Lib.hid hj5; clear hs5 hr5 hj5; have hX5 : W5.heap[W2.heap.size]? = some (.cells #[.int .i64 op, .slice A2 k2 c2, .int .i64 m, .slice none 0 0] 61 (0, 0)) := (hx5.block _ (lt_of_block hX4) (by have := hb2.size; omega)).trans hX4; obtain ⟨q0, q1, q2, q3, p0, p1, p2, p3⟩ := four hX5; have h15 : BelowX W1.heap.size ba W1 (W5.setCell ⟨W2.heap.size, 3, none⟩ (.slice Bk kb cb)) := ((BelowX.of hB4).trans (hx5.mono hB4.size)).setCell hb2.size _; have h16 := h15.alloc h15.size (.cells #[.int .i64 op, .slice A2 k2 c2, .int .i64 m, .slice Bk kb cb] 61); have hsz5 := h16.size) | (at_builtin; refine wpList_append_any _ rfl (.tmp 62) (.tmp 64) _ rfl w.heap.size 61 i0 _ 4 64 Tryz.underlying22 hi hz0 hz1 hz2 rfl (by omega) v out.length cells rfl (own_at4 hltw OW1.out h16) _ (some ⟨W5.heap.size, 0, none⟩) 1 1 [.int .i64 op, .slice A2 k2 c2, .int .i64 m, .slice Bk kb cb] rfl (reads4 (g := W5.heap.size) (by have := heap_alloc_new (W5.setCell ⟨W2.heap.size, 3, none⟩ (.slice Bk kb cb)) (.cells #[.int .i64 op, .slice A2 k2 c2, .int .i64 m, .slice Bk kb cb] 61); rwa [size_setCell] at this)) mem4 (by simp only [maxLen]; omega) (by omega) (by omega) ?_; intro v2 w2 hown2 hg2 hat2))
                  have hj'' : i + 1 ≤ j' ∧ j' ≤ L.length := by
                    have h1 := HJ5.out
                    have h2 := hle
                    rw [HR5.out] at h2
                    simp only [List.length_drop, List.length_map] at h1 h2
                    omega
                  have hc6 : CtAt ((W5.setCell ⟨W2.heap.size, 3, none⟩ (.slice Bk kb cb)).alloc (.cells #[.int .i64 op, .slice A2 k2 c2, .int .i64 m, .slice Bk kb cb] 61)) ba j' := (Below.heap_alloc _ _ _ (by rw [size_setCell]; exact lt_of_block hc5)).trans ((Below.heap_setCell _ _ _ _ (by have := hb2.size; show ba ≠ W2.heap.size; omega)).trans hc5)
                  obtain ⟨r1, r2⟩ := push_on hx1 hltw OB1.out h16 hc6 hg2
                  go_roundw
                  case rel =>
                    refine ⟨v2, out ++ [⟨op, xs, m, inn⟩], cells ++ [.int .i64 op, .slice A2 k2 c2, .int .i64 m, .slice Bk kb cb], j', rfl, by rw [List.length_append]; exact hown2, ?_, r1, r2, hj''.2, by omega, by simp; omega, by rw [← HR5.out]; exact R.out⟩
                    refine row_push (row_at4 hltw RW1.out h16) hg2 hat2 HK2.out hkc ?_ hkb ?_
                    · refine HL2.out.mono (by omega) fun b hb hs => ⟨new_ok hbs1 OB1.out hb, ?_⟩
                      exact (Below.heap_alloc _ _ _ (by rw [size_setCell]; have := hA4.size; have := hx5.size; omega)).trans ((Below.heap_setCell _ _ _ _ (by show b ≠ W2.heap.size; omega)).trans ((hx5.block b (by have := hA4.size; omega) (by omega)).trans (hA4.block b hs)))
                    · refine HS5.out.mono fun b hb hs => ⟨new_ok hbs1 OB1.out (by have := hB4.size; omega), ?_⟩
                      exact (Below.heap_alloc _ _ _ (by rw [size_setCell]; exact hs)).trans (Below.heap_setCell _ _ _ _ (by have := lt_of_block hX4; show b ≠ W2.heap.size; omega))
                  case measure =>
                    rw [ctr_at r2, ctr_at HCI.out]
                    omega
      · obtain rfl : i = L.length := by omega
        have hnil : (L.map tl).drop L.length = [] := List.drop_eq_nil_of_le (by simp)
        have HB := HBK.out
        rw [hnil, bk_nil] at HB
        by_cases hd0 : 0 < deep
        · have hdI : (0 : Int) < (deep : Int) := by omega
          rw [if_pos hd0] at HB
          have R := Lib.hid HB.symm
          clear HB hnil hd0
          go_wp2_with (fail)
          go_ret2
          rw [R.out]
          exact ⟨hbx, rfl⟩
        · have hdI : ¬ (0 : Int) < (deep : Int) := by omega
          rw [if_neg hd0] at HB
          have R := Lib.hid HB.symm
          have HN := Lib.hid hnil
          clear HB hnil hd0
          go_wp2_with (fail)
          go_ret2
          rw [R.out]
          obtain ⟨A, k, c', rfl, hkc, hs⟩ := own_steps hown hrow (fun b hb => hb.1)
          exact ⟨hbx, A, k, c', L.length, rfl, hkc, hs, HCI.out, by simp, HN.out.symm⟩
end Go.Proofs.YtdidnlkilleljaaGreatDoor.Lg
