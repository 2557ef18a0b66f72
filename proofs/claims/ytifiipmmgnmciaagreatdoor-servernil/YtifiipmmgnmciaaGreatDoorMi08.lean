/- Joined by mkmerged.py: LgBlock, LgParse, LgDigits. -/
import Derived.Test.YtifiipmmgnmciaaGreatDoorMi07
import Derived.Test.YtifiipmmgnmciaaGreatDoorMiKt
import Derived.Test.YtifiipmmgnmciaaGreatDoorMi03
/- LgBlock, what a claim needs of it (prune.py). -/
namespace Go.Proofs.YtifiipmmgnmciaaGreatDoor.Lg
open Go.RowKit
set_option linter.unusedVariables false
set_option maxRecDepth 100000
theorem infoT : (Tryz.prog.info? 186).map (fun i => (i.zero, i.size, i.bytes)) = some (some (.agg #[.int .i64 0, .slice none 0 0, .int .i64 0, .slice none 0 0]), 4, 64) := by kernel_rfl
set_option maxHeartbeats 4000000 in
theorem block_any (L : List ByteArray) (ba bl bb : Nat) (A : Option Addr) (c : Nat) (W0 : World) (hE : Env W0) (hba : W0.heap.size ≤ ba) (hL : L.length ≤ 64) (hp : ∀ p ∈ L, p.size ≤ 1000000) :
    ∀ (K deep j : Nat) (w : World), L.length - j ≤ K → j ≤ L.length → deep ≤ 4 → Below W0.heap.size W0 w → Cl w ba bl bb A c L → CtAt w ba j →
      Calls Tryz.prog 86 #[.int .i64 deep, .pointer (some ⟨ba, 0, none⟩), .pointer (some ⟨bl, 0, none⟩), .pointer (some ⟨bb, 0, none⟩)] w fun e w' => BlockSays w w' ba (L.map tl) (bk deep [] ((L.map tl).drop j)) e := by
  obtain ⟨i0, hi, hz0, hz1, hz2⟩ := info_parts infoT
  intro K
  induction K using Nat.strongRecOn with
  | ind K ih =>
    intro deep j w hK hj hd hW hcl hct
    have IH := Lib.hid ih
    clear ih
    have hltw : ba < w.heap.size := lt_of_block hct
    go_enter Tryz.func86, Tryz.ntmps86
    go_wp2_with (fail)
    go_loopw [7] (fun v0 wr => ∃ (v : Value) (out : List Stp) (cells : List Value) (i : Nat), v = v0 ∧ wr.ownsRow w.heap.size 186 4 v out.length cells ∧ RowAt wr (okR w.heap.size v) cells out ∧ BelowX w.heap.size ba w wr ∧ CtAt wr ba i ∧ i ≤ L.length ∧ j ≤ i ∧ out.length ≤ i ∧ bk deep out ((L.map tl).drop i) = bk deep [] ((L.map tl).drop j)) (fun _ wr => L.length - ctr wr ba)
    case atStart => exact ⟨_, [], [], j, rfl, World.ownsRow_nil _ _ _ _, .nil, .refl _ _ _, hct, hj, Nat.le_refl _, Nat.zero_le _, rfl⟩
    case round =>
      obtain ⟨v, out, cells, i, rfl, hown, hrow, hbx, hci, hiL, hji, hoi, hbk⟩ := hrel
      rename World => wr
      have hcl1 := hcl.keep hbx
      have hW1 : Below W0.heap.size W0 wr := hW.trans (hbx.below hW.size hba)
      have HBK := Lib.hid hbk
      have HCI := Lib.hid hci
      have HC1 := Lib.hid hcl1
      have f0 := cell_of_one hci
      have f1 := free_of_one hci
      have f2 := hcl1.lines
      have n1 := hcl1.nl
      have n2 := hcl1.nb
      have n3 : ¬ ba = bl := fun e => n1 e.symm
      have n4 : ¬ ba = bb := fun e => n2 e.symm
      clear hbk hci hcl1
      by_cases hlt : i < L.length
      · have hltI : (i : Int) < (L.length : Int) := by omega
        obtain ⟨ad, rfl, hadb, hline⟩ := HC1.out.line i hlt
        have hadb2 : ¬ ba = ad.block := fun e => hadb e.symm
        have DL := drop_line hlt
        have hszl := hp _ (List.getElem_mem hlt)
        have HB1 := HBK.out
        rw [DL] at HB1
        have HD := Lib.hid HB1
        clear HB1 DL
        generalize L[i] = line at *
        have hci2 : ∀ W, BelowX w.heap.size ba w W → W.heap[ba]? = (wr.setCell ⟨ba, 0, none⟩ (.int .i64 ((i + 1 : Nat) : Int))).heap[ba]? → CtAt W ba (i + 1) := fun W _ hW => hW.trans (one_setCell HCI.out)
        have CT2 := Lib.hid hci2
        have hb1 : ∀ u, BelowX w.heap.size ba w (wr.setCell ⟨ba, 0, none⟩ u) := fun u => hbx.setX rfl u
        have hown1 : ∀ u, (wr.setCell ⟨ba, 0, none⟩ u).ownsRow w.heap.size 186 4 v out.length cells := fun u => ownsRow_setCell_below hown hltw u
        have hrow1 : ∀ u, RowAt (wr.setCell ⟨ba, 0, none⟩ u) (okR w.heap.size v) cells out := fun u => hrow.mono fun b hb _ => ⟨hb, Below.heap_setCell _ _ _ _ (by have := hb.1; show b ≠ ba; omega)⟩
        have HI1 : Hid (((i : Int) + 1) = ((i + 1 : Nat) : Int)) := Lib.hid (by omega)
        have HBX := Lib.hid hb1
        have HOW := Lib.hid hown1
        have HRW := Lib.hid hrow1
        have hi64 : i + 1 ≤ 65 := by omega
        clear hci2 hb1 hown1 hrow1 hown hrow
        by_cases he : line = ⟨#[101, 110, 100]⟩
        · subst he
          by_cases hd0 : 0 < deep
          · have hdI : (0 : Int) < (deep : Int) := by omega
            have R : Hid (bk deep [] ((L.map tl).drop j) = .ok out ((L.map tl).drop (i + 1))) := Lib.hid (by rw [← HD.out, bk_cons, if_pos (show tl ⟨#[101, 110, 100]⟩ = endW from rfl), if_pos hd0])
            clear hd0
            go_wp2_with (fail)
            go_ret2
            rw [R.out]
            obtain ⟨A, k, c', rfl, hkc, hs⟩ := own_steps (HOW.out (.int .i64 ((i : Int) + 1))) (HRW.out _) (fun b hb => hb.1)
            exact ⟨HBX.out _, A, k, c', i + 1, rfl, hkc, hs, CT2.out _ (HBX.out _) (by rw [HI1.out]), by simp; omega, rfl⟩
          · obtain rfl : deep = 0 := by omega
            have R : Hid (bk 0 [] ((L.map tl).drop j) = .err 21) := Lib.hid (by rw [← HD.out, bk_cons, if_pos (show tl ⟨#[101, 110, 100]⟩ = endW from rfl), if_neg (by omega)])
            clear hd0
            go_wp2_with (fail)
            go_ret2
            rw [R.out]
            exact ⟨HBX.out _, rfl⟩
        · have hne : (line.toList == [101, 110, 100]) = false := beq_eq_false_iff_ne.2 (fun e => he (lit_in e))
          have hne1 : ¬ line.toList = [101, 110, 100] := fun e => he (lit_in e)
          have hne2 : ¬ tl line = endW := fun e => he (tl_inj e)
          obtain ⟨W1, eW1⟩ : ∃ W1, W1 = wr.setCell ⟨ba, 0, none⟩ (.int .i64 ((i : Int) + 1)) := ⟨_, rfl⟩
          have hx1 : BelowX w.heap.size ba w W1 := by rw [eW1]; exact HBX.out _
          have hW11 : Below W0.heap.size W0 W1 := hW.trans (hx1.below hW.size hba)
          have OW1 : Hid (W1.ownsRow w.heap.size 186 4 v out.length cells) := Lib.hid (by rw [eW1]; exact HOW.out _)
          have RW1 : Hid (RowAt W1 (okR w.heap.size v) cells out) := Lib.hid (by rw [eW1]; exact HRW.out _)
          have CI1 : Hid (CtAt W1 ba (i + 1)) := Lib.hid (CT2.out _ hx1 (by rw [eW1, HI1.out]))
          have hE1 := hE.below hW11
          have CL1 : Hid (Cl W1 ba bl bb (some ad) c L) := Lib.hid (hcl.keep hx1)
          have hbw1 : ba < W1.heap.size := lt_of_block CI1.out
          have hbs1 : w.heap.size ≤ W1.heap.size := hx1.size
          have OB1 : Hid (∀ g, v.ownBlock = some g → w.heap.size ≤ g ∧ g < W1.heap.size) := Lib.hid (fun g hg => own_block OW1.out hg)
          clear he HOW HRW HBX CT2
          have HDs := HD.out
          rw [bk_cons, if_neg hne2] at HDs
          clear hne2
          cases hso : stepOf (tl line) with
          | none =>
            have ST := Lib.hid (step_none hE1 hszl hso)
            rw [hso] at HDs
            have R := Lib.hid HDs.symm
            clear hso HDs
            go_wp2_with (go_at_call 87; rw [← eW1]; (with_reducible refine (ST.out).mono ?_); rintro e W2 ⟨⟨op, A2, k2, c2, n2', rfl⟩, hb2⟩; clear ST eW1)
            go_ret2
            rw [R.out]
            exact ⟨(hx1.trans ((BelowX.of hb2).mono hbs1)).alloc (by have := hb2.size; omega) _, rfl⟩
          | some st =>
            obtain ⟨op, xs, m⟩ := st
            have ST := Lib.hid (step_some hE1 hszl hso)
            rw [hso] at HDs
            simp only at HDs
            have HR2 := Lib.hid HDs
            clear hso HDs
            cases hop : opens op with
            | false =>
              have hnop : ¬ (op = 9 ∨ op = 10) := fun h => by rw [opens_iff.2 h] at hop; cases hop
              have R : Hid (bk deep (out ++ [⟨op, xs, m, []⟩]) ((L.map tl).drop (i + 1)) = bk deep [] ((L.map tl).drop j)) := Lib.hid (by
                have := HR2.out
                rw [if_neg hnop] at this
                exact this)
              have BG0 := fun (A2 : Option Addr) (k2 c2 : Nat) W => begins_any op m A2 none k2 c2 0 0 W
              simp only [hop] at BG0
              have BG := Lib.hid BG0
              clear hop hnop BG0
              go_wp2_with (first | (go_at_call 87; rw [← eW1]; (with_reducible refine (ST.out).mono ?_); rintro e W2 ⟨⟨A2, k2, c2, rfl, hk2, hkc, hl2⟩, hb2⟩; have HL2 := Lib.hid hl2; have HK2 := Lib.hid hk2; clear ST eW1 hl2 hk2; have hX0 : (W2.alloc (.cells #[.int .i64 op, .slice A2 k2 c2, .int .i64 m, .slice none 0 0] 186)).heap[W2.heap.size]? = some (.cells #[.int .i64 op, .slice A2 k2 c2, .int .i64 m, .slice none 0 0] 186 (0, 0)) := heap_new W2 _) | (go_at_call 88; (with_reducible refine (BG.out _ _ _ _).mono ?_); rintro e W3 ⟨rfl, hb3⟩; have hX3 : W3.heap[W2.heap.size]? = some (.cells #[.int .i64 op, .slice A2 k2 c2, .int .i64 m, .slice none 0 0] 186 (0, 0)) := (hb3.block _ (by simp)).trans hX0; obtain ⟨x0, x1, x2, x3, _, _, _, _⟩ := four hX3; have hA3 : Below W2.heap.size W2 W3 := ((Below.refl _ _).alloc (Nat.le_refl _) _).trans (hb3.mono (by simp))) | (go_at_call 88; (with_reducible refine (BG.out _ _ _ _).mono ?_); rintro e W4 ⟨rfl, hb4⟩; have hX4 : W4.heap[W2.heap.size]? = some (.cells #[.int .i64 op, .slice A2 k2 c2, .int .i64 m, .slice none 0 0] 186 (0, 0)) := (hb4.block _ (lt_of_block hX3)).trans hX3; obtain ⟨z0, z1, z2, z3, _, _, _, _⟩ := four hX4; have hA4 : Below W2.heap.size W2 W4 := hA3.trans (hb4.mono hA3.size); have hB4 : Below W1.heap.size W1 W4 := hb2.trans (hA4.mono hb2.size); have h14 := (BelowX.of (x := ba) hB4).alloc hB4.size (.cells #[.int .i64 op, .slice A2 k2 c2, .int .i64 m, .slice none 0 0] 186); have hsz4 := hB4.size) | (at_builtin; refine wpList_append_any _ rfl (.tmp 62) (.tmp 64) _ rfl w.heap.size 186 i0 _ 4 64 Tryz.underlying123 hi hz0 hz1 hz2 rfl (by omega) v out.length cells rfl (own_at4 hltw OW1.out h14) _ (some ⟨W4.heap.size, 0, none⟩) 1 1 [.int .i64 op, .slice A2 k2 c2, .int .i64 m, .slice none 0 0] rfl (reads4 (heap_alloc_new W4 _)) mem4 (by simp only [maxLen]; omega) (by omega) (by simp; omega) ?_; intro v2 w2 hown2 hg2 hat2))
              go_roundw
              case rel =>
                obtain ⟨p1, p2⟩ := push_on hx1 hltw OB1.out h14 ((Below.heap_alloc _ _ _ (by omega)).trans ((hB4.block ba hbw1).trans CI1.out)) hg2
                refine ⟨v2, out ++ [⟨op, xs, m, []⟩], cells ++ [.int .i64 op, .slice A2 k2 c2, .int .i64 m, .slice none 0 0], i + 1, rfl, by rw [List.length_append]; exact hown2, ?_, p1, p2, by omega, by omega, by simp; omega, R.out⟩
                refine row_push (row_at4 hltw RW1.out h14) hg2 hat2 HK2.out hkc ?_ (Nat.le_refl _) ⟨rfl, [], Lies.none_, .nil⟩
                exact HL2.out.mono (by omega) fun b hb hs => ⟨new_ok hbs1 OB1.out hb, (Below.heap_alloc _ _ _ (by have := hA4.size; omega)).trans (hA4.block b hs)⟩
              case measure =>
                obtain ⟨p1, p2⟩ := push_on hx1 hltw OB1.out h14 ((Below.heap_alloc _ _ _ (by omega)).trans ((hB4.block ba hbw1).trans CI1.out)) hg2
                rw [ctr_at p2, ctr_at HCI.out]
                omega
            | true =>
              have hyop : op = 9 ∨ op = 10 := opens_iff.1 hop
              have BG0 := fun (A2 : Option Addr) (k2 c2 : Nat) W => begins_any op m A2 none k2 c2 0 0 W
              simp only [hop] at BG0
              have BG := Lib.hid BG0
              have HR3 := HR2.out
              rw [if_pos hyop] at HR3
              clear hop hyop BG0
              by_cases hd4 : 4 ≤ deep
              · have hdI : (4 : Int) ≤ (deep : Int) := by omega
                rw [if_pos hd4] at HR3
                have R := Lib.hid HR3.symm
                clear HR3 hd4
                go_wp2_with (first | (go_at_call 87; rw [← eW1]; (with_reducible refine (ST.out).mono ?_); rintro e W2 ⟨⟨A2, k2, c2, rfl, hk2, hkc, hl2⟩, hb2⟩; have HL2 := Lib.hid hl2; have HK2 := Lib.hid hk2; clear ST eW1 hl2 hk2; have hX0 : (W2.alloc (.cells #[.int .i64 op, .slice A2 k2 c2, .int .i64 m, .slice none 0 0] 186)).heap[W2.heap.size]? = some (.cells #[.int .i64 op, .slice A2 k2 c2, .int .i64 m, .slice none 0 0] 186 (0, 0)) := heap_new W2 _) | (go_at_call 88; (with_reducible refine (BG.out _ _ _ _).mono ?_); rintro e W3 ⟨rfl, hb3⟩; have hX3 : W3.heap[W2.heap.size]? = some (.cells #[.int .i64 op, .slice A2 k2 c2, .int .i64 m, .slice none 0 0] 186 (0, 0)) := (hb3.block _ (by simp)).trans hX0; obtain ⟨x0, x1, x2, x3, _, _, _, _⟩ := four hX3; have hA3 : Below W2.heap.size W2 W3 := ((Below.refl _ _).alloc (Nat.le_refl _) _).trans (hb3.mono (by simp))))
                go_ret2
                rw [R.out]
                exact ⟨hx1.trans ((BelowX.of (hb2.trans (hA3.mono hb2.size))).mono hbs1), rfl⟩
              · have hdI : ¬ (4 : Int) ≤ (deep : Int) := by omega
                rw [if_neg hd4] at HR3
                have IHW : Hid (∀ W, Below W1.heap.size W1 W → Calls Tryz.prog 86 #[.int .i64 ((deep : Int) + 1), .pointer (some ⟨ba, 0, none⟩), .pointer (some ⟨bl, 0, none⟩), .pointer (some ⟨bb, 0, none⟩)] W fun e w' => BlockSays W w' ba (L.map tl) (bk (deep + 1) [] ((L.map tl).drop (i + 1))) e) := Lib.hid fun W hW => by
                  have := IH.out (L.length - (i + 1)) (by omega) (deep + 1) (i + 1) W (Nat.le_refl _) (by omega) (by omega) (hW11.trans (hW.mono hW11.size)) (CL1.out.keep (.of hW)) ((hW.block ba hbw1).trans CI1.out)
                  rwa [show (((deep + 1 : Nat)) : Int) = (deep : Int) + 1 by omega] at this
                clear hd4
                cases hin : bk (deep + 1) [] ((L.map tl).drop (i + 1)) with
                | err ek =>
                  have hek : ek ≠ 0 := bk_err _ _ _ _ _ (Nat.le_refl _) hin
                  have g3 : ((ek : Int) != 0) = true := by simp; omega
                  rw [hin] at HR3
                  have R := Lib.hid HR3.symm
                  have IHE : Hid (∀ W, Below W1.heap.size W1 W → Calls Tryz.prog 86 #[.int .i64 ((deep : Int) + 1), .pointer (some ⟨ba, 0, none⟩), .pointer (some ⟨bl, 0, none⟩), .pointer (some ⟨bb, 0, none⟩)] W fun e w' => e = .returned (.tuple #[.slice none 0 0, .int .i64 ek]) ∧ BelowX W.heap.size ba W w') := Lib.hid fun W hW => (IHW.out W hW).mono (by
                    rintro e w' ⟨h1, h2⟩
                    rw [hin] at h2
                    exact ⟨h2, h1⟩)
                  clear HR3 hek hin IHW
                  go_wp2_with (first | (go_at_call 87; rw [← eW1]; (with_reducible refine (ST.out).mono ?_); rintro e W2 ⟨⟨A2, k2, c2, rfl, hk2, hkc, hl2⟩, hb2⟩; have HL2 := Lib.hid hl2; have HK2 := Lib.hid hk2; clear ST eW1 hl2 hk2; have hX0 : (W2.alloc (.cells #[.int .i64 op, .slice A2 k2 c2, .int .i64 m, .slice none 0 0] 186)).heap[W2.heap.size]? = some (.cells #[.int .i64 op, .slice A2 k2 c2, .int .i64 m, .slice none 0 0] 186 (0, 0)) := heap_new W2 _) | (go_at_call 88; (with_reducible refine (BG.out _ _ _ _).mono ?_); rintro e W3 ⟨rfl, hb3⟩; have hX3 : W3.heap[W2.heap.size]? = some (.cells #[.int .i64 op, .slice A2 k2 c2, .int .i64 m, .slice none 0 0] 186 (0, 0)) := (hb3.block _ (by simp)).trans hX0; obtain ⟨x0, x1, x2, x3, _, _, _, _⟩ := four hX3; have hA3 : Below W2.heap.size W2 W3 := ((Below.refl _ _).alloc (Nat.le_refl _) _).trans (hb3.mono (by simp))) | (go_at_call 88; (with_reducible refine (BG.out _ _ _ _).mono ?_); rintro e W4 ⟨rfl, hb4⟩; have hX4 : W4.heap[W2.heap.size]? = some (.cells #[.int .i64 op, .slice A2 k2 c2, .int .i64 m, .slice none 0 0] 186 (0, 0)) := (hb4.block _ (lt_of_block hX3)).trans hX3; obtain ⟨z0, z1, z2, z3, _, _, _, _⟩ := four hX4; have hA4 : Below W2.heap.size W2 W4 := hA3.trans (hb4.mono hA3.size); have hB4 : Below W1.heap.size W1 W4 := hb2.trans (hA4.mono hb2.size); have h14 := (BelowX.of (x := ba) hB4).alloc hB4.size (.cells #[.int .i64 op, .slice A2 k2 c2, .int .i64 m, .slice none 0 0] 186); have hsz4 := hB4.size; have s4 := (CL1.out.keep (.of hB4)).self) | (go_at_call 86; (with_reducible refine (IHE.out _ hB4).mono ?_); rintro e W5 ⟨rfl, hx5⟩))
                  go_ret2
                  rw [R.out]
                  exact ⟨hx1.trans (((BelowX.of hB4).trans (hx5.mono hB4.size)).mono hbs1), rfl⟩
                | ok inn rest' =>
                  have hle := bk_le hin
                  rw [hin] at HR3
                  have R := Lib.hid HR3
                  have IHO : Hid (∀ W, Below W1.heap.size W1 W → Calls Tryz.prog 86 #[.int .i64 ((deep : Int) + 1), .pointer (some ⟨ba, 0, none⟩), .pointer (some ⟨bl, 0, none⟩), .pointer (some ⟨bb, 0, none⟩)] W fun e w' => (∃ A k c j, e = .returned (.tuple #[.slice A k c, .int .i64 0]) ∧ k ≤ c ∧ StepsAt w' (fun b => W.heap.size ≤ b) A k inn ∧ CtAt w' ba j ∧ j ≤ (L.map tl).length ∧ rest' = (L.map tl).drop j) ∧ BelowX W.heap.size ba W w') := Lib.hid fun W hW => (IHW.out W hW).mono (by
                    rintro e w' ⟨h1, h2⟩
                    rw [hin] at h2
                    exact ⟨h2, h1⟩)
                  clear HR3 hin IHW
                  go_wp2_with (first | (go_at_call 87; rw [← eW1]; (with_reducible refine (ST.out).mono ?_); rintro e W2 ⟨⟨A2, k2, c2, rfl, hk2, hkc, hl2⟩, hb2⟩; have HL2 := Lib.hid hl2; have HK2 := Lib.hid hk2; clear ST eW1 hl2 hk2; have hX0 : (W2.alloc (.cells #[.int .i64 op, .slice A2 k2 c2, .int .i64 m, .slice none 0 0] 186)).heap[W2.heap.size]? = some (.cells #[.int .i64 op, .slice A2 k2 c2, .int .i64 m, .slice none 0 0] 186 (0, 0)) := heap_new W2 _) | (go_at_call 88; (with_reducible refine (BG.out _ _ _ _).mono ?_); rintro e W3 ⟨rfl, hb3⟩; have hX3 : W3.heap[W2.heap.size]? = some (.cells #[.int .i64 op, .slice A2 k2 c2, .int .i64 m, .slice none 0 0] 186 (0, 0)) := (hb3.block _ (by simp)).trans hX0; obtain ⟨x0, x1, x2, x3, _, _, _, _⟩ := four hX3; have hA3 : Below W2.heap.size W2 W3 := ((Below.refl _ _).alloc (Nat.le_refl _) _).trans (hb3.mono (by simp))) | (go_at_call 88; (with_reducible refine (BG.out _ _ _ _).mono ?_); rintro e W4 ⟨rfl, hb4⟩; have hX4 : W4.heap[W2.heap.size]? = some (.cells #[.int .i64 op, .slice A2 k2 c2, .int .i64 m, .slice none 0 0] 186 (0, 0)) := (hb4.block _ (lt_of_block hX3)).trans hX3; obtain ⟨z0, z1, z2, z3, _, _, _, _⟩ := four hX4; have hA4 : Below W2.heap.size W2 W4 := hA3.trans (hb4.mono hA3.size); have hB4 : Below W1.heap.size W1 W4 := hb2.trans (hA4.mono hb2.size); have h14 := (BelowX.of (x := ba) hB4).alloc hB4.size (.cells #[.int .i64 op, .slice A2 k2 c2, .int .i64 m, .slice none 0 0] 186); have hsz4 := hB4.size; have s4 := (CL1.out.keep (.of hB4)).self) | (go_at_call 86; (with_reducible refine (IHO.out _ hB4).mono ?_); rintro e W5 ⟨⟨Bk, kb, cb, j', rfl, hkb, hs5, hc5, hj5, hr5⟩, hx5⟩; have HS5 := Lib.hid hs5; have HR5 := Lib.hid hr5; have HJ5 := Lib.hid hj5; clear hs5 hr5 hj5; have hX5 : W5.heap[W2.heap.size]? = some (.cells #[.int .i64 op, .slice A2 k2 c2, .int .i64 m, .slice none 0 0] 186 (0, 0)) := (hx5.block _ (lt_of_block hX4) (by have := hb2.size; omega)).trans hX4; obtain ⟨q0, q1, q2, q3, p0, p1, p2, p3⟩ := four hX5; have h15 : BelowX W1.heap.size ba W1 (W5.setCell ⟨W2.heap.size, 3, none⟩ (.slice Bk kb cb)) := ((BelowX.of hB4).trans (hx5.mono hB4.size)).setCell hb2.size _; have h16 := h15.alloc h15.size (.cells #[.int .i64 op, .slice A2 k2 c2, .int .i64 m, .slice Bk kb cb] 186); have hsz5 := h16.size) | (at_builtin; refine wpList_append_any _ rfl (.tmp 62) (.tmp 64) _ rfl w.heap.size 186 i0 _ 4 64 Tryz.underlying123 hi hz0 hz1 hz2 rfl (by omega) v out.length cells rfl (own_at4 hltw OW1.out h16) _ (some ⟨W5.heap.size, 0, none⟩) 1 1 [.int .i64 op, .slice A2 k2 c2, .int .i64 m, .slice Bk kb cb] rfl (reads4 (g := W5.heap.size) (by have := heap_alloc_new (W5.setCell ⟨W2.heap.size, 3, none⟩ (.slice Bk kb cb)) (.cells #[.int .i64 op, .slice A2 k2 c2, .int .i64 m, .slice Bk kb cb] 186); rwa [size_setCell] at this)) mem4 (by simp only [maxLen]; omega) (by omega) (by omega) ?_; intro v2 w2 hown2 hg2 hat2))
                  have hj'' : i + 1 ≤ j' ∧ j' ≤ L.length := by
                    have h1 := HJ5.out
                    have h2 := hle
                    rw [HR5.out] at h2
                    simp only [List.length_drop, List.length_map] at h1 h2
                    omega
                  have hc6 : CtAt ((W5.setCell ⟨W2.heap.size, 3, none⟩ (.slice Bk kb cb)).alloc (.cells #[.int .i64 op, .slice A2 k2 c2, .int .i64 m, .slice Bk kb cb] 186)) ba j' := (Below.heap_alloc _ _ _ (by rw [size_setCell]; exact lt_of_block hc5)).trans ((Below.heap_setCell _ _ _ _ (by have := hb2.size; show ba ≠ W2.heap.size; omega)).trans hc5)
                  obtain ⟨r1, r2⟩ := push_on hx1 hltw OB1.out h16 hc6 hg2
                  go_roundw
                  case rel =>
                    refine ⟨v2, out ++ [⟨op, xs, m, inn⟩], cells ++ [.int .i64 op, .slice A2 k2 c2, .int .i64 m, .slice Bk kb cb], j', rfl, by rw [List.length_append]; exact hown2, ?_, r1, r2, hj''.2, by omega, by simp; omega, by rw [← HR5.out]; exact R.out⟩
                    refine row_push (row_at4 hltw RW1.out h16) hg2 hat2 HK2.out hkc ?_ hkb ?_
                    · refine HL2.out.mono (by omega) fun b hb hs => ⟨new_ok hbs1 OB1.out hb, ?_⟩
                      exact (Below.heap_alloc _ _ _ (by rw [size_setCell]; have := hA4.size; have := hx5.size; omega)).trans ((Below.heap_setCell _ _ _ _ (by show b ≠ W2.heap.size; omega)).trans ((hx5.block b (by have := hA4.size; omega) (by omega)).trans (hA4.block b hs)))
                    · refine HS5.out.mono fun b hb hs => ⟨new_ok hbs1 OB1.out (by have := hB4.size; omega), ?_⟩
                      exact (Below.heap_alloc _ _ _ (by rw [size_setCell]; exact hs)).trans (Below.heap_setCell _ _ _ _ (by have := lt_of_block hX4; show b ≠ W2.heap.size; omega))
                  case measure =>
                    rw [ctr_at r2, ctr_at HCI.out]
                    omega
      · obtain rfl : i = L.length := by omega
        have hnil : (L.map tl).drop L.length = [] := List.drop_eq_nil_of_le (by simp)
        have HB := HBK.out
        rw [hnil, bk_nil] at HB
        by_cases hd0 : 0 < deep
        · have hdI : (0 : Int) < (deep : Int) := by omega
          rw [if_pos hd0] at HB
          have R := Lib.hid HB.symm
          clear HB hnil hd0
          go_wp2_with (fail)
          go_ret2
          rw [R.out]
          exact ⟨hbx, rfl⟩
        · have hdI : ¬ (0 : Int) < (deep : Int) := by omega
          rw [if_neg hd0] at HB
          have R := Lib.hid HB.symm
          have HN := Lib.hid hnil
          clear HB hnil hd0
          go_wp2_with (fail)
          go_ret2
          rw [R.out]
          obtain ⟨A, k, c', rfl, hkc, hs⟩ := own_steps hown hrow (fun b hb => hb.1)
          exact ⟨hbx, A, k, c', L.length, rfl, hkc, hs, HCI.out, by simp, HN.out.symm⟩
end Go.Proofs.YtifiipmmgnmciaaGreatDoor.Lg
/- LgParse, what a claim needs of it (prune.py). -/
namespace Go.Proofs.YtifiipmmgnmciaaGreatDoor.Lg
open Go.RowKit
set_option linter.unusedVariables false
set_option maxRecDepth 100000
def ParseSays (w' : World) (ok : Nat → Prop) (cmd : B) (e : Ending) : Prop :=
  ∃ A k c, e = .returned (.tuple #[.slice A k c, .int .i64 (parse cmd).2]) ∧ k ≤ c ∧ StepsAt w' ok A k (parse cmd).1
theorem ParseSays.none_ {w' : World} {ok : Nat → Prop} {cmd : B} {k : Nat} (h : parse cmd = ([], k)) : ParseSays w' ok cmd (.returned (.tuple #[.slice none 0 0, .int .i64 k])) :=
  ⟨none, 0, 0, by rw [h], Nat.le_refl _, by rw [h]; exact ⟨rfl, [], Lies.none_, .nil⟩⟩
theorem suffix_last (l : List UInt8) : Lib.hasSuffix l [10] = decide (l.getLast? = some 10) := by
  rcases List.eq_nil_or_concat l with rfl | ⟨l', x, rfl⟩
  · rfl
  · have : ∀ x : UInt8, ([10] : List UInt8).isSuffixOf (l' ++ [x]) = decide (x = 10) := by
      intro x
      rw [List.isSuffixOf, List.reverse_append]
      simp [List.isPrefixOf]
      exact Bool.eq_iff_iff.2 (by simp; exact ⟨fun h => h.symm, fun h => h.symm⟩)
    rw [Lib.hasSuffix, List.concat_eq_append, this]
    simp
theorem trim_last {l : List UInt8} (h : l.getLast? = some 10) : Lib.trimSuffix l [10] = l.dropLast := by
  rw [Lib.trimSuffix, suffix_last, if_pos (by simpa using h), List.dropLast_eq_take]
  rfl
theorem trim_not {l : List UInt8} (h : l.getLast? ≠ some 10) : Lib.trimSuffix l [10] = l := by
  rw [Lib.trimSuffix, suffix_last, if_neg (by simpa using h)]
def parseW (w1 : World) (g n : Nat) : World :=
  (((w1.alloc (.cells #[.slice (some ⟨g, 0, none⟩) n n] 32)).alloc (.cells #[.int .i64 0] 3)).alloc (.cells #[.func (.func 86) #[] #[.pointer (some ⟨w1.heap.size + 1, 0, none⟩), .pointer (some ⟨w1.heap.size, 0, none⟩), .pointer (some ⟨w1.heap.size + 1 + 1, 0, none⟩)]] 184))
theorem parse_block {w w1 : World} {g : Nat} {L : List ByteArray} (hE : Env w) (hs : Strs w1 (some ⟨g, 0, none⟩) L) (hb : Below w.heap.size w w1) (hL : L.length ≤ 64) (hp : ∀ p ∈ L, p.size ≤ 1000000) :
    Calls Tryz.prog 86 #[.int .i64 0, .pointer (some ⟨w1.heap.size + 1, 0, none⟩), .pointer (some ⟨w1.heap.size, 0, none⟩), .pointer (some ⟨w1.heap.size + 1 + 1, 0, none⟩)] (parseW w1 g L.length) fun e w' => BlockSays (parseW w1 g L.length) w' (w1.heap.size + 1) (L.map tl) (bk 0 [] (L.map tl)) e := by
  have e0 : (parseW w1 g L.length).heap[w1.heap.size]? = some (.cells #[.slice (some ⟨g, 0, none⟩) L.length L.length] 32 (0, 0)) := by
    rw [parseW, Below.heap_alloc _ _ _ (by simp; omega), Below.heap_alloc _ _ _ (by simp), heap_new]
  have e1 : (parseW w1 g L.length).heap[w1.heap.size + 1]? = some (.cells #[.int .i64 0] 3 (0, 0)) := by
    rw [parseW, Below.heap_alloc _ _ _ (by simp)]
    have := heap_new (w1.alloc (.cells #[.slice (some ⟨g, 0, none⟩) L.length L.length] 32)) (.cells #[.int .i64 0] 3)
    simpa using this
  have e2 : (parseW w1 g L.length).cell? ⟨w1.heap.size + 1 + 1, 0, none⟩ = some (.func (.func 86) #[] #[.pointer (some ⟨w1.heap.size + 1, 0, none⟩), .pointer (some ⟨w1.heap.size, 0, none⟩), .pointer (some ⟨w1.heap.size + 1 + 1, 0, none⟩)]) := by
    refine cell_of_one ?_ (t := 184)
    have := heap_new ((w1.alloc (.cells #[.slice (some ⟨g, 0, none⟩) L.length L.length] 32)).alloc (.cells #[.int .i64 0] 3)) (.cells #[.func (.func 86) #[] #[.pointer (some ⟨w1.heap.size + 1, 0, none⟩), .pointer (some ⟨w1.heap.size, 0, none⟩), .pointer (some ⟨w1.heap.size + 1 + 1, 0, none⟩)]] 184)
    rw [parseW]
    simpa using this
  have hb2 : Below w1.heap.size w1 (parseW w1 g L.length) := (((Below.refl _ _).alloc (Nat.le_refl _) _).alloc (by simp) _).alloc (by simp; omega) _
  have h := block_any L (w1.heap.size + 1) w1.heap.size (w1.heap.size + 1 + 1) (some ⟨g, 0, none⟩) L.length w hE (by have := hb.size; omega) hL hp L.length 0 0 (parseW w1 g L.length) (by omega) (by omega) (by omega) (hb.trans (hb2.mono hb.size))
    ⟨by omega, by omega, cell_of_one e0, e2, fun j hj => by
      obtain ⟨ad, h1, h2, h3⟩ := hs.at_ hj
      injection h1 with h1
      subst h1
      exact ⟨_, rfl, by show g ≠ _; have : g < w1.heap.size := h2; omega, (hb2.cell (by rw [block_of_add]; exact h2)).trans h3⟩⟩ e1
  rw [List.drop_zero] at h
  exact h
theorem cut_any (s : ByteArray) (w : World) (hs : s.size ≤ 1000000) :
    Calls Tryz.prog 84 #[.string s, .string ⟨#[10]⟩] w fun e w' => e = .returned (.tuple #[.string (bs (Lib.trimSuffix (tl s) [10])), .bool (decide ((tl s).getLast? = some 10))]) ∧ w = w' := by
  refine (Tryz.strings_CutSuffix s ⟨#[10]⟩ w (by omega)).mono ?_
  rintro e w' ⟨h1, h2⟩
  refine ⟨?_, h2.symm⟩
  rw [h1, ← suffix_last]
  rfl
theorem splitS_any (s : ByteArray) (w : World) (hs : s.size ≤ 1000000) (hE : Env w) :
    Calls Tryz.prog 85 #[.string s, .string ⟨#[10]⟩] w fun e w' => e = .returned (.slice (some ⟨w.heap.size, 0, none⟩) (pieces 10 s).length (pieces 10 s).length) ∧ Strs w' (some ⟨w.heap.size, 0, none⟩) (pieces 10 s) ∧ Below w.heap.size w w' := by
  obtain ⟨⟨m, hm⟩, _⟩ := hE
  refine (split_any s 10 m w (by omega) hm).mono ?_
  rintro e w' ⟨h1, rfl⟩
  exact ⟨h1, Strs.new w _ _, (Below.refl _ _).alloc (Nat.le_refl _) _⟩
set_option maxHeartbeats 1000000 in
theorem parse_any (cmd : ByteArray) (w : World) (hE : Env w) (hs : cmd.size ≤ 1000000) :
    Calls Tryz.prog 48 #[.string cmd] w fun e w' => ParseSays w' (fun b => w.heap.size ≤ b) (tl cmd) e ∧ Below w.heap.size w w' := by
  by_cases hbig : 8192 < cmd.size
  · have hI : (8192 : Int) < (cmd.size : Int) := by omega
    have R : Hid (parse (tl cmd) = ([], 15)) := Lib.hid (by rw [parse, if_pos (by rw [tl_len]; exact hbig)])
    clear hbig
    go_enter Tryz.func48, Tryz.ntmps48
    go_wp2_with (fail)
    go_ret2
    exact ⟨ParseSays.none_ R.out, Below.refl _ _⟩
  · have hI : ¬ (8192 : Int) < (cmd.size : Int) := by omega
    by_cases h0 : cmd.size = 0
    · obtain rfl := empty_of h0
      have R : Hid (parse (tl ⟨#[]⟩) = ([], 0)) := Lib.hid rfl
      clear hbig h0
      go_enter Tryz.func48, Tryz.ntmps48
      go_wp2_with (fail)
      go_ret2
      exact ⟨ParseSays.none_ R.out, Below.refl _ _⟩
    · have hne := some_ne h0
      have hne2 : ¬ tl cmd = [] := fun e => h0 (by rw [← tl_len, e]; rfl)
      have hne3 : ¬ cmd.toList = [] := by rw [Lib.toList_data]; exact hne2
      have hnb : ¬ 8192 < (tl cmd).length := by rw [tl_len]; exact hbig
      have CT := cut_any cmd w hs
      by_cases hl : (tl cmd).getLast? = some 10
      · rw [trim_last hl, decide_eq_true hl] at CT
        have hbs : (bs (tl cmd).dropLast).size ≤ 1000000 := by rw [← tl_len, tl_bs, List.length_dropLast, tl_len]; omega
        have SP := splitS_any (bs (tl cmd).dropLast) w hbs hE
        have hp : pieces 10 (bs (tl cmd).dropLast) = (splitB 10 (tl cmd).dropLast).map bs := rfl
        have hpm : (pieces 10 (bs (tl cmd).dropLast)).map tl = splitB 10 (tl cmd).dropLast := by rw [hp, map_tl_bs]
        have hpp := fun p h => Nat.le_trans (pieces_part 10 (bs (tl cmd).dropLast) p h) hbs
        have hpl : (pieces 10 (bs (tl cmd).dropLast)).length = (splitB 10 (tl cmd).dropLast).length := by rw [hp, List.length_map]
        by_cases h64 : 64 < (splitB 10 (tl cmd).dropLast).length
        · have R : Hid (parse (tl cmd) = ([], 15)) := Lib.hid (by rw [parse, if_neg hnb, if_neg hne2, if_neg (by simpa using hl), if_pos h64])
          rw [hpl] at SP
          have h64I : (64 : Int) < ((splitB 10 (tl cmd).dropLast).length : Int) := by omega
          have CT := Lib.hid CT
          have SP := Lib.hid SP
          generalize (splitB 10 (tl cmd).dropLast).length = N at *
          generalize (tl cmd).dropLast = body at *
          clear hpp hpm hpl hp hl hnb hne2 h0 hbig h64
          go_enter Tryz.func48, Tryz.ntmps48
          go_wp2_with (first | (go_at_call 84; (with_reducible refine (CT.out).mono ?_); rintro e w1 ⟨rfl, rfl⟩) | (go_at_call 85; (with_reducible refine (SP.out).mono ?_); rintro e w1 ⟨rfl, hs1, hb1⟩))
          go_ret2
          exact ⟨ParseSays.none_ R.out, hb1.alloc hb1.size _⟩
        · have h64I : ¬ (64 : Int) < ((splitB 10 (tl cmd).dropLast).length : Int) := by omega
          have R : Hid (parse (tl cmd) = match bk 0 [] (splitB 10 (tl cmd).dropLast) with | .ok out _ => (out, 0) | .err e => ([], e)) := Lib.hid (by
            rw [parse, if_neg hnb, if_neg hne2, if_neg (by simpa using hl), if_neg h64]
            cases bk 0 [] (splitB 10 (tl cmd).dropLast) <;> rfl)
          have PB : Hid (∀ w1, Strs w1 (some ⟨w.heap.size, 0, none⟩) (pieces 10 (bs (tl cmd).dropLast)) → Below w.heap.size w w1 → Calls Tryz.prog 86 #[.int .i64 0, .pointer (some ⟨w1.heap.size + 1, 0, none⟩), .pointer (some ⟨w1.heap.size, 0, none⟩), .pointer (some ⟨w1.heap.size + 1 + 1, 0, none⟩)] (parseW w1 w.heap.size (splitB 10 (tl cmd).dropLast).length) fun e w' => BlockSays (parseW w1 w.heap.size (splitB 10 (tl cmd).dropLast).length) w' (w1.heap.size + 1) (splitB 10 (tl cmd).dropLast) (bk 0 [] (splitB 10 (tl cmd).dropLast)) e) := Lib.hid fun w1 h1 h2 => by
            have := parse_block hE h1 h2 (by rw [hpl]; omega) hpp
            rwa [hpl, hpm] at this
          rw [hpl] at SP
          have CT := Lib.hid CT
          have SP := Lib.hid SP
          generalize pieces 10 (bs (tl cmd).dropLast) = L at *
          generalize splitB 10 (tl cmd).dropLast = Ls at *
          generalize (tl cmd).dropLast = body at *
          generalize Ls.length = N at *
          clear hpp hpm hpl hp hl hnb hne2 h0 hbig h64
          have hmf : ∀ (fn : Fn) (first cap : Array Value) (w : World), (Instr.makeFunc fn first cap).run Tryz.prog w = .ok (.func fn first cap) w := fun _ _ _ _ => rfl
          have hsf := fun (fn : Fn) (first cap : Array Value) (a : Addr) (w : World) => run_store Tryz.prog w a (.func fn first cap) .plain rfl
          have hsz : ∀ w1, Below w.heap.size w w1 → w.heap.size ≤ (parseW w1 w.heap.size N).heap.size ∧ Below w.heap.size w (parseW w1 w.heap.size N) := fun w1 h => by
            have h2 := ((h.alloc h.size (.cells #[.slice (some ⟨w.heap.size, 0, none⟩) N N] 32)).alloc (by have := h.size; simp; omega) (.cells #[.int .i64 0] 3)).alloc (by have := h.size; simp; omega) (.cells #[.func (.func 86) #[] #[.pointer (some ⟨w1.heap.size + 1, 0, none⟩), .pointer (some ⟨w1.heap.size, 0, none⟩), .pointer (some ⟨w1.heap.size + 1 + 1, 0, none⟩)]] 184)
            exact ⟨h2.size, h2⟩
          have HSZ := Lib.hid hsz
          clear hsz
          cases hbk : bk 0 [] Ls with
          | err ek =>
            have PB : Hid (∀ w1, Strs w1 (some ⟨w.heap.size, 0, none⟩) L → Below w.heap.size w w1 → Calls Tryz.prog 86 #[.int .i64 0, .pointer (some ⟨w1.heap.size + 1, 0, none⟩), .pointer (some ⟨w1.heap.size, 0, none⟩), .pointer (some ⟨w1.heap.size + 1 + 1, 0, none⟩)] (parseW w1 w.heap.size N) fun e w' => e = .returned (.tuple #[.slice none 0 0, .int .i64 ek]) ∧ Below w.heap.size w w') := Lib.hid fun w1 h1 h2 => (PB.out w1 h1 h2).mono (by
              rintro e w' ⟨g1, g2⟩
              rw [hbk] at g2
              exact ⟨g2, (HSZ.out w1 h2).2.trans (g1.below (HSZ.out w1 h2).1 (by have := h2.size; omega))⟩)
            have R2 : Hid (parse (tl cmd) = ([], ek)) := Lib.hid (by rw [R.out, hbk])
            clear R hbk
            go_enter Tryz.func48, Tryz.ntmps48
            go_wp2_with (first | (go_at_call 84; (with_reducible refine (CT.out).mono ?_); rintro e w1 ⟨rfl, rfl⟩) | (go_at_call 85; (with_reducible refine (SP.out).mono ?_); rintro e w1 ⟨rfl, hs1, hb1⟩; have PB1 := PB.out w1 hs1 hb1; unfold parseW at PB1; have PB2 := Lib.hid PB1; clear PB1) | (go_at_call 86; (with_reducible refine (PB2.out).mono ?_); rintro e w2 ⟨rfl, hb2⟩))
            go_ret2
            exact ⟨ParseSays.none_ R2.out, hb2⟩
          | ok out rest =>
            have PB : Hid (∀ w1, Strs w1 (some ⟨w.heap.size, 0, none⟩) L → Below w.heap.size w w1 → Calls Tryz.prog 86 #[.int .i64 0, .pointer (some ⟨w1.heap.size + 1, 0, none⟩), .pointer (some ⟨w1.heap.size, 0, none⟩), .pointer (some ⟨w1.heap.size + 1 + 1, 0, none⟩)] (parseW w1 w.heap.size N) fun e w' => (∃ A k c, e = .returned (.tuple #[.slice A k c, .int .i64 0]) ∧ k ≤ c ∧ StepsAt w' (fun b => w.heap.size ≤ b) A k out) ∧ Below w.heap.size w w') := Lib.hid fun w1 h1 h2 => (PB.out w1 h1 h2).mono (by
              rintro e w' ⟨g1, g2⟩
              rw [hbk] at g2
              obtain ⟨A, k, c, j, g3, g4, g5, _⟩ := g2
              exact ⟨⟨A, k, c, g3, g4, g5.mono fun b hb _ => ⟨Nat.le_trans (HSZ.out w1 h2).1 hb, rfl⟩⟩, (HSZ.out w1 h2).2.trans (g1.below (HSZ.out w1 h2).1 (by have := h2.size; omega))⟩)
            have R2 : Hid (parse (tl cmd) = (out, 0)) := Lib.hid (by rw [R.out, hbk])
            clear R hbk
            go_enter Tryz.func48, Tryz.ntmps48
            go_wp2_with (first | (go_at_call 84; (with_reducible refine (CT.out).mono ?_); rintro e w1 ⟨rfl, rfl⟩) | (go_at_call 85; (with_reducible refine (SP.out).mono ?_); rintro e w1 ⟨rfl, hs1, hb1⟩; have PB1 := PB.out w1 hs1 hb1; unfold parseW at PB1; have PB2 := Lib.hid PB1; clear PB1) | (go_at_call 86; (with_reducible refine (PB2.out).mono ?_); rintro e w2 ⟨⟨A, k, c, rfl, hkc, hst⟩, hb2⟩))
            go_ret2
            exact ⟨⟨A, k, c, by rw [R2.out]; rfl, hkc, by rw [R2.out]; exact hst⟩, hb2⟩
      · rw [trim_not hl, decide_eq_false hl, bs_tl] at CT
        have SP := splitS_any cmd w hs hE
        have R : Hid (parse (tl cmd) = ([], 20)) := Lib.hid (by rw [parse, if_neg hnb, if_neg hne2, if_pos hl])
        have CT := Lib.hid CT
        have SP := Lib.hid SP
        clear hl hnb hne2 h0 hbig
        go_enter Tryz.func48, Tryz.ntmps48
        go_wp2_with (first | (go_at_call 84; (with_reducible refine (CT.out).mono ?_); rintro e w1 ⟨rfl, rfl⟩) | (go_at_call 85; (with_reducible refine (SP.out).mono ?_); rintro e w1 ⟨rfl, hs1, hb1⟩))
        go_ret2
        exact ⟨ParseSays.none_ R.out, hb1.alloc hb1.size _⟩
end Go.Proofs.YtifiipmmgnmciaaGreatDoor.Lg
/- LgDigits, what a claim needs of it (prune.py). -/
namespace Go.Proofs.YtifiipmmgnmciaaGreatDoor.Lg
open Go.RowKit
set_option linter.unusedVariables false
set_option maxRecDepth 100000
theorem bs_size (l : List UInt8) : (bs l).size = l.length := by rw [Lib.size_eq]; rfl
end Go.Proofs.YtifiipmmgnmciaaGreatDoor.Lg
