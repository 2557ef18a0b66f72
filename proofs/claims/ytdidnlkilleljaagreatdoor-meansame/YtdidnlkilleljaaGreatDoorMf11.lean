/- Joined by mkmerged.py: LgPrint, LgSmall. -/
import Derived.Test.YtdidnlkilleljaaGreatDoorMf04
import Derived.Test.YtdidnlkilleljaaGreatDoorMf07
import Derived.Test.YtdidnlkilleljaaGreatDoorMf08
import Derived.Test.YtdidnlkilleljaaGreatDoorMf10
import Derived.Deep.CutRange
import Derived.Deep.RegionHeld3
/- LgPrint, what a claim needs of it (prune.py). -/
namespace Go.Proofs.YtdidnlkilleljaaGreatDoor.Lg
open Go.RowKit
set_option linter.unusedVariables false
set_option maxRecDepth 100000
def wordsC : Array Value := (wordsV.map Value.string).toArray
theorem wordsC_at : ∀ {j : Nat}, j ≤ 10 → wordsC[j]? = some (.string (bs (wordsL.getD j [63])))
  | 0, _ => rfl | 1, _ => rfl | 2, _ => rfl | 3, _ => rfl | 4, _ => rfl | 5, _ => rfl | 6, _ => rfl | 7, _ => rfl | 8, _ => rfl | 9, _ => rfl | 10, _ => rfl
  | j + 11, h => absurd h (by omega)
theorem words_new (w : World) (hE : Env w) :
    Calls Tryz.prog 107 #[.string wordsB] w fun e w' => e = .returned (.slice (some ⟨w.heap.size, 0, none⟩) 11 11) ∧ w'.heap[w.heap.size]? = some (.cells wordsC 9 (0, 0)) ∧ Below w.heap.size w w' := by
  refine (Tryz.strings_Fields wordsB w (by decide) words_ascii hE.2.2.1).mono ?_
  rintro e w' ⟨h1, rfl⟩
  rw [fields_words] at h1 ⊢
  refine ⟨h1, ?_, (Below.refl _ _).alloc (Nat.le_refl _) _⟩
  have := heap_alloc_new w (.cells wordsC 9)
  rw [wordsC, wordsV, List.map_map] at this
  rw [wordsC, wordsV, List.map_map]
  exact this
theorem join_words (x : B) (args : List B) : Lib.join ((bs x :: args.map bs).map (·.data.toList)) [32] = x ++ argsW args := by
  rw [List.map_cons, Lib.join_cons]
  congr 1
  induction args with
  | nil => rfl
  | cons a r ih =>
    simp only [Lib.joinTail, argsW, List.map_cons, List.flatten_cons, List.flatMap_cons] at ih ⊢
    rw [ih]
    rfl
theorem tl_app2 (a b : ByteArray) : (a ++ b).data.toList = a.data.toList ++ b.data.toList := by simp
theorem LpAt.write2 {w W : World} {bb gw : Nat} {wc : Array Value} {s : List UInt8} (h : LpAt w W bb gw wc s) (S : ByteArray) (t : List UInt8) (ht : S.data.toList = t) (hl : s.length + t.length ≤ 140737488355328) :
    Calls Tryz.prog 108 #[.pointer (some ⟨bb, 0, none⟩), .string S] W fun e w' => e = .returned (.tuple #[.int .i64 S.size, .nilIface]) ∧ LpAt w w' bb gw wc (s ++ t) ∧
      ∀ k cs, k ≠ bb → W.heap[k]? = some (.cells cs 61 (0, 0)) → w'.heap[k]? = some (.cells cs 61 (0, 0)) := by
  subst ht
  exact h.write S (by rw [Lib.size_eq]; exact hl)
theorem itoa_env (v : Int) (h1 : -9223372036854775808 ≤ v) (h2 : v ≤ 9223372036854775807) (W : World) (hE : Env W) :
    Calls Tryz.prog 110 #[.int .i64 v] W fun e w' => e = .returned (.string (bs (Lib.itoa v))) ∧ Below W.heap.size W w' :=
  (Tryz.strconv_Itoa v h1 h2 W (Lib.tabBelow_of_tabIs hE.2.1 W (Below.refl _ _))).mono (fun e w' ⟨h3, k, os, h4⟩ => ⟨h3, by rw [h4]; exact Lib.below_grow _ _ (Nat.le_refl _) _ _⟩)
set_option maxHeartbeats 8000000 in
theorem print_any : ∀ (K : Nat) (l : List Stp), weight l ≤ K → numL l → (print l).length ≤ 4000000 → ∀ (A : Option Addr) (n c : Nat) (w : World) (ok : Nat → Prop), Env w → StepsAt w ok A n l →
    Calls Tryz.prog 64 #[.slice A n c] w fun e w' => e = .returned (.string (bs (print l))) ∧ Below w.heap.size w w' := by
  intro K
  induction K using Nat.strongRecOn with
  | ind K ih =>
    intro l hK hnum hlen A n c w ok hE hr
    obtain rfl : n = l.length := hr.1
    have hlw := len_weight l
    have hlp6 : l.length ≤ 4000000 := Nat.le_trans (len_print l) hlen
    have SR := Lib.hid (fun W (h : Below w.heap.size w W) => hr.below h)
    have EV := Lib.hid (fun W (h : Below w.heap.size w W) => hE.below h)
    have NUM := Lib.hid hnum
    have WN := Lib.hid (words_new w hE)
    clear hr hnum hE
    go_enter Tryz.func64, Tryz.ntmps64
    go_wp2_with (go_at_call 107; (with_reducible refine (WN.out).mono ?_); rintro e w1 ⟨rfl, hw1, hb1⟩)
    have hgl : w.heap.size < w1.heap.size := heap_lt2 hw1
    have P0 : LpAt w (w1.alloc (.cells #[.pointer none, .slice none 0 0] 160)) w1.heap.size w.heap.size wordsC [] :=
      ⟨Or.inl ⟨hb1.size, .slice none 0 0, heap_alloc_new w1 _, World.ownsRow_nil _ _ _ _, by simp [Value.ownBlock]⟩, (Below.heap_alloc _ _ _ hgl).trans hw1, hb1.alloc hb1.size _, by omega⟩
    have HP0 := Lib.hid P0
    clear P0 hw1 hb1
    go_loopw [11] (fun i wr => ∃ (k : Nat) (done : B), i = .int .i64 k ∧ k ≤ l.length ∧ done = print (l.take k) ∧ LpAt w wr w1.heap.size w.heap.size wordsC done ∧ w1.heap.size < wr.heap.size) (fun i _ => l.length - (intOf i).toNat)
    case atStart => exact ⟨0, [], rfl, by omega, print_nil.symm, HP0.out, by simp⟩
    case round =>
      obtain ⟨k, done, rfl, hk, hdone, hp, hbw⟩ := hrel
      rename World => wr
      have hb := hp.below
      have HP := Lib.hid hp
      have hlp := print_take_le l k
      rw [← hdone] at hlp
      clear HP0 hp
      by_cases hlt : k < l.length
      · have hkI : (k : Int) < (l.length : Int) := by omega
        obtain ⟨ad, A', ka, ca, B', kb, cb, rfl, a0, a1, a2, a3, a4, hac, a5, hbc, a6⟩ := (SR.out w (Below.refl _ _)).at_ hlt
        have a0 := cell_on a0 hb
        have a1 := cell_on a1 hb
        have a2 := cell_on a2 hb
        have a3 := cell_on a3 hb
        have hwb := weight_at hlt
        have hnm := numL_at hlt NUM.out
        have hps := print_at_le hlt
        have hpt := print_take hlt
        rw [← hdone] at hps hpt
        have IH := Lib.hid (fun (h0 : (print l[k].block).length ≤ 4000000) => ih (weight l[k].block) (by omega) l[k].block (Nat.le_refl _) hnm.2 h0)
        generalize l[k] = x at *
        have A1 : wr.cell? ⟨(ad.add (k * 4)).block, (ad.add (k * 4)).off + 1, none⟩ = some (.slice A' ka ca) := by rw [← add_of_add] at a1; exact a1
        have A2 : wr.cell? ⟨(ad.add (k * 4)).block, (ad.add (k * 4)).off + 2, none⟩ = some (.int .i64 x.n) := by rw [← add_of_add] at a2; exact a2
        have A3 : wr.cell? ⟨(ad.add (k * 4)).block, (ad.add (k * 4)).off + 3, none⟩ = some (.slice B' kb cb) := by rw [← add_of_add] at a3; exact a3
        subst a4
        have AR := Lib.hid (fun W (h : Below w.heap.size w W) => (a5.lbelow (by omega) h).reads (by omega))
        have BA := Lib.hid (fun W (h : Below w.heap.size w W) => a6.below h)
        have HPS := Lib.hid hps
        have HPT := Lib.hid hpt
        have HNM := Lib.hid hnm
        have HDN := Lib.hid hdone
        clear a1 a2 a3 a5 a6 ih hpt hnm hps hdone
        go_upto_region 6 with (fail)
        obtain ⟨W1, eW1⟩ : ∃ W1, W1 = wr.alloc (.cells #[.int .i64 x.op, .slice A' x.args.length ca, .int .i64 x.n, .slice B' kb cb] 61) := ⟨_, rfl⟩
        have hx1 : W1.heap[wr.heap.size]? = some (.cells #[.int .i64 x.op, .slice A' x.args.length ca, .int .i64 x.n, .slice B' kb cb] 61 (0, 0)) := by rw [eW1]; exact heap_alloc_new wr _
        have hb1 : Below wr.heap.size wr W1 := by rw [eW1]; exact (Below.refl _ _).alloc (Nat.le_refl _) _
        rw [← eW1]
        clear eW1
        have hs1 : wr.heap.size < W1.heap.size := heap_lt2 hx1
        have f0 : W1.cell? ⟨wr.heap.size, 0, none⟩ = some (.int .i64 x.op) := (cell_heap hx1 0).trans rfl
        have HP1 := Lib.hid (HP.out.on hb1)
        have HX1 := Lib.hid hx1
        clear hb1 hx1 a0 A1 A2 A3 HP
        go_cut [7] from 12 to 48 (fun v wx => (∃ M : Int, v = .int .i64 M ∧ ((11 ≤ M ∧ wordOf x.op = [63]) ∨ ∃ j : Nat, M = j ∧ j ≤ 10 ∧ wordsL.getD j [63] = wordOf x.op)) ∧ W1 = wx)
        case first =>
          go_wp2_with (fail)
          go_meet
          refine ⟨⟨_, rfl, ?_⟩, rfl⟩
          by_cases g1 : x.op < 0
          · rw [Int.max_eq_right (by omega)]
            refine .inr ⟨0, rfl, by omega, ?_⟩
            rw [wordOf, if_neg (by omega)]; rfl
          · rw [Int.max_eq_left (by omega)]
            by_cases h10 : x.op ≤ 10
            · obtain ⟨j, hj⟩ : ∃ j : Nat, x.op = j := ⟨x.op.toNat, by omega⟩
              refine .inr ⟨j, hj, by omega, ?_⟩
              rw [wordOf, hj]
              by_cases h0 : j = 0
              · subst h0; rfl
              · rw [if_pos (by omega)]; rfl
            · exact .inl ⟨by omega, by rw [wordOf, if_neg (by omega)]⟩
        case rest =>
          obtain ⟨⟨M, rfl, hM⟩, rfl⟩ := hcut
          go_upto_if 21 with (fail)
          go_cut [7] from 12 to 48 (fun v wx => (∃ j : Nat, v = .int .i64 j ∧ j ≤ 10 ∧ wordsL.getD j [63] = wordOf x.op) ∧ W1 = wx)
          case first =>
            rcases hM with ⟨h11, hw⟩ | ⟨j, rfl, hj, hw⟩
            · have HW := Lib.hid hw
              clear hw
              go_wp2_with (fail)
              go_meet
              exact ⟨⟨0, rfl, by omega, HW.out.symm⟩, rfl⟩
            · have HW := Lib.hid hw
              have hn11 : ¬ 11 ≤ (j : Int) := by omega
              clear hw
              go_wp2_with (fail)
              go_meet
              exact ⟨⟨j, rfl, hj, HW.out⟩, rfl⟩
          case rest =>
            obtain ⟨⟨j, rfl, hj, hw⟩, rfl⟩ := hcut
            clear hM
            have cw : W1.cell? ⟨w.heap.size, j, none⟩ = some (.string (bs (wordOf x.op))) := by rw [← hw]; exact (cell_heap HP1.out.2.1 j).trans (wordsC_at hj)
            have c1 : W1.cell? ⟨wr.heap.size, 1, none⟩ = some (.slice A' x.args.length ca) := (cell_heap HX1.out 1).trans rfl
            have c1a : ∀ o, (W1.alloc o).cell? ⟨wr.heap.size, 1, none⟩ = some (.slice A' x.args.length ca) := fun o => (cell_heap ((Below.heap_alloc _ _ _ hs1).trans HX1.out) 1).trans rfl
            have HL := HPS.out
            rw [printS_len] at HL
            have hwl := words_len x.op
            have HHL := Lib.hid HL
            have hla := len_args x.args
            have hd6 : done.length ≤ 4000000 := by omega
            have ha6 : x.args.length ≤ 4000000 := by omega
            have hJl : (wordOf x.op ++ argsW x.args).length ≤ 4000005 := by rw [List.length_append]; omega
            have HJL := Lib.hid hJl
            have j1 : (0 : Int) ≤ (j : Int) := by omega
            have j2 : (j : Int) < 11 := by omega
            have HWJ : Hid (wordsC[j]? = some (.string (bs (wordOf x.op)))) := Lib.hid (by rw [← hw]; exact wordsC_at hj)
            clear HL hwl hla hw hJl f0
            go_upto_region 9 with (fail)
            go_cut [] from 12 to 48 (fun wx => LpAt w wx w1.heap.size w.heap.size wordsC (done ++ (wordOf x.op ++ argsW x.args)) ∧ wx.heap[wr.heap.size]? = some (.cells #[.int .i64 x.op, .slice A' x.args.length ca, .int .i64 x.n, .slice B' kb cb] 61 (0, 0)))
            case first =>
              obtain ⟨i0, hi, hz0, hz1, hz2⟩ := info_parts infoS
              have OWN : ∀ W : World, W.heap[W1.heap.size]? = some (.cells #[.string (bs (wordOf x.op))] 9 (0, 0)) → W.ownsRow W1.heap.size 9 1 (.slice (some ⟨W1.heap.size, 0, none⟩) 1 1) 1 [.string (bs (wordOf x.op))] := fun W h => ⟨rfl, .inr ⟨W1.heap.size, 1, _, rfl, Nat.le_refl _, h, Nat.le_refl _, by unfold maxLen; decide, rfl, rfl⟩⟩
              have HOWN := Lib.hid OWN
              have ONES : Hid (∀ u ∈ strV x.args, u.oneCell' = true) := Lib.hid (fun u hu => by obtain ⟨a, _, rfl⟩ := List.mem_map.1 hu; rfl)
              have JN : Hid (∀ (W : World) (g c' : Nat), W.ownsRow W1.heap.size 9 1 (.slice (some ⟨g, 0, none⟩) (1 + x.args.length) c') (1 + x.args.length) ([.string (bs (wordOf x.op))] ++ strV x.args) → Calls Tryz.prog 109 #[.slice (some ⟨g, 0, none⟩) (1 + x.args.length) c', .string ⟨#[32]⟩] W fun e w' => e = .returned (.string (bs (wordOf x.op ++ argsW x.args))) ∧ Below W.heap.size W w') := Lib.hid (fun W g c' ho => by
                have hl : (bs (wordOf x.op) :: x.args.map bs).length = 1 + x.args.length := by simp; omega
                have hjl := HJL.out
                have hc : 1 + x.args.length ≤ c' := by
                  rcases ho.2 with ⟨h, _⟩ | ⟨_, _, _, h, _, _, h1, _⟩
                  · cases h
                  · injection h with _ _ h; omega
                have := Tryz.strings_Join g 0 c' (bs (wordOf x.op) :: x.args.map bs) ⟨#[32]⟩ W (fun i y hy => ?_) (own_block ho (g := g) rfl).2 (by rw [hl]; omega) (by rw [hl]; exact hc) (by rw [join_words]; omega)
                · rw [hl, join_words] at this
                  exact this
                · rw [Nat.zero_add]
                  have h2 := ho.cells (g := g) rfl i (.string y) (by
                    rw [List.singleton_append, strV_map, ← List.map_cons (f := Value.string)]
                    rw [List.getElem?_map, hy]; rfl)
                  rwa [add_eq] at h2)
              clear hj
              have hkA := And.intro cw c1
              have HLT : Hid (w.heap.size < W1.heap.size) := Lib.hid (by omega)
              have HNE : Hid (wr.heap.size ≠ w1.heap.size) := Lib.hid (by omega)
              have hkB : ∀ o, (W1.alloc o).cell? ⟨w.heap.size, j, none⟩ = some (.string (bs (wordOf x.op))) ∧ (W1.alloc o).cell? ⟨wr.heap.size, 1, none⟩ = some (.slice A' x.args.length ca) := fun o => ⟨(World.cell?_alloc_lt W1 o ⟨w.heap.size, j, none⟩ (by show w.heap.size < W1.heap.size; omega)).trans cw, c1a o⟩
              go_region_held3 (fun W => W.cell? ⟨w.heap.size, j, none⟩ = some (.string (bs (wordOf x.op))) ∧ W.cell? ⟨wr.heap.size, 1, none⟩ = some (.slice A' x.args.length ca)) (first | (with_reducible exact hkA) | (with_reducible exact hkB _) | (with_reducible exact hk2S) | (with_reducible exact hk3S) | (with_reducible exact ⟨hk4S.1, hk4S.2⟩) | go_keep) (first
                | (refine step_append_any _ rfl (.tmp 26) (.tmp 28) _ rfl W1.heap.size 9 i0 _ 1 16 Tryz.underlying24 hi hz0 hz1 hz2 rfl (by omega) (.slice (some ⟨W1.heap.size, 0, none⟩) 1 1) 1 [.string (bs (wordOf x.op))] rfl (HOWN.out _ (heap_alloc_new W1 _)) _ A' x.args.length ca (strV x.args) rfl (AR.out (W1.alloc (.cells #[.string (bs (wordOf x.op))] 9)) (HP1.out.below.alloc HP1.out.below.size _)) ONES.out (by simp only [maxLen]; omega) (by omega) (by simp) ?_; intro v2 w2 hown2 hg2 hat2; obtain ⟨g2, c2, rfl, hc2, hgb2⟩ := own_some hown2 (by omega); have G2 : (W1.alloc (.cells #[.string (bs (wordOf x.op))] 9)).grownBy w2 (Value.slice (some ⟨W1.heap.size, 0, none⟩) 1 1).ownBlock := ⟨hg2.os, hg2.tape, hg2.output, hg2.size, hg2.block⟩; have hb2 : Below W1.heap.size W1 w2 := ((Below.refl _ _).alloc (Nat.le_refl _) _).grown G2 (by simp) (fun k e => Nat.le_of_eq (Option.some.inj e)); have HP2 := Lib.hid (HP1.out.on hb2); have HX2 := Lib.hid ((hb2.block _ hs1).trans HX1.out); have JN2 := Lib.hid (JN.out w2 g2 c2 hown2); have hk2S := And.intro ((hb2.cell (p := ⟨w.heap.size, j, none⟩) HLT.out).trans cw) ((hb2.cell (p := ⟨wr.heap.size, 1, none⟩) hs1).trans c1); have HB2 := Lib.hid hb2; clear hown2 hg2 hat2 hb2 G2)
                | (go_at_call 109; (with_reducible refine (JN2.out).mono ?_); rintro e w3 ⟨rfl, hb3⟩; have HP3 := Lib.hid (HP2.out.on hb3); have HX3 := Lib.hid ((hb3.block _ (heap_lt2 HX2.out)).trans HX2.out); have WS3 := Lib.hid (HP3.out.write (bs (wordOf x.op ++ argsW x.args)) (by rw [bs_size]; have := HJL.out; omega)); have hb13 := HB2.out.trans (hb3.mono HB2.out.size); have hk3S := And.intro ((hb13.cell (p := ⟨w.heap.size, j, none⟩) HLT.out).trans cw) ((hb13.cell (p := ⟨wr.heap.size, 1, none⟩) hs1).trans c1); clear hb3 hb13)
                | (go_at_call 108; (with_reducible refine (WS3.out).mono ?_); rintro e w4 ⟨rfl, hp4, hk4⟩; have hk4S := And.intro ((cell_heap hp4.2.1 j).trans HWJ.out) ((cell_heap (hk4 _ _ HNE.out HX3.out) 1).trans rfl)))
              all_goals
                go_wp2_with (fail)
                go_meet
                exact ⟨hp4, hk4 _ _ (by omega) HX3.out⟩
            case rest =>
              -- TAIL
              obtain ⟨hp4, hx4⟩ := hcut
              clear HX1 HP1 AR cw c1 c1a HWJ HJL
              have HNE : Hid (wr.heap.size ≠ w1.heap.size) := Lib.hid (by omega)
              obtain ⟨s4, es4⟩ : ∃ s4, s4 = done ++ (wordOf x.op ++ argsW x.args) := ⟨_, rfl⟩
              have hs4 : s4.length = done.length + ((wordOf x.op).length + (argsW x.args).length) := by rw [es4]; simp only [List.length_append]
              rw [← es4] at hp4
              have HL := HHL.out
              have q40 : wc.cell? ⟨wr.heap.size, 0, none⟩ = some (.int .i64 x.op) := (cell_heap hx4 0).trans rfl
              have q42 : wc.cell? ⟨wr.heap.size, 2, none⟩ = some (.int .i64 x.n) := (cell_heap hx4 2).trans rfl
              have HP4 := Lib.hid hp4
              have HX4 := Lib.hid hx4
              clear hp4 hx4 HHL
              by_cases o9 : x.op = 9
              · have g9 : (x.op == 9) = true := by simp [o9]
                have go9 : opens x.op = true := by simp [opens, o9]
                have hT : s4.length + (1 + (Lib.itoa x.n).length) + 1 + (print x.block).length + 4 ≤ 4000000 := by rw [hs4]; simp only [if_pos o9, if_pos (Or.inl o9 : x.op = 9 ∨ x.op = 10)] at HL; omega
                have HS : Hid (s4 ++ (32 :: Lib.itoa x.n) ++ [10] ++ (print x.block ++ [101, 110, 100, 10]) = done ++ printS x) := Lib.hid (by rw [es4, printS]; simp only [if_pos o9, if_pos (Or.inl o9 : x.op = 9 ∨ x.op = 10)]; simp)
                have hlb : (print x.block).length ≤ 4000000 := by omega
                have hlP : (bs (print x.block)).size + (⟨#[101, 110, 100, 10]⟩ : ByteArray).size ≤ 9223372036854775807 := by rw [bs_size]; show _ + 4 ≤ _; omega
                obtain ⟨D, eD⟩ : ∃ D, D = bs (Lib.itoa x.n) := ⟨_, rfl⟩
                have hlD : (⟨#[32]⟩ : ByteArray).size + D.size ≤ 9223372036854775807 := by rw [eD, bs_size]; show 1 + _ ≤ _; omega
                have HDT : Hid ((⟨#[32]⟩ ++ D : ByteArray).data.toList = 32 :: Lib.itoa x.n) := Lib.hid (by rw [eD]; exact tl_app2 _ _)
                have IT : Hid (∀ W, Below w.heap.size w W → Calls Tryz.prog 110 #[.int .i64 x.n] W fun e w' => e = .returned (.string D) ∧ Below W.heap.size W w') := Lib.hid (fun W hW => by rw [eD]; exact itoa_env x.n HNM.out.1.1 HNM.out.1.2 W (EV.out W hW))
                clear hs4 es4 HL o9 eD
                go_wp2_with (first
                  | (go_at_call 110; (with_reducible refine (IT.out wc HP4.out.below).mono ?_); rintro e w5 ⟨rfl, hb5⟩; have hx5 := (hb5.block _ (heap_lt2 HX4.out)).trans HX4.out; have HP5 := Lib.hid (HP4.out.on hb5); have HX5 := Lib.hid hx5; clear hx5 hb5; have WS5 := Lib.hid (HP5.out.write2 (⟨#[32]⟩ ++ D) (32 :: Lib.itoa x.n) HDT.out (by simp only [List.length_cons]; omega)))
                  | (go_at_call 108; (with_reducible refine (WS5.out).mono ?_); rintro e w6 ⟨rfl, hp6, hk6⟩; have hx6 := hk6 _ _ HNE.out HX5.out; have HP6 := Lib.hid hp6; have HX6 := Lib.hid hx6; clear hx6 hp6 hk6; have WS6 := Lib.hid (HP6.out.write2 ⟨#[10]⟩ [10] rfl (by simp only [List.length_append, List.length_cons, List.length_nil]; omega)))
                  | (go_at_call 108; (with_reducible refine (WS6.out).mono ?_); rintro e w7 ⟨rfl, hp7, hk7⟩; have hx7 := hk7 _ _ HNE.out HX6.out; have q70 : w7.cell? ⟨wr.heap.size, 0, none⟩ = some (.int .i64 x.op) := (cell_heap hx7 0).trans rfl; have q71 : w7.cell? ⟨wr.heap.size, 1, none⟩ = some (.slice A' x.args.length ca) := (cell_heap hx7 1).trans rfl; have q72 : w7.cell? ⟨wr.heap.size, 2, none⟩ = some (.int .i64 x.n) := (cell_heap hx7 2).trans rfl; have q73 : w7.cell? ⟨wr.heap.size, 3, none⟩ = some (.slice B' kb cb) := (cell_heap hx7 3).trans rfl; have HP7 := Lib.hid hp7; have HX7 := Lib.hid hx7; clear hx7 hp7 hk7)
                  | (go_at_call 87; (with_reducible refine (begins_any x.op x.n A' B' x.args.length ca kb cb w7).mono ?_); rintro e w8 ⟨rfl, hb8⟩; have hx8 := (hb8.block _ (heap_lt2 HX7.out)).trans HX7.out; have HP8 := Lib.hid (HP7.out.on hb8); have q83 : w8.cell? ⟨wr.heap.size, 3, none⟩ = some (.slice B' kb cb) := (cell_heap hx8 3).trans rfl; have HX8 := Lib.hid hx8; clear hx8 hb8)
                  | (go_at_call 64; (with_reducible refine (IH.out hlb B' kb cb w8 ok (EV.out w8 HP8.out.below) (BA.out w8 HP8.out.below)).mono ?_); rintro e w9 ⟨rfl, hb9⟩; have hx9 := (hb9.block _ (heap_lt2 HX8.out)).trans HX8.out; have HP9 := Lib.hid (HP8.out.on hb9); have HX9 := Lib.hid hx9; clear hx9 hb9; have WS9 := Lib.hid (HP9.out.write2 (bs (print x.block) ++ ⟨#[101, 110, 100, 10]⟩) (print x.block ++ [101, 110, 100, 10]) (tl_app2 _ _) (by simp only [List.length_append, List.length_cons, List.length_nil]; omega)))
                  | (go_at_call 108; (with_reducible refine (WS9.out).mono ?_); rintro e w10 ⟨rfl, hp10, hk10⟩; have hx10 := hk10 _ _ HNE.out HX9.out; have HP10 := Lib.hid hp10; have HX10 := Lib.hid hx10; clear hx10 hp10 hk10))
                go_roundw
                case rel => exact ⟨k + 1, done ++ printS x, by go_num, by omega, HPT.out.symm, by rw [← HS.out]; exact HP10.out, by have := HP10.out.below.size; have := heap_lt2 HX10.out; omega⟩
                case measure => simp [intOf]; omega
              · by_cases o10 : x.op = 10
                · have g9 : (x.op == 9) = false := by simp [o9]
                  have go9 : opens x.op = true := by simp [opens, o10]
                  have hT : s4.length + 1 + (print x.block).length + 4 ≤ 4000000 := by rw [hs4]; simp only [if_neg o9, if_pos (Or.inr o10 : x.op = 9 ∨ x.op = 10)] at HL; omega
                  have HS : Hid (s4 ++ [10] ++ (print x.block ++ [101, 110, 100, 10]) = done ++ printS x) := Lib.hid (by rw [es4, printS]; simp only [if_neg o9, if_pos (Or.inr o10 : x.op = 9 ∨ x.op = 10)]; simp)
                  have hlb : (print x.block).length ≤ 4000000 := by omega
                  have hlP : (bs (print x.block)).size + (⟨#[101, 110, 100, 10]⟩ : ByteArray).size ≤ 9223372036854775807 := by rw [bs_size]; show _ + 4 ≤ _; omega
                  have WS4 := Lib.hid (HP4.out.write2 ⟨#[10]⟩ [10] rfl (by simp only [List.length_cons, List.length_nil]; omega))
                  clear hs4 es4 HL o9 o10
                  go_wp2_with (first
                    | (go_at_call 108; (with_reducible refine (WS4.out).mono ?_); rintro e w7 ⟨rfl, hp7, hk7⟩; have hx7 := hk7 _ _ HNE.out HX4.out; have q70 : w7.cell? ⟨wr.heap.size, 0, none⟩ = some (.int .i64 x.op) := (cell_heap hx7 0).trans rfl; have q71 : w7.cell? ⟨wr.heap.size, 1, none⟩ = some (.slice A' x.args.length ca) := (cell_heap hx7 1).trans rfl; have q72 : w7.cell? ⟨wr.heap.size, 2, none⟩ = some (.int .i64 x.n) := (cell_heap hx7 2).trans rfl; have q73 : w7.cell? ⟨wr.heap.size, 3, none⟩ = some (.slice B' kb cb) := (cell_heap hx7 3).trans rfl; have HP7 := Lib.hid hp7; have HX7 := Lib.hid hx7; clear hx7 hp7 hk7)
                    | (go_at_call 87; (with_reducible refine (begins_any x.op x.n A' B' x.args.length ca kb cb w7).mono ?_); rintro e w8 ⟨rfl, hb8⟩; have hx8 := (hb8.block _ (heap_lt2 HX7.out)).trans HX7.out; have HP8 := Lib.hid (HP7.out.on hb8); have q83 : w8.cell? ⟨wr.heap.size, 3, none⟩ = some (.slice B' kb cb) := (cell_heap hx8 3).trans rfl; have HX8 := Lib.hid hx8; clear hx8 hb8)
                    | (go_at_call 64; (with_reducible refine (IH.out hlb B' kb cb w8 ok (EV.out w8 HP8.out.below) (BA.out w8 HP8.out.below)).mono ?_); rintro e w9 ⟨rfl, hb9⟩; have hx9 := (hb9.block _ (heap_lt2 HX8.out)).trans HX8.out; have HP9 := Lib.hid (HP8.out.on hb9); have HX9 := Lib.hid hx9; clear hx9 hb9; have WS9 := Lib.hid (HP9.out.write2 (bs (print x.block) ++ ⟨#[101, 110, 100, 10]⟩) (print x.block ++ [101, 110, 100, 10]) (tl_app2 _ _) (by simp only [List.length_append, List.length_cons, List.length_nil]; omega)))
                    | (go_at_call 108; (with_reducible refine (WS9.out).mono ?_); rintro e w10 ⟨rfl, hp10, hk10⟩; have hx10 := hk10 _ _ HNE.out HX9.out; have HP10 := Lib.hid hp10; have HX10 := Lib.hid hx10; clear hx10 hp10 hk10))
                  go_roundw
                  case rel => exact ⟨k + 1, done ++ printS x, by go_num, by omega, HPT.out.symm, by rw [← HS.out]; exact HP10.out, by have := HP10.out.below.size; have := heap_lt2 HX10.out; omega⟩
                  case measure => simp [intOf]; omega
                · have g9 : (x.op == 9) = false := by simp [o9]
                  have go9 : opens x.op = false := by simp [opens, o9, o10]
                  have hT : s4.length + 1 ≤ 4000000 := by rw [hs4]; simp only [if_neg o9, if_neg (fun h => h.elim o9 o10 : ¬ (x.op = 9 ∨ x.op = 10))] at HL; omega
                  have HS : Hid (s4 ++ [10] = done ++ printS x) := Lib.hid (by rw [es4, printS]; simp only [if_neg o9, if_neg (fun h => h.elim o9 o10 : ¬ (x.op = 9 ∨ x.op = 10))]; simp)
                  have WS4 := Lib.hid (HP4.out.write2 ⟨#[10]⟩ [10] rfl (by simp only [List.length_cons, List.length_nil]; omega))
                  clear hs4 es4 HL o9 o10
                  go_wp2_with (first
                    | (go_at_call 108; (with_reducible refine (WS4.out).mono ?_); rintro e w7 ⟨rfl, hp7, hk7⟩; have hx7 := hk7 _ _ HNE.out HX4.out; have q70 : w7.cell? ⟨wr.heap.size, 0, none⟩ = some (.int .i64 x.op) := (cell_heap hx7 0).trans rfl; have q71 : w7.cell? ⟨wr.heap.size, 1, none⟩ = some (.slice A' x.args.length ca) := (cell_heap hx7 1).trans rfl; have q72 : w7.cell? ⟨wr.heap.size, 2, none⟩ = some (.int .i64 x.n) := (cell_heap hx7 2).trans rfl; have q73 : w7.cell? ⟨wr.heap.size, 3, none⟩ = some (.slice B' kb cb) := (cell_heap hx7 3).trans rfl; have HP7 := Lib.hid hp7; have HX7 := Lib.hid hx7; clear hx7 hp7 hk7)
                    | (go_at_call 87; (with_reducible refine (begins_any x.op x.n A' B' x.args.length ca kb cb w7).mono ?_); rintro e w8 ⟨rfl, hb8⟩; have hx8 := (hb8.block _ (heap_lt2 HX7.out)).trans HX7.out; have HP8 := Lib.hid (HP7.out.on hb8); have q83 : w8.cell? ⟨wr.heap.size, 3, none⟩ = some (.slice B' kb cb) := (cell_heap hx8 3).trans rfl; have HX8 := Lib.hid hx8; clear hx8 hb8))
                  go_roundw
                  case rel => exact ⟨k + 1, done ++ printS x, by go_num, by omega, HPT.out.symm, by rw [← HS.out]; exact HP8.out, by have := HP8.out.below.size; have := heap_lt2 HX8.out; omega⟩
                  case measure => simp [intOf]; omega
              -- /TAIL
      · obtain rfl : k = l.length := by omega
        rw [List.take_length] at hdone
        subst hdone
        have BS := Lib.hid (bstring_any w.heap.size w1.heap.size (print l) wr HP.out.1 hb.size)
        go_wp2_with (go_at_call 111; (with_reducible refine (BS.out).mono ?_); rintro e w5 ⟨rfl, hb5⟩)
        go_ret
        exact ⟨rfl, hb.trans hb5⟩
end Go.Proofs.YtdidnlkilleljaaGreatDoor.Lg
/- LgSmall, what a claim needs of it (prune.py). -/
namespace Go.Proofs.YtdidnlkilleljaaGreatDoor.Lg
open Go.RowKit
set_option linter.unusedVariables false
set_option maxRecDepth 100000
def smallL : List Stp → Prop
  | [] => True
  | ⟨_, a, _, b⟩ :: r => (a.length ≤ 20 ∧ ∀ t ∈ a, t.length ≤ 200) ∧ smallL b ∧ smallL r
theorem smallL_cons {o n : Int} {a : List B} {b r : List Stp} : smallL (⟨o, a, n, b⟩ :: r) ↔ (a.length ≤ 20 ∧ ∀ t ∈ a, t.length ≤ 200) ∧ smallL b ∧ smallL r := by rw [smallL]
theorem smallL_nil : smallL [] := by rw [smallL]; trivial
theorem weight_app : ∀ a b : List Stp, weight (a ++ b) = weight a + weight b
  | [], b => by simp [weight]
  | ⟨_, _, _, c⟩ :: r, b => by
    have := weight_app r b
    simp only [List.cons_append, weight]; omega
theorem smallL_app : ∀ {a b : List Stp}, smallL a → smallL b → smallL (a ++ b)
  | [], b, _, h => h
  | ⟨_, _, _, c⟩ :: r, b, h, k => by
    rw [smallL_cons] at h
    rw [List.cons_append, smallL_cons]
    exact ⟨h.1, h.2.1, smallL_app (a := r) h.2.2 k⟩
theorem weight_take {l : List Stp} {k : Nat} (h : k < l.length) : weight (l.take (k + 1)) = weight (l.take k) + 1 + weight (l[k]).block := by
  rw [List.take_add_one, List.getElem?_eq_getElem h, weight_app]
  generalize l[k] = x
  obtain ⟨_, _, _, _⟩ := x
  simp only [Option.toList, weight, Stp.block]; omega
theorem smallL_take {l : List Stp} {k : Nat} (h : k < l.length) (h1 : smallL (l.take k)) (h2 : (l[k]).args.length ≤ 20) (h3 : ∀ t ∈ (l[k]).args, t.length ≤ 200) (h4 : smallL (l[k]).block) : smallL (l.take (k + 1)) := by
  rw [List.take_add_one, List.getElem?_eq_getElem h]
  refine smallL_app h1 ?_
  revert h2 h3 h4
  generalize l[k] = x
  intro h2 h3 h4
  obtain ⟨_, _, _, _⟩ := x
  exact smallL_cons.2 ⟨⟨h2, h3⟩, h4, smallL_nil⟩
theorem itoa_len {n : Int} (h1 : -9223372036854775808 ≤ n) (h2 : n ≤ 9223372036854775807) : (Lib.itoa n).length ≤ 20 := by
  unfold Lib.itoa
  by_cases h : n < 0
  · rw [if_pos h, List.length_cons]
    have := dec_len (n := n.natAbs) (by omega)
    omega
  · rw [if_neg h]
    have := dec_len (n := n.toNat) (by omega)
    omega
theorem args_len : ∀ {a : List B}, (∀ t ∈ a, t.length ≤ 200) → (argsW a).length ≤ 201 * a.length
  | [], _ => by simp [argsW]
  | t :: r, h => by
    have := args_len (a := r) (fun t ht => h t (List.mem_cons_of_mem _ ht))
    have h1 := h t (List.mem_cons_self ..)
    simp only [argsW, List.flatMap_cons, List.length_append, List.length_cons] at *
    omega
theorem printS_le (x : Stp) : (printS x).length ≤ (wordOf x.op).length + (argsW x.args).length + (1 + (Lib.itoa x.n).length) + 1 + ((print x.block).length + 4) := by
  rw [printS_len]
  split <;> split <;> omega
theorem print_small : ∀ {l : List Stp}, smallL l → numL l → (print l).length ≤ 4100 * weight l
  | [], _, _ => by simp [print_nil]
  | ⟨o, a, n, b⟩ :: r, h, k => by
    rw [numL] at k
    rw [smallL_cons] at h
    have h1 := print_small (l := b) h.2.1 k.2.1
    have h2 := print_small (l := r) h.2.2 k.2.2
    have h3 := args_len h.1.2
    have h4 := itoa_len k.1.1 k.1.2
    have h5 := words_len o
    have h6 := h.1.1
    have h7 := printS_le ⟨o, a, n, b⟩
    simp only [Stp.op, Stp.args, Stp.n, Stp.block] at h7
    rw [print_cons, List.length_append, weight]
    omega
def SmSays (W W' : World) (pb c : Nat) (l : List Stp) (e : Ending) : Prop :=
  ∃ b, e = .returned (.bool b) ∧ BelowX W.heap.size pb W W' ∧ (b = true → ∃ k : Nat, W'.heap[pb]? = some (.cells #[.int .i64 k] 3 (0, 0)) ∧ k + weight l = c ∧ smallL l)
theorem SmSays.no {W W' : World} {pb c : Nat} {l : List Stp} (h : BelowX W.heap.size pb W W') : SmSays W W' pb c l (.returned (.bool false)) := ⟨false, rfl, h, fun h => by cases h⟩
set_option maxHeartbeats 4000000 in
theorem small_any : ∀ (d : Nat), d ≤ 60 → ∀ (l : List Stp) (A : Option Addr) (n cp : Nat) (W : World) (pb c : Nat), StepsAt W (fun b => b ≠ pb) A n l → W.heap[pb]? = some (.cells #[.int .i64 c] 3 (0, 0)) → c ≤ 300 →
    Calls Tryz.prog 63 #[.slice A n cp, .pointer (some ⟨pb, 0, none⟩), .int .i64 d] W fun e W' => SmSays W W' pb c l e := by
  intro d
  induction d with
  | zero =>
    intro hd l A n cp W pb c hr hc hc3
    go_enter Tryz.func63, Tryz.ntmps63
    go_wp2_with (fail)
    go_ret
    exact SmSays.no (BelowX.refl _ _ _)
  | succ d ih =>
    intro hd l A n cp W pb c hr hc hc3
    obtain rfl : n = l.length := hr.1
    have q0 : W.cell? ⟨pb, 0, none⟩ = some (.int .i64 c) := (cell_heap hc 0).trans rfl
    have dn : ¬ ((d : Int) + 1 = 0) := by omega
    have dn2 : ((d : Int) + 1 == 0) = false := by simp; omega
    by_cases hgt : c < l.length
    · have hgI : (c : Int) < (l.length : Int) := by omega
      go_enter Tryz.func63, Tryz.ntmps63
      go_wp2_with (fail)
      go_ret
      exact SmSays.no (BelowX.refl _ _ _)
    have hgI : ¬ (c : Int) < (l.length : Int) := by omega
    have SR := Lib.hid hr
    have HC := Lib.hid hc
    have dW : IntKind.i64.wrap (d : Int) = (d : Int) := IntWalk.i64_in _ (by omega)
    clear hr hc
    go_enter Tryz.func63, Tryz.ntmps63
    go_wp2_with (fail)
    clear q0
    go_loopw [7] (fun t wr => ∃ i k : Nat, t = .int .i64 i ∧ i ≤ l.length ∧ wr.heap[pb]? = some (.cells #[.int .i64 k] 3 (0, 0)) ∧ k + weight (l.take i) = c ∧ smallL (l.take i) ∧ BelowX W.heap.size pb W wr) (fun t _ => l.length - (intOf t).toNat)
    case atStart => exact ⟨0, c, rfl, by omega, HC.out, by simp [weight], smallL_nil, BelowX.refl _ _ _⟩
    case round =>
      obtain ⟨i, k, rfl, hi, hk, hw, hsm, hb⟩ := hrel
      rename World => wr
      have q0 : wr.cell? ⟨pb, 0, none⟩ = some (.int .i64 k) := (cell_heap hk 0).trans rfl
      have fz : wr.frozen? ⟨pb, 0, none⟩ = false := frozen_heap hk 0
      have HSM := Lib.hid hsm
      have HW := Lib.hid hw
      have hk3 : k ≤ 300 := by omega
      clear hsm hw
      by_cases hlt : i < l.length
      · have hiI : (i : Int) < (l.length : Int) := by omega
        have hr2 : StepsAt wr (fun b => b ≠ pb) A l.length l := SR.out.mono (fun b ho hs => ⟨ho, hb.block b hs ho⟩)
        rcases k with _ | k
        · have q0 : wr.cell? ⟨pb, 0, none⟩ = some (.int .i64 0) := q0
          clear hr2 hk
          go_wp2_with (fail)
          go_ret
          exact SmSays.no (hb.setX rfl _)
        have q0 : wr.cell? ⟨pb, 0, none⟩ = some (.int .i64 ((k : Int) + 1)) := q0
        obtain ⟨w2, ew2⟩ : ∃ w2, w2 = wr.setCell ⟨pb, 0, none⟩ (.int .i64 (k : Int)) := ⟨_, rfl⟩
        have hr3 : StepsAt w2 (fun b => b ≠ pb) A l.length l := hr2.mono (fun b ho hs => ⟨ho, by rw [ew2]; exact Below.heap_setCell _ _ _ _ ho⟩)
        obtain ⟨ad, A', ka, ca, B', kb, cb, rfl, a0, a1, a2, a3, a4, hac, a5, hbc, a6⟩ := hr3.at_ hlt
        have hwt := weight_take hlt
        have hst := fun h2 h3 h4 => smallL_take hlt HSM.out h2 h3 h4
        generalize l[i] = x at *
        have A1 : w2.cell? ⟨(ad.add (i * 4)).block, (ad.add (i * 4)).off + 1, none⟩ = some (.slice A' ka ca) := by rw [← add_of_add] at a1; exact a1
        have A3 : w2.cell? ⟨(ad.add (i * 4)).block, (ad.add (i * 4)).off + 3, none⟩ = some (.slice B' kb cb) := by rw [← add_of_add] at a3; exact a3
        subst a4
        have hb2 : BelowX W.heap.size pb W w2 := by rw [ew2]; exact hb.setX rfl _
        have TA := Lib.hid (fun j (hj : j < x.args.length) => a5.text rfl hj)
        have HWT := Lib.hid hwt
        have HST := Lib.hid hst
        have hk2 : w2.heap[pb]? = some (.cells #[.int .i64 k] 3 (0, 0)) := by rw [ew2]; exact heap_setCell_same _ _ 0 _ _ (.int .i64 k) hk
        have IH := Lib.hid (ih (by omega) x.block B' kb cb w2 pb k a6 hk2 (by omega))
        have HB2 := Lib.hid hb2
        have kn : ¬ (k : Int) < 0 := by omega
        have q2 : w2.cell? ⟨pb, 0, none⟩ = some (.int .i64 k) := (cell_heap hk2 0).trans rfl
        have hi6 : i ≤ 300 := by omega
        clear a1 a2 a3 a5 a6 hwt hst hr2 hr3 hk a0 hk2 hb2
        go_upto_region 7 with (fail)
        rw [← ew2]
        clear ew2 q0 fz
        by_cases h20 : 20 < x.args.length
        · have hI : (20 : Int) < (x.args.length : Int) := by omega
          go_wp2_with (fail)
          go_ret
          exact SmSays.no HB2.out
        have hI : ¬ (20 : Int) < (x.args.length : Int) := by omega
        go_wp2_with (fail)
        clear q2
        go_loopw [8] (fun t wx => ∃ j : Nat, t = .int .i64 j ∧ j ≤ x.args.length ∧ wx = w2 ∧ ∀ p (hp : p < x.args.length), p < j → (x.args[p]).length ≤ 200) (fun t _ => x.args.length - (intOf t).toNat)
        case atStart => exact ⟨0, rfl, by omega, rfl, fun p _ h => absurd h (by omega)⟩
        case round =>
          obtain ⟨j, rfl, hj, rfl, hall⟩ := hrel
          have HALL := Lib.hid hall
          clear hall
          by_cases hjl : j < x.args.length
          · have hjI : (j : Int) < (x.args.length : Int) := by omega
            obtain ⟨a', rfl, hta⟩ := TA.out j hjl
            have hnext : (x.args[j]).length ≤ 200 → ∀ p (hp : p < x.args.length), p < j + 1 → (x.args[p]).length ≤ 200 := fun hu p hp hpj => by
              rcases Nat.lt_or_ge p j with h | h
              · exact HALL.out p hp h
              · obtain rfl : p = j := by omega
                exact hu
            generalize x.args[j] = u at *
            have HN := Lib.hid hnext
            clear hnext
            by_cases hu : 200 < u.length
            · have huI : (200 : Int) < ((bs u).size : Int) := by rw [bs_size]; omega
              go_wp2_with (fail)
              go_ret
              exact SmSays.no HB2.out
            · have huI : ¬ (200 : Int) < ((bs u).size : Int) := by rw [bs_size]; omega
              go_wp2_with (fail)
              go_roundw
              case rel => exact ⟨j + 1, by go_num, by omega, trivial, HN.out (by omega)⟩
              case measure => simp [intOf]; omega
          · obtain rfl : j = x.args.length := by omega
            go_upto_if 73 with (go_at_call 63; (with_reducible refine (IH.out).mono ?_); rintro e w4 ⟨bv, rfl, hb4, hres⟩; have HRES := Lib.hid hres; clear hres)
            have hb04 : BelowX W.heap.size pb W w4 := HB2.out.trans (hb4.mono HB2.out.size)
            cases bv
            · go_wp2_with (fail)
              go_ret
              exact SmSays.no hb04
            · obtain ⟨k', hk', hw', hs'⟩ := HRES.out rfl
              have HK' := Lib.hid hk'
              have HS' := Lib.hid (HST.out (by omega) (fun t ht => by obtain ⟨p, hp, rfl⟩ := List.mem_iff_getElem.1 ht; exact HALL.out p hp hp) hs')
              have HW' : Hid (k' + weight (l.take (i + 1)) = c) := Lib.hid (by rw [HWT.out]; have := HW.out; omega)
              clear hk' hw' hs'
              go_wp2_with (fail)
              go_roundw
              case rel => exact ⟨i + 1, k', by go_num, by omega, HK'.out, HW'.out, HS'.out, hb04⟩
              case measure => simp [intOf]; omega
      · obtain rfl : i = l.length := by omega
        have hw := HW.out
        have hsm := HSM.out
        rw [List.take_length] at hw hsm
        have HW2 := Lib.hid hw
        have HSM2 := Lib.hid hsm
        have HK := Lib.hid hk
        clear hw hsm hk
        go_wp2_with (fail)
        go_ret
        exact ⟨true, rfl, hb, fun _ => ⟨k, HK.out, HW2.out, HSM2.out⟩⟩
end Go.Proofs.YtdidnlkilleljaaGreatDoor.Lg
