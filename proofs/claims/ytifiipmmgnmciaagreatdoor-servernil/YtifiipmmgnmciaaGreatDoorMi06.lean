/- Joined by mkmerged.py: LgLstep. -/
import Derived.Test.YtifiipmmgnmciaaGreatDoorMi05
import Derived.Test.YtifiipmmgnmciaaGreatDoorMi04
import Derived.Test.YtifiipmmgnmciaaGreatDoorMi03
import Derived.Deep.QuietTactic
import Derived.BigQuiet
import Derived.Laws.Tables
import Derived.Deep.CutRange
import Derived.Deep.RegionHeld3
import Derived.Deep.AppendLies
/- LgLstep, what a claim needs of it (prune.py). -/
namespace Go.Proofs.YtifiipmmgnmciaaGreatDoor.Lg
open Go.RowKit
set_option linter.unusedVariables false
set_option maxRecDepth 100000
abbrev wordsB : ByteArray := ⟨#[63, 32, 112, 117, 116, 32, 99, 111, 112, 121, 32, 99, 97, 116, 32, 117, 112, 112, 101, 114, 32, 115, 111, 114, 116, 32, 100, 114, 111, 112, 32, 110, 101, 101, 100, 32, 102, 97, 105, 108, 32, 108, 111, 111, 112, 32, 105, 102]⟩
theorem fields_words : Lib.fields wordsB.data.toList = wordsL := by decide
theorem words_ascii : ∀ (j : Nat) b, wordsB.data.toList[j]? = some b → b.toNat < 128 := by
  intro j b h
  have : ∀ b ∈ wordsB.data.toList, b.toNat < 128 := by decide
  exact this b (List.mem_of_getElem? h)
def wordsV : List ByteArray := wordsL.map bs
theorem words_any (w : World) (hE : Env w) :
    Calls Tryz.prog 165 #[.string wordsB] w fun e w' => e = .returned (.slice (some ⟨w.heap.size, 0, none⟩) 11 11) ∧ Strs w' (some ⟨w.heap.size, 0, none⟩) wordsV ∧ Below w.heap.size w w' := by
  refine (Tryz.strings_Fields wordsB w (by decide) words_ascii hE.2.2.1).mono ?_
  rintro e w' ⟨h1, rfl⟩
  rw [fields_words] at h1 ⊢
  refine ⟨h1, ?_, (Below.refl _ _).alloc (Nat.le_refl _) _⟩
  have := Strs.new w wordsV 9
  rw [wordsV, List.map_map] at this
  exact this
def opOf (x : ByteArray) : Int := Lib.idxOfS wordsV x
theorem index_any (g : Nat) (x : ByteArray) (w : World) (hr : Strs w (some ⟨g, 0, none⟩) wordsV) :
    Calls Tryz.prog 164 #[.slice (some ⟨g, 0, none⟩) 11 11, .string x] w fun e w' => e = .returned (.int .i64 (opOf x)) ∧ w = w' := by
  have h := Tryz.slices_Index_string g 0 11 11 wordsV x w (by decide) (by decide) (fun j hj => by
    obtain ⟨ad, h1, _, h2⟩ := hr.at_ hj
    injection h1 with h1
    subst h1
    rw [add_eq] at h2
    rw [Nat.zero_add, h2, List.getD_eq_getElem?_getD, List.getElem?_eq_getElem hj]
    rfl)
  refine h.mono ?_
  rintro e w' ⟨h1, h2⟩
  exact ⟨h1, h2.symm⟩
theorem op_no {x : ByteArray} (h : ∀ k, k < 11 → wordsV.getD k ByteArray.empty ≠ x) : opOf x = -1 := Lib.idxFromS_miss x wordsV 0 h
theorem op_cases (x : ByteArray) : (x = ⟨#[112, 117, 116]⟩ ∧ opOf x = 1) ∨ (x = ⟨#[99, 111, 112, 121]⟩ ∧ opOf x = 2) ∨ (x = ⟨#[99, 97, 116]⟩ ∧ opOf x = 3) ∨ (x = ⟨#[117, 112, 112, 101, 114]⟩ ∧ opOf x = 4) ∨ (x = ⟨#[115, 111, 114, 116]⟩ ∧ opOf x = 5) ∨ (x = ⟨#[100, 114, 111, 112]⟩ ∧ opOf x = 6) ∨ (x = ⟨#[110, 101, 101, 100]⟩ ∧ opOf x = 7) ∨ (x = ⟨#[102, 97, 105, 108]⟩ ∧ opOf x = 8) ∨ (x = ⟨#[108, 111, 111, 112]⟩ ∧ opOf x = 9) ∨ (x = ⟨#[105, 102]⟩ ∧ opOf x = 10) ∨ ((∀ a, stepW (tl x :: a) = none) ∧ (opOf x = 0 ∨ opOf x = -1)) := by
  by_cases n1 : x = ⟨#[112, 117, 116]⟩
  · subst n1
    left; exact ⟨rfl, by decide⟩
  by_cases n2 : x = ⟨#[99, 111, 112, 121]⟩
  · subst n2
    right; left; exact ⟨rfl, by decide⟩
  by_cases n3 : x = ⟨#[99, 97, 116]⟩
  · subst n3
    right; right; left; exact ⟨rfl, by decide⟩
  by_cases n4 : x = ⟨#[117, 112, 112, 101, 114]⟩
  · subst n4
    right; right; right; left; exact ⟨rfl, by decide⟩
  by_cases n5 : x = ⟨#[115, 111, 114, 116]⟩
  · subst n5
    right; right; right; right; left; exact ⟨rfl, by decide⟩
  by_cases n6 : x = ⟨#[100, 114, 111, 112]⟩
  · subst n6
    right; right; right; right; right; left; exact ⟨rfl, by decide⟩
  by_cases n7 : x = ⟨#[110, 101, 101, 100]⟩
  · subst n7
    right; right; right; right; right; right; left; exact ⟨rfl, by decide⟩
  by_cases n8 : x = ⟨#[102, 97, 105, 108]⟩
  · subst n8
    right; right; right; right; right; right; right; left; exact ⟨rfl, by decide⟩
  by_cases n9 : x = ⟨#[108, 111, 111, 112]⟩
  · subst n9
    right; right; right; right; right; right; right; right; left; exact ⟨rfl, by decide⟩
  by_cases n10 : x = ⟨#[105, 102]⟩
  · subst n10
    right; right; right; right; right; right; right; right; right; left; exact ⟨rfl, by decide⟩
  right; right; right; right; right; right; right; right; right; right
  refine ⟨fun a => stepW_no a (fun e => n1 (tl_inj e)) (fun e => n2 (tl_inj e)) (fun e => n3 (tl_inj e)) (fun e => n4 (tl_inj e)) (fun e => n5 (tl_inj e)) (fun e => n6 (tl_inj e)) (fun e => n7 (tl_inj e)) (fun e => n8 (tl_inj e)) (fun e => n9 (tl_inj e)) (fun e => n10 (tl_inj e)), ?_⟩
  by_cases n0 : x = ⟨#[63]⟩
  · subst n0; left; decide
  · right
    refine op_no fun k hk => ?_
    match k, hk with
    | 0, _ => exact fun e => n0 e.symm
    | 1, _ => exact fun e => n1 e.symm
    | 2, _ => exact fun e => n2 e.symm
    | 3, _ => exact fun e => n3 e.symm
    | 4, _ => exact fun e => n4 e.symm
    | 5, _ => exact fun e => n5 e.symm
    | 6, _ => exact fun e => n6 e.symm
    | 7, _ => exact fun e => n7 e.symm
    | 8, _ => exact fun e => n8 e.symm
    | 9, _ => exact fun e => n9 e.symm
    | 10, _ => exact fun e => n10 e.symm
    | k + 11, h => exact absurd h (by omega)
def StepCut (r g n : Nat) (op : Int) (v : Value) (wx : World) : Prop :=
  ∃ g5, v = .pointer (some ⟨g5, 0, none⟩) ∧ r < g5 ∧ wx.heap[g5]? = some (.cells #[.int .i64 op, .slice (some ⟨g, 1, none⟩) n n, .int .i64 0, .slice none 0 0] 186 (0, 0))
set_option maxHeartbeats 4000000 in
theorem lstep_cons (line : ByteArray) (w : World) (hE : Env w) (hs : line.size ≤ 1000000) (x y : ByteArray) (l : List ByteArray) (hxl : pieces 32 line = x :: y :: l) :
    Calls Tryz.prog 87 #[.string line] w fun e w' => StepSays w' (fun b => w.heap.size ≤ b) (tl x :: tl y :: l.map tl) e ∧ Below w.heap.size w w' := by
  obtain ⟨⟨m, hm⟩, _⟩ := id hE
  obtain ⟨W0, eW0⟩ : ∃ W0, W0 = w.alloc (.cells #[.int .i64 0, .slice none 0 0, .int .i64 0, .slice none 0 0] 186) := ⟨_, rfl⟩
  have hb0 : Below w.heap.size w W0 := by rw [eW0]; exact (Below.refl _ _).alloc (Nat.le_refl _) _
  have hr0 : W0.heap[w.heap.size]? = some (.cells #[.int .i64 0, .slice none 0 0, .int .i64 0, .slice none 0 0] 186 (0, 0)) := by rw [eW0]; exact heap_new w _
  have SP := Lib.hid (split_any line 32 m W0 (by omega) ((hb0.cell (cell_lt hm)).trans hm))
  rw [hxl] at SP
  clear hm
  obtain ⟨n, hn⟩ : ∃ n, n = l.length + 1 + 1 := ⟨_, rfl⟩
  have SPB : Hid (Calls Tryz.prog 85 #[.string line, .string ⟨#[32]⟩] W0 fun e w' => e = .returned (.slice (some ⟨W0.heap.size, 0, none⟩) n n) ∧ Strs w' (some ⟨W0.heap.size, 0, none⟩) (x :: y :: l) ∧ Below W0.heap.size W0 w') := Lib.hid (SP.out.mono (by
    rintro e w' ⟨h1, rfl⟩
    rw [hn]
    exact ⟨h1, Strs.new W0 (x :: y :: l) _, (Below.refl _ _).alloc (Nat.le_refl _) _⟩))
  clear SP
  have e1 : (1 : Int) ≤ (n : Int) := by omega
  have e3 : (0 : Int) < (n : Int) := by omega
  have e4 : ¬ n = 1 := by omega
  have e5 : 0 < n := by omega
  have e6 : 1 ≤ n := by omega
  have HN := Lib.hid hn
  clear hn
  go_enter Tryz.func87, Tryz.ntmps87
  go_upto_region 2 with (go_at_call 85; rw [← eW0]; clear eW0; ((with_reducible refine (SPB.out).mono ?_); rintro e W1 ⟨rfl, hst, hb1⟩; clear SPB))
  have hE1 : Env W1 := (hE.below hb0).below hb1
  have WD := Lib.hid (fun W (hW : Below W1.heap.size W1 W) => words_any W (hE1.below hW))
  have IX := Lib.hid (fun g x W (hr : Strs W (some ⟨g, 0, none⟩) wordsV) => index_any g x W hr)
  have hx0 : ∀ W, Below W1.heap.size W1 W → W.cell? ⟨W0.heap.size, 0, none⟩ = some (.string x) := fun W hW => by
    obtain ⟨ad, e1, h1, h2⟩ := hst.at_ (k := 0) (by simp)
    injection e1 with e1
    subst e1
    exact (hW.cell h1).trans h2
  have hlt0 : w.heap.size < W0.heap.size := lt_of_block hr0
  have HX := Lib.hid hx0
  have hlt1 : W0.heap.size < W1.heap.size := cell_lt (hx0 W1 (Below.refl _ _))
  have hne1 : ¬ W0.heap.size = W1.heap.size := by omega
  have hne2 : ¬ W1.heap.size = W0.heap.size := by omega
  have hx1 := hx0 W1 (Below.refl _ _)
  have hxA := fun o => hx0 (W1.alloc o) ((Below.refl _ _).alloc (Nat.le_refl _) o)
  clear hx0
  go_cut [5] from 9 to 99 (fun v wx => StepCut w.heap.size W0.heap.size (n - 1) (opOf x) v wx ∧ Below W1.heap.size W1 wx)
  case first =>
    go_region_held3 (fun W => W.cell? ⟨W0.heap.size, 0, none⟩ = some (.string x)) (first | (with_reducible exact hx1) | (with_reducible exact hxA _) | (with_reducible exact hx2) | (with_reducible exact hx2A _) | go_keep) (first | (go_at_call 165; (with_reducible refine (WD.out _ (Below.refl _ _).drew).mono ?_); rintro e W2 ⟨rfl, hws, hb2⟩; have hx2 := HX.out W2 ((Below.refl _ _).drew.trans hb2); have hx2A := fun o => HX.out (W2.alloc o) (((Below.refl _ _).drew.trans hb2).alloc hb2.size o); have hws2 : Strs W2 (some ⟨W1.heap.size, 0, none⟩) wordsV := hws) | (go_at_call 165; (with_reducible refine (WD.out _ ((Below.refl _ _).alloc (Nat.le_refl _) _).drew).mono ?_); rintro e W2 ⟨rfl, hws, hb2⟩; have hx2 := HX.out W2 (((Below.refl _ _).alloc (Nat.le_refl _) _).drew.trans (hb2.mono (by simp))); have hws2 : Strs W2 (some ⟨W1.heap.size + 1, 0, none⟩) wordsV := (by simpa using hws); have hz : W2.heap[W1.heap.size]? = some (.cells #[.int .i64 0, .slice none 0 0, .int .i64 0, .slice none 0 0] 186 (0, 0)) := (hb2.block _ (by simp)).trans (heap_new W1 _); have z0 : W2.cell? ⟨W1.heap.size, 0, none⟩ = some (.int .i64 0) := cell_at hz 0; have z1 : W2.cell? ⟨W1.heap.size, 1, none⟩ = some (.slice none 0 0) := cell_at hz 1; have z2 : W2.cell? ⟨W1.heap.size, 2, none⟩ = some (.int .i64 0) := cell_at hz 2; have z3 : W2.cell? ⟨W1.heap.size, 3, none⟩ = some (.slice none 0 0) := cell_at hz 3; have y0 := frozen_of_row W2 _ 0 _ _ hz; have y1 := frozen_of_row W2 _ 1 _ _ hz; have y2 := frozen_of_row W2 _ 2 _ _ hz; have y3 := frozen_of_row W2 _ 3 _ _ hz) | (go_at_call 164; (with_reducible refine (IX.out _ x _ hws2).mono ?_); rintro e W3 ⟨rfl, rfl⟩) | (go_at_call 164; (with_reducible refine (IX.out _ x _ (hws2.below ((Below.refl _ _).alloc (Nat.le_refl _) _))).mono ?_); rintro e W3 ⟨rfl, rfl⟩))
    · go_wp2_with (fail)
      go_meet
      exact ⟨⟨_, rfl, by have := hb2.size; simp at this; omega, heap_new W2 _⟩, ((Below.refl _ _).drew.trans hb2).alloc hb2.size _⟩
    · go_wp2_with (fail)
      go_meet
      exact ⟨⟨_, rfl, by have := hb2.size; simp at this; omega, heap_new W2 _⟩, ((Below.refl _ _).drew.trans hb2).alloc hb2.size _⟩
    · go_wp2_with (fail)
      go_meet
      have q0 := heap_setCell_same _ _ 0 _ _ (.int .i64 (opOf x)) hz
      have q1 := heap_setCell_same _ _ 1 _ _ (.slice (some ⟨W0.heap.size, 1, none⟩) (n - 1) (n - 1)) q0
      have q2 := heap_setCell_same _ _ 2 _ _ (.int .i64 0) q1
      have q3 := heap_setCell_same _ _ 3 _ _ (.slice none 0 0) q2
      refine ⟨⟨_, rfl, by omega, q3⟩, ?_⟩
      have hb : Below W1.heap.size W1 W2 := ((Below.refl _ _).alloc (Nat.le_refl _) _).drew.trans (hb2.mono (by simp))
      exact (((hb.setCell (Nat.le_refl _) _).setCell (Nat.le_refl _) _).setCell (Nat.le_refl _) _).setCell (Nat.le_refl _) _
  case rest =>
    obtain ⟨⟨g5, rfl, hg5, hx⟩, hb3⟩ := hcut
    obtain ⟨N, hN⟩ : ∃ N, N = n - 1 := ⟨_, rfl⟩
    rw [← hN] at hx
    have HL : Hid ((y :: l).length = N) := Lib.hid (by have := HN.out; simp; omega)
    have hr : wc.heap[w.heap.size]? = some (.cells #[.int .i64 0, .slice none 0 0, .int .i64 0, .slice none 0 0] 186 (0, 0)) := (hb3.block _ (by omega)).trans ((hb1.block _ hlt0).trans hr0)
    have hs3 : Strs wc (some ⟨W0.heap.size, 1, none⟩) (y :: l) := hst.tail.below hb3
    have hbw : Below w.heap.size w wc := hb0.trans ((hb1.mono (by omega)).trans (hb3.mono (by omega)))
    have hE3 : Env wc := hE.below hbw
    have hg6 : g5 < wc.heap.size := lt_of_block hx
    have hg7 : w.heap.size < wc.heap.size := lt_of_block hr
    have hg9 : W0.heap.size < wc.heap.size := by have := hb3.size; omega
    have hbs : w.heap.size ≤ wc.heap.size := Nat.le_of_lt hg7
    have hg8 : W0.heap.size ≠ w.heap.size := by omega
    have hne5 : ¬ g5 = w.heap.size := by omega
    have hne6 : ¬ w.heap.size = g5 := by omega
    have HP : Hid (∀ p ∈ y :: l, p.size ≤ 1000000) := Lib.hid (fun p hp => by
      have := pieces_part 32 line p (by rw [hxl]; exact List.mem_cons_of_mem _ hp)
      omega)
    have hN6 : N ≤ 1000001 := by
      have := pieces_len 32 line
      rw [hxl] at this
      have := HL.out
      simp at *
      omega
    have LI : Hid (∀ W', W'.heap[W0.heap.size]? = wc.heap[W0.heap.size]? → Lies W' (fun b => w.heap.size ≤ b) 1 (some ⟨W0.heap.size, 1, none⟩) N (strV ((y :: l).map tl))) := Lib.hid (fun W' hW => by
      have h1 := hs3.lies (Below.refl _ _)
      rw [HL.out] at h1
      refine h1.mono (by omega) ?_
      rintro b rfl _
      exact ⟨by show w.heap.size ≤ W0.heap.size; omega, hW⟩)
    obtain ⟨c0, c1, c2, c3, _, _, _, _⟩ := four hx
    obtain ⟨z0, z1, z2, z3, y0, y1, y2, y3⟩ := four hr
    have HX5 := Lib.hid hx
    have HR := Lib.hid hr
    clear hN hx hr hb3 hst hx1 hxA hr0 HX WD IX hb0 hb1 e1 e3 e4 e5 e6 hE hE1 HN hxl
    rcases op_cases x with ⟨rfl, ho⟩ | ⟨rfl, ho⟩ | ⟨rfl, ho⟩ | ⟨rfl, ho⟩ | ⟨rfl, ho⟩ | ⟨rfl, ho⟩ | ⟨rfl, ho⟩ | ⟨rfl, ho⟩ | ⟨rfl, ho⟩ | ⟨rfl, ho⟩ | ⟨hno, ho⟩
    · have SW := stepW_put ((y :: l).map tl)
      rw [ho] at c0 HX5
      clear ho
      have F5 : Hid (∀ W, Below wc.heap.size wc W → W.heap[g5]? = some (.cells #[.int .i64 1, .slice (some ⟨W0.heap.size, 1, none⟩) N N, .int .i64 0, .slice none 0 0] 186 (0, 0))) := Lib.hid (fun W hW => (hW.block g5 hg6).trans HX5.out)
      rcases l with _ | ⟨z, _ | ⟨u, l⟩⟩
      · have hN1 : N = 1 := by rw [← HL.out]; rfl
        subst hN1
        have BAD := Lib.hid (SW.trans (if_neg (by simp)))
        clear SW
        go_upto_region 6 with (fail)
        refine wp_region_late (C := fun w' => Below wc.heap.size wc w') 14 15 (by kernel_rfl) (by kernel_rfl) (fun _ _ d _ _ h => by cases d <;> exact h) (Below.refl _ _).drew ?_
        repeat (quiet_step (first | (intro _; rfl) | (intro hss; obtain ⟨v0, v1, v2, v3, _, _, _, _⟩ := four (F5.out _ hss); simp only [v0, v1, v2, v3, Result.andThen]; first | exact ⟨rfl, rfl⟩ | exact ⟨trivial, rfl⟩)))
        refine wpQuiet_nil ?_
        refine ⟨.bool false, Or.inl ⟨rfl, fun w => rfl⟩, ?_⟩
        intro w4 hb4
        obtain ⟨t0, t1, t2, t3, t4, t5, t6, t7⟩ := four ((hb4.block w.heap.size hg7).trans HR.out)
        go_wp2
        ((try simp only [Exit.inBlock, Exit.then]); refine bodyPost_ret_by (results_cell_row2 rfl _ _ w.heap.size 186 _ (0, 0) _ rfl (set4 ((hb4.block w.heap.size hg7).trans HR.out) _ _ _ _) rfl rfl (by kernel_rfl)) rfl ?_)
        exact ⟨StepSays.bad BAD.out (Nat.le_refl _), (set4_below (hbw.trans (hb4.mono hbs)) (Nat.le_refl _) _ _ _ _)⟩
      · have hN1 : N = 2 := by rw [← HL.out]; rfl
        subst hN1
        have K4 : Hid (∀ W, Below wc.heap.size wc W → W.cell? ⟨W0.heap.size, 2, none⟩ = some (.string z)) := Lib.hid (fun W hW => by
          obtain ⟨_, k1, k2, k3⟩ := hs3.at_ (k := 1) (by simp)
          injection k1 with k1
          subst k1
          exact (hW.cell (p := ⟨W0.heap.size, 2, none⟩) k2).trans k3)
        have TX := Lib.hid (fun W => text_any z (by have := HP.out z (by simp); omega) W)
        have LA : Hid (∀ W, Below wc.heap.size wc W → Calls Tryz.prog 166 #[.slice (some ⟨W0.heap.size, 1, none⟩) 1 2, .int .i64 1, .int .i64 1] W fun e w' => e = .returned (.bool (pathOk (tl y))) ∧ Below W.heap.size W w') := Lib.hid fun W hW => by
          have := lall_any (some ⟨W0.heap.size, 1, none⟩) [y] 2 1 1 W (hE3.below hW) (hs3.head.below hW) (by simp) (fun p hp => by have := HP.out p (by simp at hp; simp [hp]); omega) (by omega) (by omega)
          simp only [List.length_cons, List.length_nil, Nat.zero_add, Nat.le_refl, decide_true, Bool.true_and, allP, List.all_cons, List.all_nil, Bool.and_true] at this
          exact this
        cases hp : pathOk (tl y)
        · have BAD := Lib.hid (SW.trans (if_neg (by simp [hp])))
          rw [hp] at LA
          clear hp SW
          go_upto_region 6 with (fail)
          refine wp_region_late (C := fun w' => Below wc.heap.size wc w') 14 15 (by kernel_rfl) (by kernel_rfl) (fun _ _ d _ _ h => by cases d <;> exact h) (Below.refl _ _).drew ?_
          repeat (quiet_step (first | (intro _; rfl) | (intro hss; obtain ⟨v0, v1, v2, v3, _, _, _, _⟩ := four (F5.out _ hss); simp only [v0, v1, v2, v3, Result.andThen]; first | exact ⟨rfl, rfl⟩ | exact ⟨trivial, rfl⟩) | (intro hss; have kk := K4.out _ hss; simp only [kk, Result.andThen]; first | exact ⟨rfl, rfl⟩ | exact ⟨trivial, rfl⟩) | (intro hss; go_at_call 166; (with_reducible refine (LA.out _ hss).mono ?_); rintro e w' ⟨rfl, hb'⟩; exact ⟨rfl, hss.trans (hb'.mono hss.size)⟩) | (intro hss; go_at_call 167; (with_reducible refine (TX.out _).mono ?_); rintro e w' ⟨rfl, rfl⟩; exact ⟨rfl, hss⟩)))
          refine wpQuiet_nil ?_
          refine ⟨.bool false, Or.inl ⟨rfl, fun w => rfl⟩, ?_⟩
          intro w4 hb4
          obtain ⟨t0, t1, t2, t3, t4, t5, t6, t7⟩ := four ((hb4.block w.heap.size hg7).trans HR.out)
          go_wp2
          ((try simp only [Exit.inBlock, Exit.then]); refine bodyPost_ret_by (results_cell_row2 rfl _ _ w.heap.size 186 _ (0, 0) _ rfl (set4 ((hb4.block w.heap.size hg7).trans HR.out) _ _ _ _) rfl rfl (by kernel_rfl)) rfl ?_)
          exact ⟨StepSays.bad BAD.out (Nat.le_refl _), (set4_below (hbw.trans (hb4.mono hbs)) (Nat.le_refl _) _ _ _ _)⟩
        · cases hq : textOk (tl z)
          · have BAD := Lib.hid (SW.trans (if_neg (by simp [hq])))
            rw [hp] at LA
            rw [hq] at TX
            clear hp hq SW
            go_upto_region 6 with (fail)
            refine wp_region_late (C := fun w' => Below wc.heap.size wc w') 14 15 (by kernel_rfl) (by kernel_rfl) (fun _ _ d _ _ h => by cases d <;> exact h) (Below.refl _ _).drew ?_
            repeat (quiet_step (first | (intro _; rfl) | (intro hss; obtain ⟨v0, v1, v2, v3, _, _, _, _⟩ := four (F5.out _ hss); simp only [v0, v1, v2, v3, Result.andThen]; first | exact ⟨rfl, rfl⟩ | exact ⟨trivial, rfl⟩) | (intro hss; have kk := K4.out _ hss; simp only [kk, Result.andThen]; first | exact ⟨rfl, rfl⟩ | exact ⟨trivial, rfl⟩) | (intro hss; go_at_call 166; (with_reducible refine (LA.out _ hss).mono ?_); rintro e w' ⟨rfl, hb'⟩; exact ⟨rfl, hss.trans (hb'.mono hss.size)⟩) | (intro hss; go_at_call 167; (with_reducible refine (TX.out _).mono ?_); rintro e w' ⟨rfl, rfl⟩; exact ⟨rfl, hss⟩)))
            refine wpQuiet_nil ?_
            refine ⟨.bool false, Or.inl ⟨rfl, fun w => rfl⟩, ?_⟩
            intro w4 hb4
            obtain ⟨t0, t1, t2, t3, t4, t5, t6, t7⟩ := four ((hb4.block w.heap.size hg7).trans HR.out)
            go_wp2
            ((try simp only [Exit.inBlock, Exit.then]); refine bodyPost_ret_by (results_cell_row2 rfl _ _ w.heap.size 186 _ (0, 0) _ rfl (set4 ((hb4.block w.heap.size hg7).trans HR.out) _ _ _ _) rfl rfl (by kernel_rfl)) rfl ?_)
            exact ⟨StepSays.bad BAD.out (Nat.le_refl _), (set4_below (hbw.trans (hb4.mono hbs)) (Nat.le_refl _) _ _ _ _)⟩
          · have GOOD := Lib.hid (SW.trans (if_pos (by simp [hp, hq])))
            rw [hp] at LA
            rw [hq] at TX
            clear hp hq SW
            go_upto_region 6 with (fail)
            refine wp_region_late (C := fun w' => Below wc.heap.size wc w') 14 15 (by kernel_rfl) (by kernel_rfl) (fun _ _ d _ _ h => by cases d <;> exact h) (Below.refl _ _).drew ?_
            repeat (quiet_step (first | (intro _; rfl) | (intro hss; obtain ⟨v0, v1, v2, v3, _, _, _, _⟩ := four (F5.out _ hss); simp only [v0, v1, v2, v3, Result.andThen]; first | exact ⟨rfl, rfl⟩ | exact ⟨trivial, rfl⟩) | (intro hss; have kk := K4.out _ hss; simp only [kk, Result.andThen]; first | exact ⟨rfl, rfl⟩ | exact ⟨trivial, rfl⟩) | (intro hss; go_at_call 166; (with_reducible refine (LA.out _ hss).mono ?_); rintro e w' ⟨rfl, hb'⟩; exact ⟨rfl, hss.trans (hb'.mono hss.size)⟩) | (intro hss; go_at_call 167; (with_reducible refine (TX.out _).mono ?_); rintro e w' ⟨rfl, rfl⟩; exact ⟨rfl, hss⟩)))
            refine wpQuiet_nil ?_
            refine ⟨.bool true, Or.inl ⟨rfl, fun w => rfl⟩, ?_⟩
            intro w4 hb4
            obtain ⟨t0, t1, t2, t3, t4, t5, t6, t7⟩ := four ((hb4.block w.heap.size hg7).trans HR.out)
            go_wp2
            ((try simp only [Exit.inBlock, Exit.then]); refine bodyPost_ret_by (results_cell_row2 rfl _ _ w.heap.size 186 _ (0, 0) _ rfl (set4 ((hb4.block w.heap.size hg7).trans HR.out) _ _ _ _) rfl rfl (by kernel_rfl)) rfl ?_)
            exact ⟨StepSays.good GOOD.out (Nat.le_refl _) rfl (LI.out _ ((set4_other _ _ _ hg8 _ _ _ _).trans (hb4.block _ hg9))), (set4_below (hbw.trans (hb4.mono hbs)) (Nat.le_refl _) _ _ _ _)⟩
      · have g2 : ((N : Int) == 2) = false := by have := HL.out; simp at this; simp; omega
        have BAD := Lib.hid (SW.trans (if_neg (by simp)))
        clear SW
        go_upto_region 6 with (fail)
        refine wp_region_late (C := fun w' => Below wc.heap.size wc w') 14 15 (by kernel_rfl) (by kernel_rfl) (fun _ _ d _ _ h => by cases d <;> exact h) (Below.refl _ _).drew ?_
        repeat (quiet_step (first | (intro _; rfl) | (intro hss; obtain ⟨v0, v1, v2, v3, _, _, _, _⟩ := four (F5.out _ hss); simp only [v0, v1, v2, v3, Result.andThen]; first | exact ⟨rfl, rfl⟩ | exact ⟨trivial, rfl⟩)))
        refine wpQuiet_nil ?_
        refine ⟨.bool false, Or.inl ⟨rfl, fun w => rfl⟩, ?_⟩
        intro w4 hb4
        obtain ⟨t0, t1, t2, t3, t4, t5, t6, t7⟩ := four ((hb4.block w.heap.size hg7).trans HR.out)
        go_wp2
        ((try simp only [Exit.inBlock, Exit.then]); refine bodyPost_ret_by (results_cell_row2 rfl _ _ w.heap.size 186 _ (0, 0) _ rfl (set4 ((hb4.block w.heap.size hg7).trans HR.out) _ _ _ _) rfl rfl (by kernel_rfl)) rfl ?_)
        exact ⟨StepSays.bad BAD.out (Nat.le_refl _), (set4_below (hbw.trans (hb4.mono hbs)) (Nat.le_refl _) _ _ _ _)⟩
    · have SW := stepW_copy ((y :: l).map tl)
      rw [len_map, allP_map, HL.out] at SW
      rw [if_one] at SW
      have LA : Hid (∀ W, Below wc.heap.size wc W → Calls Tryz.prog 166 #[.slice (some ⟨W0.heap.size, 1, none⟩) N N, .int .i64 2, .int .i64 2] W fun e w' => e = .returned (.bool (decide (2 ≤ N) && decide (N ≤ 2) && allP (y :: l))) ∧ Below W.heap.size W w') := Lib.hid fun W hW => by
        have := lall_any (some ⟨W0.heap.size, 1, none⟩) (y :: l) N 2 2 W (hE3.below hW) (hs3.below hW) (by rw [HL.out]; omega) (fun p hp => by have := HP.out p hp; omega) (by omega) (by omega)
        rw [HL.out] at this
        exact this
      have SAY := Lib.hid (fun w' (hl : Lies w' (fun b => w.heap.size ≤ b) 1 (some ⟨W0.heap.size, 1, none⟩) N (strV ((y :: l).map tl))) => StepSays.paths SW (by rw [len_map, HL.out]) hl)
      generalize (decide (2 ≤ N) && decide (N ≤ 2) && allP (y :: l)) = q at *
      rw [ho] at c0 HX5
      clear SW ho
      go_upto_region 8 with (fail)
      go_region_held3 (fun W => W.cell? ⟨g5, 0, none⟩ = some (.int .i64 2) ∧ W.cell? ⟨g5, 1, none⟩ = some (.slice (some ⟨W0.heap.size, 1, none⟩) N N) ∧ W.cell? ⟨g5, 2, none⟩ = some (.int .i64 0) ∧ W.cell? ⟨g5, 3, none⟩ = some (.slice none 0 0)) (go_keep) (first | (go_at_call 166; (with_reducible refine (LA.out _ (Below.refl _ _).drew).mono ?_); rintro e W4 ⟨rfl, hb4⟩; obtain ⟨s0, s1, s2, s3, _, _, _, _⟩ := four ((hb4.block g5 hg6).trans HX5.out); obtain ⟨t0, t1, t2, t3, t4, t5, t6, t7⟩ := four ((hb4.block w.heap.size hg7).trans HR.out)))
      go_wp2_with (fail)
      ((try simp only [Exit.inBlock, Exit.then]); refine bodyPost_ret_by (results_cell_row2 rfl _ _ w.heap.size 186 _ (0, 0) _ rfl (set4 ((hb4.block w.heap.size hg7).trans HR.out) _ _ _ _) rfl rfl (by kernel_rfl)) rfl ?_)
      exact ⟨SAY.out _ (LI.out _ ((set4_other _ _ _ hg8 _ _ _ _).trans (hb4.block _ hg9))), (set4_below (hbw.drew.trans (hb4.mono hbs)) (Nat.le_refl _) _ _ _ _)⟩
    · have SW := stepW_cat ((y :: l).map tl)
      rw [len_map, allP_map, HL.out] at SW
      have LA : Hid (∀ W, Below wc.heap.size wc W → Calls Tryz.prog 166 #[.slice (some ⟨W0.heap.size, 1, none⟩) N N, .int .i64 2, .int .i64 8] W fun e w' => e = .returned (.bool (decide (2 ≤ N) && decide (N ≤ 8) && allP (y :: l))) ∧ Below W.heap.size W w') := Lib.hid fun W hW => by
        have := lall_any (some ⟨W0.heap.size, 1, none⟩) (y :: l) N 2 8 W (hE3.below hW) (hs3.below hW) (by rw [HL.out]; omega) (fun p hp => by have := HP.out p hp; omega) (by omega) (by omega)
        rw [HL.out] at this
        exact this
      have SAY := Lib.hid (fun w' (hl : Lies w' (fun b => w.heap.size ≤ b) 1 (some ⟨W0.heap.size, 1, none⟩) N (strV ((y :: l).map tl))) => StepSays.paths SW (by rw [len_map, HL.out]) hl)
      generalize (decide (2 ≤ N) && decide (N ≤ 8) && allP (y :: l)) = q at *
      rw [ho] at c0 HX5
      clear SW ho
      go_upto_region 10 with (fail)
      go_region_held3 (fun W => W.cell? ⟨g5, 0, none⟩ = some (.int .i64 3) ∧ W.cell? ⟨g5, 1, none⟩ = some (.slice (some ⟨W0.heap.size, 1, none⟩) N N) ∧ W.cell? ⟨g5, 2, none⟩ = some (.int .i64 0) ∧ W.cell? ⟨g5, 3, none⟩ = some (.slice none 0 0)) (go_keep) (first | (go_at_call 166; (with_reducible refine (LA.out _ (Below.refl _ _).drew).mono ?_); rintro e W4 ⟨rfl, hb4⟩; obtain ⟨s0, s1, s2, s3, _, _, _, _⟩ := four ((hb4.block g5 hg6).trans HX5.out); obtain ⟨t0, t1, t2, t3, t4, t5, t6, t7⟩ := four ((hb4.block w.heap.size hg7).trans HR.out)))
      go_wp2_with (fail)
      ((try simp only [Exit.inBlock, Exit.then]); refine bodyPost_ret_by (results_cell_row2 rfl _ _ w.heap.size 186 _ (0, 0) _ rfl (set4 ((hb4.block w.heap.size hg7).trans HR.out) _ _ _ _) rfl rfl (by kernel_rfl)) rfl ?_)
      exact ⟨SAY.out _ (LI.out _ ((set4_other _ _ _ hg8 _ _ _ _).trans (hb4.block _ hg9))), (set4_below (hbw.drew.trans (hb4.mono hbs)) (Nat.le_refl _) _ _ _ _)⟩
    · have SW := stepW_upper ((y :: l).map tl)
      rw [len_map, allP_map, HL.out] at SW
      rw [if_one] at SW
      have LA : Hid (∀ W, Below wc.heap.size wc W → Calls Tryz.prog 166 #[.slice (some ⟨W0.heap.size, 1, none⟩) N N, .int .i64 1, .int .i64 1] W fun e w' => e = .returned (.bool (decide (1 ≤ N) && decide (N ≤ 1) && allP (y :: l))) ∧ Below W.heap.size W w') := Lib.hid fun W hW => by
        have := lall_any (some ⟨W0.heap.size, 1, none⟩) (y :: l) N 1 1 W (hE3.below hW) (hs3.below hW) (by rw [HL.out]; omega) (fun p hp => by have := HP.out p hp; omega) (by omega) (by omega)
        rw [HL.out] at this
        exact this
      have SAY := Lib.hid (fun w' (hl : Lies w' (fun b => w.heap.size ≤ b) 1 (some ⟨W0.heap.size, 1, none⟩) N (strV ((y :: l).map tl))) => StepSays.paths SW (by rw [len_map, HL.out]) hl)
      generalize (decide (1 ≤ N) && decide (N ≤ 1) && allP (y :: l)) = q at *
      rw [ho] at c0 HX5
      clear SW ho
      go_upto_region 15 with (fail)
      go_region_held3 (fun W => W.cell? ⟨g5, 0, none⟩ = some (.int .i64 4) ∧ W.cell? ⟨g5, 1, none⟩ = some (.slice (some ⟨W0.heap.size, 1, none⟩) N N) ∧ W.cell? ⟨g5, 2, none⟩ = some (.int .i64 0) ∧ W.cell? ⟨g5, 3, none⟩ = some (.slice none 0 0)) (go_keep) (first | (go_at_call 166; (with_reducible refine (LA.out _ (Below.refl _ _).drew).mono ?_); rintro e W4 ⟨rfl, hb4⟩; obtain ⟨s0, s1, s2, s3, _, _, _, _⟩ := four ((hb4.block g5 hg6).trans HX5.out); obtain ⟨t0, t1, t2, t3, t4, t5, t6, t7⟩ := four ((hb4.block w.heap.size hg7).trans HR.out)))
      go_wp2_with (fail)
      ((try simp only [Exit.inBlock, Exit.then]); refine bodyPost_ret_by (results_cell_row2 rfl _ _ w.heap.size 186 _ (0, 0) _ rfl (set4 ((hb4.block w.heap.size hg7).trans HR.out) _ _ _ _) rfl rfl (by kernel_rfl)) rfl ?_)
      exact ⟨SAY.out _ (LI.out _ ((set4_other _ _ _ hg8 _ _ _ _).trans (hb4.block _ hg9))), (set4_below (hbw.drew.trans (hb4.mono hbs)) (Nat.le_refl _) _ _ _ _)⟩
    · have SW := stepW_sort ((y :: l).map tl)
      rw [len_map, allP_map, HL.out] at SW
      rw [if_one] at SW
      have LA : Hid (∀ W, Below wc.heap.size wc W → Calls Tryz.prog 166 #[.slice (some ⟨W0.heap.size, 1, none⟩) N N, .int .i64 1, .int .i64 1] W fun e w' => e = .returned (.bool (decide (1 ≤ N) && decide (N ≤ 1) && allP (y :: l))) ∧ Below W.heap.size W w') := Lib.hid fun W hW => by
        have := lall_any (some ⟨W0.heap.size, 1, none⟩) (y :: l) N 1 1 W (hE3.below hW) (hs3.below hW) (by rw [HL.out]; omega) (fun p hp => by have := HP.out p hp; omega) (by omega) (by omega)
        rw [HL.out] at this
        exact this
      have SAY := Lib.hid (fun w' (hl : Lies w' (fun b => w.heap.size ≤ b) 1 (some ⟨W0.heap.size, 1, none⟩) N (strV ((y :: l).map tl))) => StepSays.paths SW (by rw [len_map, HL.out]) hl)
      generalize (decide (1 ≤ N) && decide (N ≤ 1) && allP (y :: l)) = q at *
      rw [ho] at c0 HX5
      clear SW ho
      go_upto_region 15 with (fail)
      go_region_held3 (fun W => W.cell? ⟨g5, 0, none⟩ = some (.int .i64 5) ∧ W.cell? ⟨g5, 1, none⟩ = some (.slice (some ⟨W0.heap.size, 1, none⟩) N N) ∧ W.cell? ⟨g5, 2, none⟩ = some (.int .i64 0) ∧ W.cell? ⟨g5, 3, none⟩ = some (.slice none 0 0)) (go_keep) (first | (go_at_call 166; (with_reducible refine (LA.out _ (Below.refl _ _).drew).mono ?_); rintro e W4 ⟨rfl, hb4⟩; obtain ⟨s0, s1, s2, s3, _, _, _, _⟩ := four ((hb4.block g5 hg6).trans HX5.out); obtain ⟨t0, t1, t2, t3, t4, t5, t6, t7⟩ := four ((hb4.block w.heap.size hg7).trans HR.out)))
      go_wp2_with (fail)
      ((try simp only [Exit.inBlock, Exit.then]); refine bodyPost_ret_by (results_cell_row2 rfl _ _ w.heap.size 186 _ (0, 0) _ rfl (set4 ((hb4.block w.heap.size hg7).trans HR.out) _ _ _ _) rfl rfl (by kernel_rfl)) rfl ?_)
      exact ⟨SAY.out _ (LI.out _ ((set4_other _ _ _ hg8 _ _ _ _).trans (hb4.block _ hg9))), (set4_below (hbw.drew.trans (hb4.mono hbs)) (Nat.le_refl _) _ _ _ _)⟩
    · have SW := stepW_drop ((y :: l).map tl)
      rw [len_map, allP_map, HL.out] at SW
      rw [if_one] at SW
      have LA : Hid (∀ W, Below wc.heap.size wc W → Calls Tryz.prog 166 #[.slice (some ⟨W0.heap.size, 1, none⟩) N N, .int .i64 1, .int .i64 1] W fun e w' => e = .returned (.bool (decide (1 ≤ N) && decide (N ≤ 1) && allP (y :: l))) ∧ Below W.heap.size W w') := Lib.hid fun W hW => by
        have := lall_any (some ⟨W0.heap.size, 1, none⟩) (y :: l) N 1 1 W (hE3.below hW) (hs3.below hW) (by rw [HL.out]; omega) (fun p hp => by have := HP.out p hp; omega) (by omega) (by omega)
        rw [HL.out] at this
        exact this
      have SAY := Lib.hid (fun w' (hl : Lies w' (fun b => w.heap.size ≤ b) 1 (some ⟨W0.heap.size, 1, none⟩) N (strV ((y :: l).map tl))) => StepSays.paths SW (by rw [len_map, HL.out]) hl)
      generalize (decide (1 ≤ N) && decide (N ≤ 1) && allP (y :: l)) = q at *
      rw [ho] at c0 HX5
      clear SW ho
      go_upto_region 15 with (fail)
      go_region_held3 (fun W => W.cell? ⟨g5, 0, none⟩ = some (.int .i64 6) ∧ W.cell? ⟨g5, 1, none⟩ = some (.slice (some ⟨W0.heap.size, 1, none⟩) N N) ∧ W.cell? ⟨g5, 2, none⟩ = some (.int .i64 0) ∧ W.cell? ⟨g5, 3, none⟩ = some (.slice none 0 0)) (go_keep) (first | (go_at_call 166; (with_reducible refine (LA.out _ (Below.refl _ _).drew).mono ?_); rintro e W4 ⟨rfl, hb4⟩; obtain ⟨s0, s1, s2, s3, _, _, _, _⟩ := four ((hb4.block g5 hg6).trans HX5.out); obtain ⟨t0, t1, t2, t3, t4, t5, t6, t7⟩ := four ((hb4.block w.heap.size hg7).trans HR.out)))
      go_wp2_with (fail)
      ((try simp only [Exit.inBlock, Exit.then]); refine bodyPost_ret_by (results_cell_row2 rfl _ _ w.heap.size 186 _ (0, 0) _ rfl (set4 ((hb4.block w.heap.size hg7).trans HR.out) _ _ _ _) rfl rfl (by kernel_rfl)) rfl ?_)
      exact ⟨SAY.out _ (LI.out _ ((set4_other _ _ _ hg8 _ _ _ _).trans (hb4.block _ hg9))), (set4_below (hbw.drew.trans (hb4.mono hbs)) (Nat.le_refl _) _ _ _ _)⟩
    · have SW := stepW_need ((y :: l).map tl)
      rw [ho] at c0 HX5
      clear ho
      have F5 : Hid (∀ W, Below wc.heap.size wc W → W.heap[g5]? = some (.cells #[.int .i64 7, .slice (some ⟨W0.heap.size, 1, none⟩) N N, .int .i64 0, .slice none 0 0] 186 (0, 0))) := Lib.hid (fun W hW => (hW.block g5 hg6).trans HX5.out)
      rcases l with _ | ⟨z, l⟩
      · have hN1 : N = 1 := by rw [← HL.out]; rfl
        subst hN1
        have K4 : Hid (∀ W, Below wc.heap.size wc W → W.cell? ⟨W0.heap.size, 1, none⟩ = some (.string y)) := Lib.hid (fun W hW => by
          obtain ⟨_, k1, k2, k3⟩ := hs3.at_ (k := 0) (by simp)
          injection k1 with k1
          subst k1
          exact (hW.cell (p := ⟨W0.heap.size, 1, none⟩) k2).trans k3)
        have TX := Lib.hid (fun W => pname_any y (by have := HP.out y (by simp); omega) W)
        cases hp : nameOk (tl y)
        · have BAD := Lib.hid (SW.trans (if_neg (by simp [hp])))
          have N0 : nameE (tl y) = 14 := by rw [nameE, hp]; rfl
          rw [N0] at TX
          clear N0
          clear hp SW
          go_upto_region 17 with (fail)
          refine wp_region_late (C := fun w' => Below wc.heap.size wc w') 9 11 (by kernel_rfl) (by kernel_rfl) (fun _ _ d _ _ h => by cases d <;> exact h) (Below.refl _ _).drew ?_
          repeat (quiet_step (first | (intro _; rfl) | (intro hss; obtain ⟨v0, v1, v2, v3, _, _, _, _⟩ := four (F5.out _ hss); simp only [v0, v1, v2, v3, Result.andThen]; first | exact ⟨rfl, rfl⟩ | exact ⟨trivial, rfl⟩) | (intro hss; have kk := K4.out _ hss; simp only [kk, Result.andThen]; first | exact ⟨rfl, rfl⟩ | exact ⟨trivial, rfl⟩) | (intro hss; go_at_call 33; (with_reducible refine (TX.out _).mono ?_); rintro e w' ⟨rfl, rfl⟩; exact ⟨rfl, hss⟩)))
          refine wpQuiet_nil ?_
          refine ⟨.bool false, Or.inl ⟨rfl, fun w => rfl⟩, ?_⟩
          refine ⟨.bool false, Or.inl ⟨rfl, fun w => rfl⟩, ?_⟩
          intro w4 hb4
          obtain ⟨t0, t1, t2, t3, t4, t5, t6, t7⟩ := four ((hb4.block w.heap.size hg7).trans HR.out)
          go_wp2
          ((try simp only [Exit.inBlock, Exit.then]); refine bodyPost_ret_by (results_cell_row2 rfl _ _ w.heap.size 186 _ (0, 0) _ rfl (set4 ((hb4.block w.heap.size hg7).trans HR.out) _ _ _ _) rfl rfl (by kernel_rfl)) rfl ?_)
          exact ⟨StepSays.bad BAD.out (Nat.le_refl _), (set4_below (hbw.trans (hb4.mono hbs)) (Nat.le_refl _) _ _ _ _)⟩
        · have GOOD := Lib.hid (SW.trans (if_pos (by simp [hp])))
          have N0 : nameE (tl y) = 0 := by rw [nameE, hp]; rfl
          rw [N0] at TX
          clear N0
          clear hp SW
          go_upto_region 17 with (fail)
          refine wp_region_late (C := fun w' => Below wc.heap.size wc w') 9 11 (by kernel_rfl) (by kernel_rfl) (fun _ _ d _ _ h => by cases d <;> exact h) (Below.refl _ _).drew ?_
          repeat (quiet_step (first | (intro _; rfl) | (intro hss; obtain ⟨v0, v1, v2, v3, _, _, _, _⟩ := four (F5.out _ hss); simp only [v0, v1, v2, v3, Result.andThen]; first | exact ⟨rfl, rfl⟩ | exact ⟨trivial, rfl⟩) | (intro hss; have kk := K4.out _ hss; simp only [kk, Result.andThen]; first | exact ⟨rfl, rfl⟩ | exact ⟨trivial, rfl⟩) | (intro hss; go_at_call 33; (with_reducible refine (TX.out _).mono ?_); rintro e w' ⟨rfl, rfl⟩; exact ⟨rfl, hss⟩)))
          refine wpQuiet_nil ?_
          refine ⟨.bool true, Or.inl ⟨rfl, fun w => rfl⟩, ?_⟩
          refine ⟨.bool true, Or.inl ⟨rfl, fun w => rfl⟩, ?_⟩
          intro w4 hb4
          obtain ⟨t0, t1, t2, t3, t4, t5, t6, t7⟩ := four ((hb4.block w.heap.size hg7).trans HR.out)
          go_wp2
          ((try simp only [Exit.inBlock, Exit.then]); refine bodyPost_ret_by (results_cell_row2 rfl _ _ w.heap.size 186 _ (0, 0) _ rfl (set4 ((hb4.block w.heap.size hg7).trans HR.out) _ _ _ _) rfl rfl (by kernel_rfl)) rfl ?_)
          exact ⟨StepSays.good GOOD.out (Nat.le_refl _) rfl (LI.out _ ((set4_other _ _ _ hg8 _ _ _ _).trans (hb4.block _ hg9))), (set4_below (hbw.trans (hb4.mono hbs)) (Nat.le_refl _) _ _ _ _)⟩
      · have g2 : ((N : Int) == 1) = false := by have := HL.out; simp at this; simp; omega
        have BAD := Lib.hid (SW.trans (if_neg (by simp)))
        clear SW
        go_upto_region 17 with (fail)
        refine wp_region_late (C := fun w' => Below wc.heap.size wc w') 9 11 (by kernel_rfl) (by kernel_rfl) (fun _ _ d _ _ h => by cases d <;> exact h) (Below.refl _ _).drew ?_
        repeat (quiet_step (first | (intro _; rfl) | (intro hss; obtain ⟨v0, v1, v2, v3, _, _, _, _⟩ := four (F5.out _ hss); simp only [v0, v1, v2, v3, Result.andThen]; first | exact ⟨rfl, rfl⟩ | exact ⟨trivial, rfl⟩)))
        refine wpQuiet_nil ?_
        refine ⟨_, Or.inr ⟨rfl, rfl⟩, ?_⟩
        refine ⟨.bool false, Or.inl ⟨rfl, fun w => rfl⟩, ?_⟩
        intro w4 hb4
        obtain ⟨t0, t1, t2, t3, t4, t5, t6, t7⟩ := four ((hb4.block w.heap.size hg7).trans HR.out)
        go_wp2
        ((try simp only [Exit.inBlock, Exit.then]); refine bodyPost_ret_by (results_cell_row2 rfl _ _ w.heap.size 186 _ (0, 0) _ rfl (set4 ((hb4.block w.heap.size hg7).trans HR.out) _ _ _ _) rfl rfl (by kernel_rfl)) rfl ?_)
        exact ⟨StepSays.bad BAD.out (Nat.le_refl _), (set4_below (hbw.trans (hb4.mono hbs)) (Nat.le_refl _) _ _ _ _)⟩
    · have SW := stepW_fail ((y :: l).map tl)
      rw [ho] at c0 HX5
      clear ho
      have F5 : Hid (∀ W, Below wc.heap.size wc W → W.heap[g5]? = some (.cells #[.int .i64 8, .slice (some ⟨W0.heap.size, 1, none⟩) N N, .int .i64 0, .slice none 0 0] 186 (0, 0))) := Lib.hid (fun W hW => (hW.block g5 hg6).trans HX5.out)
      rcases l with _ | ⟨z, l⟩
      · have hN1 : N = 1 := by rw [← HL.out]; rfl
        subst hN1
        have K4 : Hid (∀ W, Below wc.heap.size wc W → W.cell? ⟨W0.heap.size, 1, none⟩ = some (.string y)) := Lib.hid (fun W hW => by
          obtain ⟨_, k1, k2, k3⟩ := hs3.at_ (k := 0) (by simp)
          injection k1 with k1
          subst k1
          exact (hW.cell (p := ⟨W0.heap.size, 1, none⟩) k2).trans k3)
        have TX := Lib.hid (fun W => text_any y (by have := HP.out y (by simp); omega) W)
        cases hp : textOk (tl y)
        · have BAD := Lib.hid (SW.trans (if_neg (by simp [hp])))
          rw [hp] at TX
          clear hp SW
          go_upto_region 19 with (fail)
          refine wp_region_late (C := fun w' => Below wc.heap.size wc w') 9 10 (by kernel_rfl) (by kernel_rfl) (fun _ _ d _ _ h => by cases d <;> exact h) (Below.refl _ _).drew ?_
          repeat (quiet_step (first | (intro _; rfl) | (intro hss; obtain ⟨v0, v1, v2, v3, _, _, _, _⟩ := four (F5.out _ hss); simp only [v0, v1, v2, v3, Result.andThen]; first | exact ⟨rfl, rfl⟩ | exact ⟨trivial, rfl⟩) | (intro hss; have kk := K4.out _ hss; simp only [kk, Result.andThen]; first | exact ⟨rfl, rfl⟩ | exact ⟨trivial, rfl⟩) | (intro hss; go_at_call 167; (with_reducible refine (TX.out _).mono ?_); rintro e w' ⟨rfl, rfl⟩; exact ⟨rfl, hss⟩)))
          refine wpQuiet_nil ?_
          refine ⟨.bool false, Or.inl ⟨rfl, fun w => rfl⟩, ?_⟩
          intro w4 hb4
          obtain ⟨t0, t1, t2, t3, t4, t5, t6, t7⟩ := four ((hb4.block w.heap.size hg7).trans HR.out)
          go_wp2
          ((try simp only [Exit.inBlock, Exit.then]); refine bodyPost_ret_by (results_cell_row2 rfl _ _ w.heap.size 186 _ (0, 0) _ rfl (set4 ((hb4.block w.heap.size hg7).trans HR.out) _ _ _ _) rfl rfl (by kernel_rfl)) rfl ?_)
          exact ⟨StepSays.bad BAD.out (Nat.le_refl _), (set4_below (hbw.trans (hb4.mono hbs)) (Nat.le_refl _) _ _ _ _)⟩
        · have GOOD := Lib.hid (SW.trans (if_pos (by simp [hp])))
          rw [hp] at TX
          clear hp SW
          go_upto_region 19 with (fail)
          refine wp_region_late (C := fun w' => Below wc.heap.size wc w') 9 10 (by kernel_rfl) (by kernel_rfl) (fun _ _ d _ _ h => by cases d <;> exact h) (Below.refl _ _).drew ?_
          repeat (quiet_step (first | (intro _; rfl) | (intro hss; obtain ⟨v0, v1, v2, v3, _, _, _, _⟩ := four (F5.out _ hss); simp only [v0, v1, v2, v3, Result.andThen]; first | exact ⟨rfl, rfl⟩ | exact ⟨trivial, rfl⟩) | (intro hss; have kk := K4.out _ hss; simp only [kk, Result.andThen]; first | exact ⟨rfl, rfl⟩ | exact ⟨trivial, rfl⟩) | (intro hss; go_at_call 167; (with_reducible refine (TX.out _).mono ?_); rintro e w' ⟨rfl, rfl⟩; exact ⟨rfl, hss⟩)))
          refine wpQuiet_nil ?_
          refine ⟨.bool true, Or.inl ⟨rfl, fun w => rfl⟩, ?_⟩
          intro w4 hb4
          obtain ⟨t0, t1, t2, t3, t4, t5, t6, t7⟩ := four ((hb4.block w.heap.size hg7).trans HR.out)
          go_wp2
          ((try simp only [Exit.inBlock, Exit.then]); refine bodyPost_ret_by (results_cell_row2 rfl _ _ w.heap.size 186 _ (0, 0) _ rfl (set4 ((hb4.block w.heap.size hg7).trans HR.out) _ _ _ _) rfl rfl (by kernel_rfl)) rfl ?_)
          exact ⟨StepSays.good GOOD.out (Nat.le_refl _) rfl (LI.out _ ((set4_other _ _ _ hg8 _ _ _ _).trans (hb4.block _ hg9))), (set4_below (hbw.trans (hb4.mono hbs)) (Nat.le_refl _) _ _ _ _)⟩
      · have g2 : ((N : Int) == 1) = false := by have := HL.out; simp at this; simp; omega
        have BAD := Lib.hid (SW.trans (if_neg (by simp)))
        clear SW
        go_upto_region 19 with (fail)
        refine wp_region_late (C := fun w' => Below wc.heap.size wc w') 9 10 (by kernel_rfl) (by kernel_rfl) (fun _ _ d _ _ h => by cases d <;> exact h) (Below.refl _ _).drew ?_
        repeat (quiet_step (first | (intro _; rfl) | (intro hss; obtain ⟨v0, v1, v2, v3, _, _, _, _⟩ := four (F5.out _ hss); simp only [v0, v1, v2, v3, Result.andThen]; first | exact ⟨rfl, rfl⟩ | exact ⟨trivial, rfl⟩)))
        refine wpQuiet_nil ?_
        refine ⟨.bool false, Or.inl ⟨rfl, fun w => rfl⟩, ?_⟩
        intro w4 hb4
        obtain ⟨t0, t1, t2, t3, t4, t5, t6, t7⟩ := four ((hb4.block w.heap.size hg7).trans HR.out)
        go_wp2
        ((try simp only [Exit.inBlock, Exit.then]); refine bodyPost_ret_by (results_cell_row2 rfl _ _ w.heap.size 186 _ (0, 0) _ rfl (set4 ((hb4.block w.heap.size hg7).trans HR.out) _ _ _ _) rfl rfl (by kernel_rfl)) rfl ?_)
        exact ⟨StepSays.bad BAD.out (Nat.le_refl _), (set4_below (hbw.trans (hb4.mono hbs)) (Nat.le_refl _) _ _ _ _)⟩
    · have SW := stepW_loop ((y :: l).map tl)
      rw [ho] at c0 HX5
      clear ho
      rcases l with _ | ⟨z, l⟩
      · have hN1 : N = 1 := by rw [← HL.out]; rfl
        subst hN1
        obtain ⟨_, k1, k2, k3⟩ := hs3.at_ (k := 0) (by simp)
        injection k1 with k1
        subst k1
        have k4 : wc.cell? ⟨W0.heap.size, 1, none⟩ = some (.string y) := k3
        have TX := Lib.hid (times_any y (by have := HP.out y (by simp); omega) wc hE3)
        have SAY : Hid (∀ (n : Int) w', (∀ k, number (tl y) = some k → n = k) → StepSays w' (fun b => w.heap.size ≤ b) ([108, 111, 111, 112] :: [y].map tl) (.returned (.tuple #[.agg #[.int .i64 9, .slice none 0 0, .int .i64 n, .slice none 0 0], .bool (number (tl y)).isSome]))) := Lib.hid (fun n w' hk => by
          cases hp : number (tl y) with
          | none => exact StepSays.bad (SW.trans (by simp [hp])) (Nat.le_refl _)
          | some k =>
            obtain rfl := hk k hp
            exact StepSays.good (xs := []) (SW.trans (by simp [hp])) (Nat.le_refl _) rfl Lies.none_)
        clear k3 SW
        go_wp2_with (go_at_call 168; (with_reducible refine (TX.out).mono ?_); rintro e W4 ⟨⟨n, rfl, hk⟩, hb4⟩; have HK := Lib.hid hk; clear hk; obtain ⟨t0, t1, t2, t3, t4, t5, t6, t7⟩ := four ((hb4.block w.heap.size hg7).trans HR.out))
        ((try simp only [Exit.inBlock, Exit.then]); refine bodyPost_ret_by (results_cell_row2 rfl _ _ w.heap.size 186 _ (0, 0) _ rfl (set4 ((hb4.block w.heap.size hg7).trans HR.out) _ _ _ _) rfl rfl (by kernel_rfl)) rfl ?_)
        exact ⟨SAY.out _ _ HK.out, (set4_below (hbw.trans (hb4.mono hbs)) (Nat.le_refl _) _ _ _ _)⟩
      · have g2 : ((N : Int) != 1) = true := by have := HL.out; simp at this; simp; omega
        have BAD : Hid (stepW ([108, 111, 111, 112] :: (y :: z :: l).map tl) = none) := Lib.hid SW
        clear SW
        go_wp2_with (fail)
        ((try simp only [Exit.inBlock, Exit.then]); refine bodyPost_ret_by (results_cell_row2 rfl _ _ w.heap.size 186 _ (0, 0) _ rfl (set4 HR.out _ _ _ _) rfl rfl (by kernel_rfl)) rfl ?_)
        exact ⟨StepSays.bad BAD.out (Nat.le_refl _), (set4_below (hbw) (Nat.le_refl _) _ _ _ _)⟩
    · have SW := stepW_if ((y :: l).map tl)
      rw [len_map, allP_map, HL.out] at SW
      rw [if_one] at SW
      have LA : Hid (∀ W, Below wc.heap.size wc W → Calls Tryz.prog 166 #[.slice (some ⟨W0.heap.size, 1, none⟩) N N, .int .i64 1, .int .i64 1] W fun e w' => e = .returned (.bool (decide (1 ≤ N) && decide (N ≤ 1) && allP (y :: l))) ∧ Below W.heap.size W w') := Lib.hid fun W hW => by
        have := lall_any (some ⟨W0.heap.size, 1, none⟩) (y :: l) N 1 1 W (hE3.below hW) (hs3.below hW) (by rw [HL.out]; omega) (fun p hp => by have := HP.out p hp; omega) (by omega) (by omega)
        rw [HL.out] at this
        exact this
      have SAY := Lib.hid (fun w' (hl : Lies w' (fun b => w.heap.size ≤ b) 1 (some ⟨W0.heap.size, 1, none⟩) N (strV ((y :: l).map tl))) => StepSays.paths SW (by rw [len_map, HL.out]) hl)
      generalize (decide (1 ≤ N) && decide (N ≤ 1) && allP (y :: l)) = q at *
      rw [ho] at c0 HX5
      clear SW ho
      go_upto_region 15 with (fail)
      go_region_held3 (fun W => W.cell? ⟨g5, 0, none⟩ = some (.int .i64 10) ∧ W.cell? ⟨g5, 1, none⟩ = some (.slice (some ⟨W0.heap.size, 1, none⟩) N N) ∧ W.cell? ⟨g5, 2, none⟩ = some (.int .i64 0) ∧ W.cell? ⟨g5, 3, none⟩ = some (.slice none 0 0)) (go_keep) (first | (go_at_call 166; (with_reducible refine (LA.out _ (Below.refl _ _).drew).mono ?_); rintro e W4 ⟨rfl, hb4⟩; obtain ⟨s0, s1, s2, s3, _, _, _, _⟩ := four ((hb4.block g5 hg6).trans HX5.out); obtain ⟨t0, t1, t2, t3, t4, t5, t6, t7⟩ := four ((hb4.block w.heap.size hg7).trans HR.out)))
      go_wp2_with (fail)
      ((try simp only [Exit.inBlock, Exit.then]); refine bodyPost_ret_by (results_cell_row2 rfl _ _ w.heap.size 186 _ (0, 0) _ rfl (set4 ((hb4.block w.heap.size hg7).trans HR.out) _ _ _ _) rfl rfl (by kernel_rfl)) rfl ?_)
      exact ⟨SAY.out _ (LI.out _ ((set4_other _ _ _ hg8 _ _ _ _).trans (hb4.block _ hg9))), (set4_below (hbw.drew.trans (hb4.mono hbs)) (Nat.le_refl _) _ _ _ _)⟩
    · have BAD := Lib.hid (hno (tl y :: l.map tl))
      clear hno
      rcases ho with ho | ho
      · rw [ho] at c0 HX5
        clear ho
        go_wp2_with (fail)
        ((try simp only [Exit.inBlock, Exit.then]); refine bodyPost_ret_by (results_cell_row2 rfl _ _ w.heap.size 186 _ (0, 0) _ rfl (set4 HR.out _ _ _ _) rfl rfl (by kernel_rfl)) rfl ?_)
        exact ⟨StepSays.bad BAD.out (Nat.le_refl _), (set4_below (hbw) (Nat.le_refl _) _ _ _ _)⟩
      · rw [ho] at c0 HX5
        clear ho
        go_wp2_with (fail)
        ((try simp only [Exit.inBlock, Exit.then]); refine bodyPost_ret_by (results_cell_row2 rfl _ _ w.heap.size 186 _ (0, 0) _ rfl (set4 HR.out _ _ _ _) rfl rfl (by kernel_rfl)) rfl ?_)
        exact ⟨StepSays.bad BAD.out (Nat.le_refl _), (set4_below (hbw) (Nat.le_refl _) _ _ _ _)⟩
end Go.Proofs.YtifiipmmgnmciaaGreatDoor.Lg
