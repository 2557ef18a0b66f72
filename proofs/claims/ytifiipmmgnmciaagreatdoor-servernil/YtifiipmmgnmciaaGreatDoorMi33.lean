/- Joined by mkmerged.py: SvCheck2, SvCheck3, SvSubmit. -/
import Derived.Test.YtifiipmmgnmciaaGreatDoorMi32
import Derived.Test.YtifiipmmgnmciaaGreatDoorMi29
import Derived.Deep.CutRange
import Derived.Test.YtifiipmmgnmciaaGreatDoorMi26
import Derived.Test.YtifiipmmgnmciaaGreatDoorMi24
/- SvCheck2, what a claim needs of it (prune.py). -/
namespace Go.Proofs.YtifiipmmgnmciaaGreatDoor.Sv
open Go.RowKit Go.Maps
open Dk (Kp)
set_option linter.unusedVariables false
set_option maxRecDepth 100000
theorem ready_yes (n c : ByteArray) (Ad As : Option Addr) (cd cs bx m k : Nat) (W : World) (hm : Mv.VMap W m k NoM) (hb : W.cell? ⟨bx, 0, none⟩ = some (.map (some m))) (hn : n.size ≤ maxLen) :
    Calls Tryz.prog 194 #[.agg (tgC n c Ad cd As cs), .pointer (some ⟨bx, 0, none⟩)] W fun e w' => e = .returned (.bool true) ∧ Below W.heap.size W w' := by
  obtain ⟨W0, e0⟩ : ∃ W0, W0 = W.alloc (.cells (tgC n c Ad cd As cs) 122) := ⟨_, rfl⟩
  have B0 : Below W.heap.size W W0 := by rw [e0]; exact (Below.refl _ _).alloc (Nat.le_refl _) _
  have z0 : W0.heap[W.heap.size]? = some (.cells (tgC n c Ad cd As cs) 122 (0, 0)) := by rw [e0]; exact heap_alloc_new _ _
  have x0 : W0.cell? ⟨W.heap.size, 0, none⟩ = some (.string n) := (cell_heap z0 0).trans rfl
  have x2 : W0.cell? ⟨W.heap.size, 2, none⟩ = some (.slice Ad 0 cd) := (cell_heap z0 2).trans rfl
  have b0 : W0.cell? ⟨bx, 0, none⟩ = some (.map (some m)) := (B0.cell (p := ⟨bx, 0, none⟩) (World.block_lt_of_cell? W _ hb)).trans hb
  have lk := (hm.later B0).look1 (t := 84) (e := 4) (by kernel_rfl) (z := .bool false) (by rfl) hn
  simp only [NoM, Option.getD_none] at lk
  have HB := Lib.hid B0
  clear B0 z0 hm hb
  go_enter Tryz.func194, Tryz.ntmps194
  go_upto_region 1 with (fail)
  rw [← e0]
  clear e0
  go_wp2_with (go_at_call 118; (with_reducible refine (containsS0 _ _ _ _).mono ?_); rintro e w' ⟨rfl, rfl⟩)
  go_ret
  exact ⟨rfl, HB.out⟩
theorem ready_no (n c : ByteArray) (Ad As : Option Addr) (cd cs bx m k : Nat) (W : World) (hm : Mv.VMap W m k (Mv.putM NoM n (.bool true))) (hb : W.cell? ⟨bx, 0, none⟩ = some (.map (some m))) (hn : n.size ≤ maxLen) :
    Calls Tryz.prog 194 #[.agg (tgC n c Ad cd As cs), .pointer (some ⟨bx, 0, none⟩)] W fun e w' => e = .returned (.bool false) ∧ Below W.heap.size W w' := by
  obtain ⟨W0, e0⟩ : ∃ W0, W0 = W.alloc (.cells (tgC n c Ad cd As cs) 122) := ⟨_, rfl⟩
  have B0 : Below W.heap.size W W0 := by rw [e0]; exact (Below.refl _ _).alloc (Nat.le_refl _) _
  have z0 : W0.heap[W.heap.size]? = some (.cells (tgC n c Ad cd As cs) 122 (0, 0)) := by rw [e0]; exact heap_alloc_new _ _
  have x0 : W0.cell? ⟨W.heap.size, 0, none⟩ = some (.string n) := (cell_heap z0 0).trans rfl
  have b0 : W0.cell? ⟨bx, 0, none⟩ = some (.map (some m)) := (B0.cell (p := ⟨bx, 0, none⟩) (World.block_lt_of_cell? W _ hb)).trans hb
  have lk := (hm.later B0).look1 (t := 84) (e := 4) (by kernel_rfl) (z := .bool false) (by rfl) hn
  simp only [put_at, Option.getD_some] at lk
  have HB := Lib.hid B0
  clear B0 z0 hm hb
  go_enter Tryz.func194, Tryz.ntmps194
  go_upto_region 1 with (fail)
  rw [← e0]
  clear e0
  go_wp2_with (fail)
  go_ret
  exact ⟨rfl, HB.out⟩
theorem indexR_yes (W : World) (ad : Addr) (tc bx m k : Nat) (n c : ByteArray) (Ad As : Option Addr) (cd cs : Nat) (h : TgAt W ad n c Ad cd As cs) (hm : Mv.VMap W m k NoM) (hb : W.cell? ⟨bx, 0, none⟩ = some (.map (some m))) (hn : n.size ≤ maxLen) :
    Calls Tryz.prog 128 #[.slice (some ad) 1 tc, .func (.func 194) #[] #[.pointer (some ⟨bx, 0, none⟩)]] W fun e w' => e = .returned (.int .i64 0) ∧ Below W.heap.size W w' := by
  have C := Lib.hid (ready_yes n c Ad As cd cs bx m k W hm hb hn)
  obtain ⟨c0, c1, c2, c3⟩ := h.cells
  clear h hm hb
  go_enter Tryz.func128, Tryz.ntmps128
  go_wp2_with (fail)
  go_loopw [8] (fun v8 wr => v8 = .int .i64 0 ∧ wr = W) (fun _ _ => 0)
  case atStart => exact ⟨rfl, rfl⟩
  case round =>
    obtain ⟨rfl, rfl⟩ := hrel
    go_wp2_with (go_at_call 194; (with_reducible refine (C.out).mono ?_); rintro e w1 ⟨rfl, hb⟩)
    go_ret
    exact ⟨rfl, hb⟩
theorem indexR_no (W : World) (ad : Addr) (tc bx m k : Nat) (n c : ByteArray) (Ad As : Option Addr) (cd cs : Nat) (h : TgAt W ad n c Ad cd As cs) (hm : Mv.VMap W m k (Mv.putM NoM n (.bool true))) (hb : W.cell? ⟨bx, 0, none⟩ = some (.map (some m))) (hn : n.size ≤ maxLen) :
    Calls Tryz.prog 128 #[.slice (some ad) 1 tc, .func (.func 194) #[] #[.pointer (some ⟨bx, 0, none⟩)]] W fun e w' => e = .returned (.int .i64 (-1)) ∧ Below W.heap.size W w' := by
  have C := Lib.hid (ready_no n c Ad As cd cs bx m k W hm hb hn)
  obtain ⟨c0, c1, c2, c3⟩ := h.cells
  clear h hm hb
  go_enter Tryz.func128, Tryz.ntmps128
  go_wp2_with (fail)
  go_loopw [8] (fun v8 wr => (v8 = .int .i64 0 ∧ wr = W) ∨ (v8 = .int .i64 1 ∧ Below W.heap.size W wr)) (fun v8 _ => (2 - intOf v8).toNat)
  case atStart => exact .inl ⟨rfl, rfl⟩
  case round =>
    rcases hrel with ⟨rfl, rfl⟩ | ⟨rfl, hb⟩
    · go_wp2_with (go_at_call 194; (with_reducible refine (C.out).mono ?_); rintro e w1 ⟨rfl, hb⟩)
      go_roundw
      case rel => exact .inr ⟨rfl, hb⟩
      case measure => simp [intOf]
    · go_wp2_with (fail)
      go_ret
      exact ⟨rfl, hb⟩
set_option maxHeartbeats 2000000 in
theorem sorted1 (W : World) (ad : Addr) (tc : Nat) (n c : ByteArray) (Ad As : Option Addr) (cd cs : Nat) (h : TgAt W ad n c Ad cd As cs) (hn : n.size ≤ maxLen) :
    Calls Tryz.prog 131 #[.slice (some ad) 1 tc] W fun e w' => (∃ g cc, e = .returned (.slice (some ⟨g, 0, none⟩) 1 cc)) ∧ Below W.heap.size W w' := by
  obtain ⟨i0, hi, hz0, hz1, hz2⟩ := info_parts Lg.infoS
  have hmm := @run_makeMap Tryz.prog
  obtain ⟨W0, e0⟩ : ∃ W0, W0 = (W.alloc (.map #[] 0)).alloc (.cells #[.map (some W.heap.size)] 84) := ⟨_, rfl⟩
  have hs0 : W0.heap.size = W.heap.size + 2 := by rw [e0]; simp
  have B0 : Below W.heap.size W W0 := by rw [e0]; exact ((Below.refl _ _).alloc (Nat.le_refl _) _).alloc (by simp) _
  have m0 : Mv.VMap W0 W.heap.size 0 NoM := by
    rw [e0]
    exact (Mv.VMap.made W).later ((Below.refl _ _).alloc (Nat.le_refl _) _)
  have k0 : W0.heap[W.heap.size + 1]? = some (.cells #[.map (some W.heap.size)] 84 (0, 0)) := by rw [e0]; exact heap_alloc2_new W _ _
  have IY := Lib.hid (indexR_yes W0 ad tc (W.heap.size + 1) W.heap.size 0 n c Ad As cd cs (h.below B0) m0 ((cell_heap k0 0).trans rfl) hn)
  have AF : Hid (∀ w1, Below W0.heap.size W0 w1 → TgAt w1 ad n c Ad cd As cs) := Lib.hid fun w1 h1 => (h.below B0).below h1
  have FN : Hid (∀ w1 o w4 v', Below W0.heap.size W0 w1 → (w1.alloc o).grownBy w4 none → w4.ownsRow w1.heap.size 9 1 v' 1 [.string n] → ∃ g cc W5, v' = .slice (some ⟨g, 0, none⟩) 1 cc ∧ w4.cell? ⟨W.heap.size + 1, 0, none⟩ = some (.map (some W.heap.size)) ∧ TgAt w4 ad n c Ad cd As cs ∧ (Instr.mapUpdate 84 (.map (some W.heap.size)) (.string n) (.bool true)).run Tryz.prog w4.drew = .ok () W5 ∧
      Calls Tryz.prog 128 #[.slice (some ad) 1 tc, .func (.func 194) #[] #[.pointer (some ⟨W.heap.size + 1, 0, none⟩)]] W5 fun e w' => e = .returned (.int .i64 (-1)) ∧ Below W.heap.size W w') := Lib.hid fun w1 o w4 v' h1 hg ho => by
    obtain ⟨g, cc, gs, rfl, q1, q2, q3, q4, q5⟩ := own_one ho
    have b4 : Below W0.heap.size W0 w4 := (h1.alloc h1.size o).grown hg (Nat.le_trans h1.size (by simp)) (fun k e => by cases e)
    have k4 := (b4.block _ (by omega)).trans k0
    have ta := (h.below B0).below b4
    obtain ⟨W5, hrun, m5, hg5⟩ := (show Mv.VMap w4.drew W.heap.size 0 NoM from (m0.later b4).keep rfl).put (t := 84) (e := 4) (by kernel_rfl) (by unfold maxLen; omega) hn (.bool true)
    have s4 := b4.size
    have k5 : W5.heap[W.heap.size + 1]? = some (.cells #[.map (some W.heap.size)] 84 (0, 0)) := (hg5.block _ (by show _ < w4.heap.size; omega) (fun e => by injection e with e; omega)).trans k4
    have bW : Below W.heap.size W W5 := ((B0.trans (b4.mono B0.size)).drew).grown hg5 (by show W.heap.size ≤ w4.heap.size; omega) (fun k e => by injection e with e; omega)
    have ta5 : TgAt W5 ad n c Ad cd As cs := h.below bW
    exact ⟨g, cc, W5, rfl, (cell_heap k4 0).trans rfl, ta, hrun, (indexR_no W5 ad tc (W.heap.size + 1) W.heap.size 1 n c Ad As cd cs ta5 m5 ((cell_heap k5 0).trans rfl) hn).mono fun e w' hh => ⟨hh.1, bW.trans (hh.2.mono bW.size)⟩⟩
  have ON : ∀ u ∈ [Value.string n], u.oneCell' = true := fun u hu => by rw [List.mem_singleton.1 hu]; rfl
  clear B0 m0 k0 hs0 h
  go_enter Tryz.func131, Tryz.ntmps131
  go_upto_region 3 with (fail)
  rw [← e0]
  clear e0
  go_wp2_with (go_at_call 128; (with_reducible refine (IY.out).mono ?_); rintro e w1 ⟨rfl, h1⟩)
  go_loopw [3, 6] (fun v3 v6 wr => (v3 = .slice none 0 0 ∧ v6 = .int .i64 0 ∧ wr = w1) ∨ ((∃ g cc, v3 = .slice (some ⟨g, 0, none⟩) 1 cc) ∧ v6 = .int .i64 (-1) ∧ Below W.heap.size W wr)) (fun _ v6 _ => (1 + intOf v6).toNat)
  case atStart => exact .inl ⟨rfl, rfl, rfl⟩
  case round =>
    rcases hrel with ⟨rfl, rfl, rfl⟩ | ⟨⟨g, cc, rfl⟩, rfl, hb⟩
    · obtain ⟨c0, c1, c2, c3⟩ := (AF.out _ h1).cells
      have H1 := Lib.hid h1
      clear h1 IY AF
      go_upto_region 8 with (at_builtin; refine wpList_append_any _ rfl (.tmp 17) (.tmp 23) _ rfl wr.heap.size 9 i0 _ 1 16 Tryz.underlying32 hi hz0 hz1 hz2 rfl (by omega) (.slice none 0 0) 0 [] rfl (World.ownsRow_nil _ _ _ _) _ (some ⟨wr.heap.size, 0, none⟩) 1 1 [.string n] rfl (reads_one (heap_alloc_new wr _) rfl) ON (by simp only [maxLen]; omega) (by omega) (by simp) ?_; intro v' w4 hown hgr hat; obtain ⟨g, cc, W5, rfl, kb, ta, hrun, hC⟩ := FN.out wr _ w4 v' H1.out hgr hown; have HC := Lib.hid hC; obtain ⟨d0, d1, d2, d3⟩ := ta.cells; clear hown hgr hat hC ta)
      clear c0 c1 c2 c3 d1 d2 d3
      go_still_tail 6, (by kernel_rfl)
      change wpList _ _ _ _ _ w4.drew
      go_wp2_with (go_at_call 128; (with_reducible refine (HC.out).mono ?_); rintro e w6 ⟨rfl, h6⟩)
      go_roundw
      case rel => exact .inr ⟨⟨g, cc, rfl⟩, rfl, h6⟩
      case measure => simp [intOf]
    · clear FN IY AF
      go_wp2_with (fail)
      go_ret
      exact ⟨⟨g, cc, rfl⟩, hb⟩
end Go.Proofs.YtifiipmmgnmciaaGreatDoor.Sv
/- SvCheck3, what a claim needs of it (prune.py). -/
namespace Go.Proofs.YtifiipmmgnmciaaGreatDoor.Sv
open Go.RowKit Go.Maps
open Dk (Kp)
set_option linter.unusedVariables false
set_option maxRecDepth 100000
theorem tg_facts {V : World} {b : Nat} {T : TypeId} (h : V.heap[b]? = some (.cells noTg T (0, 0))) : V.cell? ⟨b, 0, none⟩ = some (.string ⟨#[]⟩) ∧ V.frozen? ⟨b, 0, none⟩ = false ∧ V.setCell ⟨b, 0, none⟩ (.string ⟨#[]⟩) = V ∧ V.cell? ⟨b, 1, none⟩ = some (.string ⟨#[]⟩) ∧ V.frozen? ⟨b, 1, none⟩ = false ∧ V.setCell ⟨b, 1, none⟩ (.string ⟨#[]⟩) = V ∧ V.cell? ⟨b, 2, none⟩ = some (.slice none 0 0) ∧ V.frozen? ⟨b, 2, none⟩ = false ∧ V.setCell ⟨b, 2, none⟩ (.slice none 0 0) = V ∧ V.cell? ⟨b, 3, none⟩ = some (.slice none 0 0) ∧ V.frozen? ⟨b, 3, none⟩ = false ∧ V.setCell ⟨b, 3, none⟩ (.slice none 0 0) = V :=
  ⟨(cell_heap h 0).trans rfl, frozen_heap h 0, set_same h rfl, (cell_heap h 1).trans rfl, frozen_heap h 1, set_same h rfl, (cell_heap h 2).trans rfl, frozen_heap h 2, set_same h rfl, (cell_heap h 3).trans rfl, frozen_heap h 3, set_same h rfl⟩
set_option maxHeartbeats 4000000 in
theorem gcheck1 (W : World) (ad : Addr) (tc : Nat) (n c : ByteArray) (Ad As : Option Addr) (cd cs : Nat) (h : TgAt W ad n c Ad cd As cs) (hn : n.size ≤ 1000000000) (hn0 : Lg.nameE (Lg.tl n) = 0)
    (hP : ∀ V, Below W.heap.size W V → Calls Tryz.prog 48 #[.string c] V fun e w' => (∃ v, e = .returned (.tuple #[v, .int .i64 0])) ∧ Below V.heap.size V w') :
    Calls Tryz.prog 67 #[.slice (some ad) 1 tc] W fun e w' => e = .returned (.int .i64 0) ∧ Below W.heap.size W w' := by
  have PN : Hid (∀ V, Calls Tryz.prog 33 #[.string n] V fun e w' => e = .returned (.int .i64 0) ∧ V = w') := Lib.hid fun V => by
    have := Lg.pname_any n hn V
    rw [hn0] at this
    exact this
  have CB : Hid (∀ V, Below W.heap.size W V → TgAt V ad n c Ad cd As cs) := Lib.hid fun V hV => h.below hV
  have AL : Hid (∀ V, Below W.heap.size W V → Calls Tryz.prog 130 #[.agg (tgC n c Ad cd As cs)] V fun e w' => e = .returned (.int .i64 0) ∧ Below W.heap.size W w') := Lib.hid fun V hV => (alone1 n c Ad As cd cs V (fun U hU => hP U (hV.trans (hU.mono hV.size)))).mono fun e w' hh => ⟨hh.1, hV.trans (hh.2.mono hV.size)⟩
  have SO : Hid (∀ V, Below W.heap.size W V → Calls Tryz.prog 131 #[.slice (some ad) 1 tc] V fun e w' => (∃ g cc, e = .returned (.slice (some ⟨g, 0, none⟩) 1 cc)) ∧ Below W.heap.size W w') := Lib.hid fun V hV => (sorted1 V ad tc n c Ad As cd cs (h.below hV) (by unfold maxLen; omega)).mono fun e w' hh => ⟨hh.1, hV.trans (hh.2.mono hV.size)⟩
  clear h hP
  go_enter Tryz.func67, Tryz.ntmps67
  go_wp2_with (fail)
  go_loopw [20] (fun v wr => (v = .int .i64 0 ∧ Below W.heap.size W wr) ∨ (v = .int .i64 1 ∧ Below W.heap.size W wr)) (fun v _ => (2 - intOf v).toNat)
  case atStart => exact .inl ⟨rfl, Below.refl _ _⟩
  case round =>
    rcases hrel with ⟨rfl, hb⟩ | ⟨rfl, hb⟩
    · obtain ⟨c0, c1, c2, c3⟩ := (CB.out _ hb).cells
      obtain ⟨W2, e2⟩ : ∃ W2, W2 = wr.alloc (.cells (tgC n c Ad cd As cs) 122) := ⟨_, rfl⟩
      have b2 : Below wr.heap.size wr W2 := by rw [e2]; exact (Below.refl _ _).alloc (Nat.le_refl _) _
      have z2 : W2.heap[wr.heap.size]? = some (.cells (tgC n c Ad cd As cs) 122 (0, 0)) := by rw [e2]; exact heap_alloc_new _ _
      have hb2 : Below W.heap.size W W2 := hb.trans (b2.mono hb.size)
      have y0 : W2.cell? ⟨wr.heap.size, 0, none⟩ = some (.string n) := (cell_heap z2 0).trans rfl
      have CL : Hid (∀ V, Below W2.heap.size W2 V → V.cell? ⟨wr.heap.size, 0, none⟩ = some (.string n) ∧ V.cell? ⟨wr.heap.size, 1, none⟩ = some (.string c) ∧ V.cell? ⟨wr.heap.size, 2, none⟩ = some (.slice Ad 0 cd) ∧ V.cell? ⟨wr.heap.size, 3, none⟩ = some (.slice As 0 cs) ∧ Below W.heap.size W V) := Lib.hid fun V hV => by
        have z := (hV.block _ (Lg.lt_heap z2)).trans z2
        exact ⟨(cell_heap z 0).trans rfl, (cell_heap z 1).trans rfl, (cell_heap z 2).trans rfl, (cell_heap z 3).trans rfl, hb2.trans (hV.mono hb2.size)⟩
      have SD : W2.drew.cell? ⟨wr.heap.size, 0, none⟩ = some (.string n) := y0
      have SA : ∀ o, (W2.alloc o).drew.cell? ⟨wr.heap.size, 0, none⟩ = some (.string n) := fun o => (CL.out (W2.alloc o) ((Below.refl _ _).alloc (Nat.le_refl _) o)).1
      have SB' : Hid (∀ V, Hid (Below W2.heap.size W2 V) → V.cell? ⟨wr.heap.size, 0, none⟩ = some (.string n)) := Lib.hid fun V hV => (CL.out V hV.out).1
      have NB : Hid (∀ A c, Calls Tryz.prog 66 #[.slice A 0 c, .string n] W2.drew fun e w' => e = .returned (.tuple #[.agg noTg, .bool false]) ∧ Below W2.heap.size W2 w') := Lib.hid fun A c => (gfind0 A c n W2.drew).mono fun e w' hh => ⟨hh.1, (Below.refl _ _).drew.trans hh.2⟩
      have NA : Hid (∀ A c, Calls Tryz.prog 66 #[.slice A 0 c, .string n] (W2.alloc (.cells noTg 122)).drew fun e w' => e = .returned (.tuple #[.agg noTg, .bool false]) ∧ Below W2.heap.size W2 w' ∧ w'.heap[W2.heap.size]? = some (.cells noTg 122 (0, 0))) := Lib.hid fun A c => (gfind0 A c n _).mono fun e w' hh => by
        have ba : Below W2.heap.size W2 (W2.alloc (.cells noTg 122)).drew := ((Below.refl _ _).alloc (Nat.le_refl _) _).drew
        exact ⟨hh.1, ba.trans (hh.2.mono ba.size), (hh.2.block _ (by show _ < (W2.alloc _).heap.size; simp)).trans (heap_alloc_new W2 _)⟩
      have E2 := Lib.hid e2
      have HB := Lib.hid hb
      clear e2 b2 z2 hb2 hb CB SO
      go_upto_region 6 with (fail)
      rw [← E2.out]
      go_upto_region 9 with (go_at_call 33; (with_reducible refine (PN.out _).mono ?_); rintro e w' ⟨rfl, rfl⟩)
      go_cut [7] from 32 to 39 (fun v7 wx => v7 = .bool false ∧ Below W2.heap.size W2 wx)
      case first =>
        clear c0 c1 c2 c3
        go_region_held3 (fun V => V.cell? ⟨wr.heap.size, 0, none⟩ = some (.string n)) (first | (with_reducible exact SD) | (with_reducible exact SA _) | (with_reducible exact SB'.out _ h3) | (with_reducible exact SB'.out _ (Lib.hid (h3.out.alloc h3.out.size _))) | go_keep) (first
          | (go_at_call 66; (with_reducible refine (NB.out _ _).mono ?_); rintro e w3 ⟨rfl, hb3⟩; have h3 := Lib.hid hb3; clear hb3)
          | (go_at_call 66; (with_reducible refine (NA.out _ _).mono ?_); rintro e w3 ⟨rfl, hb3, hz3⟩; have h3 := Lib.hid hb3; obtain ⟨a0, a1, a2, a3, a4, a5, a6, a7, a8, a9, a10, a11⟩ := tg_facts hz3; clear hb3 hz3))
        all_goals
          go_wp2_with (fail)
          go_meet
          first | (with_reducible exact ⟨rfl, h3.out⟩) | (with_reducible exact ⟨rfl, h3.out.alloc h3.out.size _⟩)
      case rest =>
        obtain ⟨rfl, hbx⟩ := hcut
        obtain ⟨p0, p1, p2, p3, hbW⟩ := CL.out _ hbx
        have AL1 := Lib.hid (AL.out _ hbW)
        clear c0 c1 c2 c3 y0 SD SA SB' NB NA CL hbx hbW AL
        go_wp2_with (go_at_call 130; (with_reducible refine (AL1.out).mono ?_); rintro e w4 ⟨rfl, h4⟩)
        go_roundw
        case rel => exact .inr ⟨rfl, h4⟩
        case measure => simp [intOf]
    · have HB := Lib.hid hb
      clear hb AL PN
      go_wp2_with (fail)
      go_loopw [49] (fun v wy => (v = .int .i64 0 ∧ Hid (Below W.heap.size W wy)) ∨ (v = .int .i64 1 ∧ Hid (Below W.heap.size W wy))) (fun v _ => (2 - intOf v).toNat)
      case atStart => exact .inl ⟨rfl, HB⟩
      case round =>
        rename World => wy
        rcases hrel with ⟨rfl, hb⟩ | ⟨rfl, hb⟩
        · obtain ⟨c0, c1, c2, c3⟩ := (CB.out _ hb.out).cells
          have hb2 := Lib.hid (hb.out.alloc hb.out.size (.cells (tgC n c Ad cd As cs) 122))
          clear hb CB SO
          go_wp2_with (fail)
          go_loopw [56] (fun v wz => v = .int .i64 0 ∧ Hid (Below W.heap.size W wz)) (fun _ _ => 0)
          case atStart => exact ⟨rfl, hb2⟩
          case round =>
            obtain ⟨rfl, hb3⟩ := hrel
            go_wp2_with (fail)
            go_roundw
            case rel => exact .inr ⟨rfl, hb3⟩
            case measure => simp [intOf]
        · have SO1 := Lib.hid (SO.out _ hb.out)
          clear hb CB SO
          go_wp2_with (go_at_call 131; (with_reducible refine (SO1.out).mono ?_); rintro e w4 ⟨⟨g, cc, rfl⟩, h4⟩)
          go_ret
          exact ⟨rfl, h4⟩
end Go.Proofs.YtifiipmmgnmciaaGreatDoor.Sv
/- SvSubmit, what a claim needs of it (prune.py). -/
namespace Go.Proofs.YtifiipmmgnmciaaGreatDoor.Sv
open Go.RowKit Go.Maps
open Dk (Kp)
set_option linter.unusedVariables false
set_option maxRecDepth 100000
def ParseOk (W : World) (c : ByteArray) : Prop := ∀ V, Below W.heap.size W V → Calls Tryz.prog 48 #[.string c] V fun e w' => (∃ v, e = .returned (.tuple #[v, .int .i64 0])) ∧ Below V.heap.size V w'
theorem ParseOk.later {W V : World} {c : ByteArray} (h : ParseOk W c) (hb : Below W.heap.size W V) : ParseOk V c := fun U hU => h U (hb.trans (hU.mono hb.size))
theorem wrong1 (W : World) (ad : Addr) (n t c : ByteArray) (Ad At Af Ar : Option Addr) (cd ct cg cf cr : Nat) (hT : TgAt W ad t c Ad cd At ct) (hn : n.size ≤ 1000000000) (hn0 : Lg.nameE (Lg.tl n) = 0) (ht : t.size ≤ 1000000000) (ht0 : Lg.nameE (Lg.tl t) = 0) (hP : ParseOk W c) :
    Calls Tryz.prog 175 #[.agg (opCells n (some ad) 1 cg Af 0 cf t 0 0 ⟨#[]⟩ ⟨#[]⟩ Ar 0 cr)] W fun e w' => e = .returned (.int .i64 0) ∧ Below W.heap.size W w' := by
  obtain ⟨W0, e0⟩ : ∃ W0, W0 = W.alloc (.cells (opCells n (some ad) 1 cg Af 0 cf t 0 0 ⟨#[]⟩ ⟨#[]⟩ Ar 0 cr) 29) := ⟨_, rfl⟩
  have B0 : Below W.heap.size W W0 := by rw [e0]; exact (Below.refl _ _).alloc (Nat.le_refl _) _
  have z0 : W0.heap[W.heap.size]? = some (.cells (opCells n (some ad) 1 cg Af 0 cf t 0 0 ⟨#[]⟩ ⟨#[]⟩ Ar 0 cr) 29 (0, 0)) := by rw [e0]; exact heap_alloc_new _ _
  have PN : Hid (Calls Tryz.prog 33 #[.string n] W0 fun e w' => e = .returned (.int .i64 0) ∧ W0 = w') := Lib.hid (by
    have := Lg.pname_any n hn W0
    rw [hn0] at this
    exact this)
  have CL : Hid (∀ V, Below W0.heap.size W0 V → V.cell? ⟨W.heap.size, 0, none⟩ = some (.string n) ∧ V.cell? ⟨W.heap.size, 1, none⟩ = some (.slice (some ad) 1 cg) ∧ V.cell? ⟨W.heap.size, 2, none⟩ = some (.slice Af 0 cf) ∧ V.cell? ⟨W.heap.size, 3, none⟩ = some (.string t) ∧ Below W.heap.size W V) := Lib.hid fun V hV => by
    have z := (hV.block _ (Lg.lt_heap z0)).trans z0
    exact ⟨(cell_heap z 0).trans rfl, (cell_heap z 1).trans rfl, (cell_heap z 2).trans rfl, (cell_heap z 3).trans rfl, B0.trans (hV.mono B0.size)⟩
  have GC : Hid (Calls Tryz.prog 67 #[.slice (some ad) 1 cg] W0 fun e w' => e = .returned (.int .i64 0) ∧ Below W0.heap.size W0 w') := Lib.hid (gcheck1 W0 ad cg t c Ad At cd ct (hT.below B0) ht ht0 (hP.later B0))
  have GF : Hid (∀ V, Below W0.heap.size W0 V → Calls Tryz.prog 66 #[.slice (some ad) 1 cg, .string t] V fun e w' => e = .returned (.tuple #[.agg #[.string t, .string c, .slice Ad 0 cd, .slice At 0 ct], .bool true]) ∧ Below W0.heap.size W0 w') := Lib.hid fun V hV => (gfind_one V ad cg t c Ad At cd ct ((hT.below B0).below hV)).mono fun e w' hh => ⟨hh.1, hV.trans (hh.2.mono hV.size)⟩
  obtain ⟨x0, x1, x2, x3, _⟩ := CL.out W0 (Below.refl _ _)
  clear hT hP B0 z0 hn0 ht0
  go_enter Tryz.func175, Tryz.ntmps175
  go_upto_region 1 with (fail)
  rw [← e0]
  clear e0
  go_wp2_with (first
    | (go_at_call 33; (with_reducible refine (PN.out).mono ?_); rintro e w' ⟨rfl, rfl⟩)
    | (go_at_call 67; (with_reducible refine (GC.out).mono ?_); rintro e w1 ⟨rfl, h1⟩; obtain ⟨y0, y1, y2, y3, _⟩ := CL.out _ h1)
    | (go_at_call 68; (with_reducible refine (fcheck0 _ _ _).mono ?_); rintro e w' ⟨rfl, rfl⟩)
    | (go_at_call 66; (with_reducible refine (GF.out _ h1).mono ?_); rintro e w2 ⟨rfl, h2⟩; have hF := (CL.out _ h2).2.2.2.2))
  go_ret
  exact ⟨rfl, hF.alloc hF.size _⟩
def SubSays (W : World) (n t : ByteArray) (ad : Addr) (cg : Nat) (Af : Option Addr) (cf : Nat) (e : Ending) (w' : World) : Prop := (∃ v, e = .returned (.tuple #[v, .int .i64 0]) ∧ w'.ownsRow W.heap.size 29 9 v 1 (opCells n (some ad) 1 cg Af 0 cf t 1 0 ⟨#[]⟩ ⟨#[]⟩ none 0 0).toList) ∧ Below W.heap.size W w'
theorem op_cells (n t : ByteArray) (ad : Addr) (cg : Nat) (Af : Option Addr) (cf : Nat) : ∀ u ∈ (opCells n (some ad) 1 cg Af 0 cf t 1 0 ⟨#[]⟩ ⟨#[]⟩ none 0 0).toList, u.oneCell' = true := by
  intro u hu
  simp only [List.mem_cons, List.not_mem_nil, or_false] at hu
  rcases hu with rfl | rfl | rfl | rfl | rfl | rfl | rfl | rfl | rfl <;> rfl
theorem own_lower {w : World} {B B' s n : Nat} {T : TypeId} {v : Value} {xs : List Value} (h : w.ownsRow B T s v n xs) (hB : B' ≤ B) : w.ownsRow B' T s v n xs := by
  refine ⟨h.1, ?_⟩
  rcases h.2 with h0 | ⟨g, cap, cur, hv, hg, hcc⟩
  · exact .inl h0
  · exact .inr ⟨g, cap, cur, hv, Nat.le_trans hB hg, hcc⟩
set_option maxHeartbeats 4000000 in
theorem submit1 (W : World) (ad : Addr) (n t c : ByteArray) (Ad At Af A Ar : Option Addr) (cd ct cg cf cl cr : Nat) (hT : TgAt W ad t c Ad cd At ct) (hn : n.size ≤ 1000000000) (hn0 : Lg.nameE (Lg.tl n) = 0) (ht : t.size ≤ 1000000000) (ht0 : Lg.nameE (Lg.tl t) = 0) (hP : ParseOk W c) :
    Calls Tryz.prog 94 #[.slice A 0 cl, .agg (opCells n (some ad) 1 cg Af 0 cf t 0 0 ⟨#[]⟩ ⟨#[]⟩ Ar 0 cr)] W (SubSays W n t ad cg Af cf) := by
  obtain ⟨z, hzi, hzs⟩ := Ops.infoO
  obtain ⟨i0, hi, hz0, hz1, hz2⟩ := info_parts hzi
  obtain ⟨W0, e0⟩ : ∃ W0, W0 = W.alloc (.cells (opCells n (some ad) 1 cg Af 0 cf t 0 0 ⟨#[]⟩ ⟨#[]⟩ Ar 0 cr) 29) := ⟨_, rfl⟩
  have B0 : Below W.heap.size W W0 := by rw [e0]; exact (Below.refl _ _).alloc (Nat.le_refl _) _
  have z0 : W0.heap[W.heap.size]? = some (.cells (opCells n (some ad) 1 cg Af 0 cf t 0 0 ⟨#[]⟩ ⟨#[]⟩ Ar 0 cr) 29 (0, 0)) := by rw [e0]; exact heap_alloc_new _ _
  have x0 : W0.cell? ⟨W.heap.size, 0, none⟩ = some (.string n) := (cell_heap z0 0).trans rfl
  have x1 : W0.cell? ⟨W.heap.size, 1, none⟩ = some (.slice (some ad) 1 cg) := (cell_heap z0 1).trans rfl
  have x2 : W0.cell? ⟨W.heap.size, 2, none⟩ = some (.slice Af 0 cf) := (cell_heap z0 2).trans rfl
  have x3 : W0.cell? ⟨W.heap.size, 3, none⟩ = some (.string t) := (cell_heap z0 3).trans rfl
  have x4 : W0.cell? ⟨W.heap.size, 4, none⟩ = some (.int .i64 0) := (cell_heap z0 4).trans rfl
  have x5 : W0.cell? ⟨W.heap.size, 5, none⟩ = some (.int .i64 0) := (cell_heap z0 5).trans rfl
  have x6 : W0.cell? ⟨W.heap.size, 6, none⟩ = some (.string ⟨#[]⟩) := (cell_heap z0 6).trans rfl
  have x7 : W0.cell? ⟨W.heap.size, 7, none⟩ = some (.string ⟨#[]⟩) := (cell_heap z0 7).trans rfl
  have x8 : W0.cell? ⟨W.heap.size, 8, none⟩ = some (.slice Ar 0 cr) := (cell_heap z0 8).trans rfl
  have WR := Lib.hid (wrong1 W0 ad n t c Ad At Af Ar cd ct cg cf cr (hT.below B0) hn hn0 ht ht0 (hP.later B0))
  have FD : Hid (∀ V, Below W0.heap.size W0 V → V.cell? ⟨W.heap.size, 0, none⟩ = some (.string n) ∧ Calls Tryz.prog 14 #[.slice A 0 cl, .string n] V fun e w' => (∃ Ag cg' Af' cf' Aq cq, e = .returned (.tuple #[.agg #[.string ⟨#[]⟩, .slice Ag 0 cg', .slice Af' 0 cf', .string ⟨#[]⟩, .int .i64 0, .int .i64 0, .string ⟨#[]⟩, .string ⟨#[]⟩, .slice Aq 0 cq], .bool false])) ∧ Below W0.heap.size W0 w') := Lib.hid fun V hV => ⟨(cell_heap ((hV.block _ (Lg.lt_heap z0)).trans z0) 0).trans rfl, (Ops.find_any A [] cl n V V Ops.Ops.none_ (Below.refl _ _) (by simp)).mono fun e w' hh => by
    obtain ⟨⟨x, Ag, cg', Af', cf', Aq, cq, rfl, hx, hp⟩, hb⟩ := hh
    have hx' : x = Ops.zeroO := hx
    subst hx'
    exact ⟨⟨Ag, cg', Af', cf', Aq, cq, rfl⟩, hV.trans (hb.mono hV.size)⟩⟩
  have BX : Hid (∀ V, Below W0.heap.size W0 V → V.heap[W.heap.size]? = some (.cells (opCells n (some ad) 1 cg Af 0 cf t 0 0 ⟨#[]⟩ ⟨#[]⟩ Ar 0 cr) 29 (0, 0)) ∧ Below W.heap.size W V) := Lib.hid fun V hV => ⟨(hV.block _ (Lg.lt_heap z0)).trans z0, B0.trans (hV.mono B0.size)⟩
  have ON := Lib.hid (op_cells n t ad cg Af cf)
  clear hT hP B0 z0 hn0 ht0
  generalize hQ : SubSays W n t ad cg Af cf = Q
  go_enter Tryz.func94, Tryz.ntmps94
  go_upto_region 1 with (fail)
  rw [← e0]
  clear e0
  go_upto_region 5 with (first
    | (go_at_call 175; (with_reducible refine (WR.out).mono ?_); rintro e w1 ⟨rfl, h1⟩; obtain ⟨y0, hfd⟩ := FD.out _ h1; have FD1 := Lib.hid hfd; clear hfd)
    | (go_at_call 14; (with_reducible refine (FD1.out).mono ?_); rintro e w2 ⟨⟨Ag, cg', Af', cf', Aq, cq, rfl⟩, h2⟩))
  obtain ⟨W2, e2⟩ : ∃ W2, W2 = w2.alloc (.cells #[.string ⟨#[]⟩, .slice Ag 0 cg', .slice Af' 0 cf', .string ⟨#[]⟩, .int .i64 0, .int .i64 0, .string ⟨#[]⟩, .string ⟨#[]⟩, .slice Aq 0 cq] 29) := ⟨_, rfl⟩
  have b2 : Below W0.heap.size W0 W2 := by rw [e2]; exact h2.alloc h2.size _
  rw [← e2]
  have H2 := Lib.hid b2
  clear e2 h1 h2 b2 y0 FD FD1 WR x0 x1 x2 x3 x4 x5 x6 x7 x8
  go_still (by kernel_rfl)
  obtain ⟨x, bW⟩ := BX.out W2 H2.out
  obtain ⟨V2, eV⟩ : ∃ V2, V2 = W2.drew := ⟨_, rfl⟩
  have xV : V2.heap[W.heap.size]? = some (.cells (opCells n (some ad) 1 cg Af 0 cf t 0 0 ⟨#[]⟩ ⟨#[]⟩ Ar 0 cr) 29 (0, 0)) := by rw [eV]; exact x
  have bV : Below W.heap.size W V2 := by rw [eV]; exact bW.drew
  change Exit.then _ _ _ _ W2.drew
  rw [← eV]
  clear eV x bW
  have f4 := frozen_heap xV 4
  have f5 := frozen_heap xV 5
  have f6 := frozen_heap xV 6
  have f7 := frozen_heap xV 7
  have f8 := frozen_heap xV 8
  have u4 : V2.cell? ⟨W.heap.size, 4, none⟩ = some (.int .i64 0) := (cell_heap xV 4).trans rfl
  have u5 : V2.cell? ⟨W.heap.size, 5, none⟩ = some (.int .i64 0) := (cell_heap xV 5).trans rfl
  have u6 : V2.cell? ⟨W.heap.size, 6, none⟩ = some (.string ⟨#[]⟩) := (cell_heap xV 6).trans rfl
  have u7 : V2.cell? ⟨W.heap.size, 7, none⟩ = some (.string ⟨#[]⟩) := (cell_heap xV 7).trans rfl
  have u8 : V2.cell? ⟨W.heap.size, 8, none⟩ = some (.slice Ar 0 cr) := (cell_heap xV 8).trans rfl
  go_wp2_with (fail)
  generalize e6 : ((((V2.setCell ⟨W.heap.size, 4, none⟩ (.int .i64 1)).setCell ⟨W.heap.size, 5, none⟩ (.int .i64 0)).setCell ⟨W.heap.size, 6, none⟩ (.string ⟨#[]⟩)).setCell ⟨W.heap.size, 7, none⟩ (.string ⟨#[]⟩)).setCell ⟨W.heap.size, 8, none⟩ (.slice none 0 0) = W6
  have hb6 : Below W.heap.size W W6 := by rw [← e6]; exact Ops.fresh_below bV (Nat.le_refl _)
  have k7 : W6.heap[W.heap.size]? = some (.cells #[.string n, .slice (some ad) 1 cg, .slice Af 0 cf, .string t, .int .i64 1, .int .i64 0, .string ⟨#[]⟩, .string ⟨#[]⟩, .slice none 0 0] 29 (0, 0)) := by
    rw [← e6]
    exact heap_setCell_same _ _ 8 _ _ _ (heap_setCell_same _ _ 7 _ _ _ (heap_setCell_same _ _ 6 _ _ _ (heap_setCell_same _ _ 5 _ _ _ (heap_setCell_same _ _ 4 _ _ _ xV))))
  clear e6 xV bV u4 u5 u6 u7 u8 f4 f5 f6 f7 f8
  have BZ : Hid (∀ V, Below W6.heap.size W6 V → Below W.heap.size W V) := Lib.hid fun V hV => hb6.trans (hV.mono hb6.size)
  have CL : Hid (∀ V, Below W6.heap.size W6 V → Calls Tryz.prog 29 #[.slice A 0 cl] V fun e w' => ∃ v, e = .returned v ∧ w'.ownsRow W6.heap.size 29 9 v 0 [] ∧ Below W6.heap.size W6 w' ∧ Below V.heap.size V w') := Lib.hid fun V hV => by
    refine (Ops.clone_from A [] cl V V Ops.Ops.none_ (Below.refl _ _) (by simp)).mono ?_
    rintro e w' ⟨⟨v, cs, h1, h2, h3⟩, h4⟩
    cases h3
    exact ⟨v, h1, Ops.own_baseO h2 hV.size, hV.trans (h4.mono hV.size), h4⟩
  have SX : Hid (∀ w', Below W6.heap.size W6 w' → w'.cell? ⟨W.heap.size, 0, none⟩ = some (.string n) ∧ w'.cell? ⟨W.heap.size, 1, none⟩ = some (.slice (some ad) 1 cg) ∧ w'.cell? ⟨W.heap.size, 2, none⟩ = some (.slice Af 0 cf) ∧ w'.cell? ⟨W.heap.size, 3, none⟩ = some (.string t) ∧ w'.cell? ⟨W.heap.size, 4, none⟩ = some (.int .i64 1) ∧ w'.cell? ⟨W.heap.size, 5, none⟩ = some (.int .i64 0) ∧ w'.cell? ⟨W.heap.size, 6, none⟩ = some (.string ⟨#[]⟩) ∧ w'.cell? ⟨W.heap.size, 7, none⟩ = some (.string ⟨#[]⟩) ∧ w'.cell? ⟨W.heap.size, 8, none⟩ = some (.slice none 0 0)) := Lib.hid fun V hV => ⟨Ops.at_put3 k7 0 rfl V hV, Ops.at_put3 k7 1 rfl V hV, Ops.at_put3 k7 2 rfl V hV, Ops.at_put3 k7 3 rfl V hV, Ops.at_put3 k7 4 rfl V hV, Ops.at_put3 k7 5 rfl V hV, Ops.at_put3 k7 6 rfl V hV, Ops.at_put3 k7 7 rfl V hV, Ops.at_put3 k7 8 rfl V hV⟩
  have xB : ((W6.alloc (.cells #[.string n, .slice (some ad) 1 cg, .slice Af 0 cf, .string t, .int .i64 1, .int .i64 0, .string ⟨#[]⟩, .string ⟨#[]⟩, .slice none 0 0] 29)).drew).heap[W6.heap.size]? = some (.cells #[.string n, .slice (some ad) 1 cg, .slice Af 0 cf, .string t, .int .i64 1, .int .i64 0, .string ⟨#[]⟩, .string ⟨#[]⟩, .slice none 0 0] 29 (0, 0)) := heap_alloc_new W6 _
  have dA : Below W6.heap.size W6 W6.drew := (Below.refl _ _).drew
  have dB : Below W6.heap.size W6 (W6.alloc (.cells #[.string n, .slice (some ad) 1 cg, .slice Af 0 cf, .string t, .int .i64 1, .int .i64 0, .string ⟨#[]⟩, .string ⟨#[]⟩, .slice none 0 0] 29)).drew := ((Below.refl _ _).alloc (Nat.le_refl _) _).drew
  have RD : Hid (∀ (V : World) (b : Nat), V.heap[b]? = some (.cells #[.string n, .slice (some ad) 1 cg, .slice Af 0 cf, .string t, .int .i64 1, .int .i64 0, .string ⟨#[]⟩, .string ⟨#[]⟩, .slice none 0 0] 29 (0, 0)) → Reads V (b + 1) 9 (some ⟨b, 0, none⟩) 1 (opCells n (some ad) 1 cg Af 0 cf t 1 0 ⟨#[]⟩ ⟨#[]⟩ none 0 0).toList) := Lib.hid fun V b h => reads_one h rfl
  clear k7
  obtain ⟨x0, x1, x2, x3, x4, x5, x6, x7, x8⟩ := SX.out _ (Below.refl _ _)
  go_region_held3 (fun w' => w'.cell? ⟨W.heap.size, 0, none⟩ = some (.string n) ∧ w'.cell? ⟨W.heap.size, 1, none⟩ = some (.slice (some ad) 1 cg) ∧ w'.cell? ⟨W.heap.size, 2, none⟩ = some (.slice Af 0 cf) ∧ w'.cell? ⟨W.heap.size, 3, none⟩ = some (.string t) ∧ w'.cell? ⟨W.heap.size, 4, none⟩ = some (.int .i64 1) ∧ w'.cell? ⟨W.heap.size, 5, none⟩ = some (.int .i64 0) ∧ w'.cell? ⟨W.heap.size, 6, none⟩ = some (.string ⟨#[]⟩) ∧ w'.cell? ⟨W.heap.size, 7, none⟩ = some (.string ⟨#[]⟩) ∧ w'.cell? ⟨W.heap.size, 8, none⟩ = some (.slice none 0 0))
    (first | go_keep | exact SX.out _ (by assumption))
    (first | ((go_at_call 29; refine (CL.out _ (by first | exact dA | exact dB)).mono ?_; rintro e w2 ⟨v1, rfl, ho1, hb2, hb3⟩)) | ((refine step_append_any _ rfl (.tmp 41) (.tmp 43) _ rfl W6.heap.size 29 i0 z 9 152 Tryz.underlying39 hi hz0 hz1 hz2 hzs (by decide) v1 0 [] (by rfl) (ho1.alloc _) _ (some ⟨w2.heap.size, 0, none⟩) 1 1 (opCells n (some ad) 1 cg Af 0 cf t 1 0 ⟨#[]⟩ ⟨#[]⟩ none 0 0).toList (by rfl) (RD.out _ _ (heap_alloc_new w2 _)) ON.out (by simp only [maxLen]; omega) (by omega) (by have := hb2.size; simp; omega) ?_; intro v2 w3 hown2 hg2 hat2; have hb7 := Ops.app_belowO (hb2.alloc hb2.size _) (ho1.alloc _) hg2; have HO2 := Lib.hid hown2; clear hown2 hg2 hat2)) | ((refine step_append_any _ rfl (.tmp 41) (.tmp 43) _ rfl W6.heap.size 29 i0 z 9 152 Tryz.underlying39 hi hz0 hz1 hz2 hzs (by decide) v1 0 [] (by rfl) ho1 _ (some ⟨W6.heap.size, 0, none⟩) 1 1 (opCells n (some ad) 1 cg Af 0 cf t 1 0 ⟨#[]⟩ ⟨#[]⟩ none 0 0).toList (by rfl) (RD.out _ _ ((hb3.block _ (Lg.lt_heap xB)).trans xB)) ON.out (by simp only [maxLen]; omega) (by omega) (hb2.size) ?_; intro v2 w3 hown2 hg2 hat2; have hb7 := Ops.app_belowO hb2 ho1 hg2; have HO2 := Lib.hid hown2; clear hown2 hg2 hat2)))
  all_goals
    go_wp2_with (fail)

    subst hQ
    exact ⟨⟨v2, rfl, own_lower HO2.out (by have := hb6.size; omega)⟩, BZ.out _ hb7⟩
end Go.Proofs.YtifiipmmgnmciaaGreatDoor.Sv
