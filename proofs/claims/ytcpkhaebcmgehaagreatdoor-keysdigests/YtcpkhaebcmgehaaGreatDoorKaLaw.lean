/- The walks of KeysAction and KeysDigests. -/
import Derived.Test.YtcpkhaebcmgehaaGreatDoorKaAction
import Derived.Test.YtcpkhaebcmgehaaGreatDoorKeyBase
import Derived.Test.YtcpkhaebcmgehaaGreatDoorFlRoot
import Derived.Test.YtcpkhaebcmgehaaGreatDoorKeyOrd
import Derived.Test.YtcpkhaebcmgehaaGreatDoorFewYes
import Derived.BigQuiet
namespace Go.Proofs.YtcpkhaebcmgehaaGreatDoor
open Go.RowKit
set_option linter.unusedVariables false
set_option maxRecDepth 100000
/-- an action that is not too great -/
def LitOk (c : ByteArray) (fs : List Fl) (ns : List ByteArray) : Prop := fs.length ≤ 60 ∧ (∀ f ∈ fs, f.Ok60) ∧ c.size ≤ 2000 ∧ ns.length ≤ 20 ∧ ∀ x ∈ ns, x.size ≤ 100
theorem LitOk.act {c : ByteArray} {fs : List Fl} {ns : List ByteArray} {n : Int} (h : LitOk c fs ns) (n0 : -9223372036854775808 ≤ n) (n1 : n ≤ 9223372036854775807) : ActOk c fs ns n :=
  ⟨h.2.2.1, ⟨by have := h.1; omega, fun f hf => by have := (h.2.1 f hf).p; have := (h.2.1 f hf).d; omega⟩, h.2.2.2.1, h.2.2.2.2, n0, n1⟩
def oneT (c : ByteArray) (ns : List ByteArray) : Tg := ⟨⟨#[]⟩, c, ns, []⟩
theorem oneT_ok {c : ByteArray} {fs : List Fl} {ns : List ByteArray} (h : LitOk c fs ns) : (oneT c ns).Ok := ⟨Nat.zero_le _, h.2.2.1, h.2.2.2.1, by simp [oneT], h.2.2.2.2, fun x hx => by simp [oneT] at hx⟩
set_option maxHeartbeats 2000000 in
theorem little_any (c : ByteArray) (F N : Option Addr) (fs : List Fl) (ns : List ByteArray) (d m : Nat) (n : Int) (b : Bool) (hb : b = true ↔ LitOk c fs ns) (hc : c.size ≤ maxLen) (hf : fs.length ≤ maxLen) (hz : ∀ f ∈ fs, f.p.size ≤ maxLen ∧ f.d.size ≤ maxLen) (hn : ns.length ≤ maxLen)
    (w : World) (hr : Fs.Fls w F fs) (hs : Strs w w.heap.size N ns) :
    Calls Tryz.prog 12 #[.agg #[.string c, .slice F fs.length d, .slice N ns.length m, .int .i64 n]] w fun e w' => e = .returned (.bool b) ∧ Below w.heap.size w w' := by
  obtain ⟨W2, eW⟩ : ∃ W2, W2 = (w.alloc (.cells #[.string c, .slice F fs.length d, .slice N ns.length m, .int .i64 n] 25)).alloc (.cells #[.string ⟨#[]⟩, .string c, .slice N ns.length m, .slice none 0 0] 61) := ⟨_, rfl⟩
  have hb2 : Below w.heap.size w W2 := by rw [eW]; exact ((Below.refl _ _).alloc (Nat.le_refl _) _).alloc (by simp) _
  have hq : W2.heap[w.heap.size + 1]? = some (.cells #[.string ⟨#[]⟩, .string c, .slice N ns.length m, .slice none 0 0] 61 (0, 0)) := by rw [eW]; exact heap_alloc2_new w _ _
  have hT : Tgs W2 W2.heap.size (some ⟨w.heap.size + 1, 0, none⟩) [oneT c ns] := fun _ => ⟨_, rfl, lt_heap hq, fun k hk => by
    obtain rfl : k = 0 := by simpa using hk
    have c0 := cell_heap hq 0
    have c1 := cell_heap hq 1
    have c2 := cell_heap hq 2
    have c3 := cell_heap hq 3
    refine ⟨N, m, none, 0, c0, c1, c2, c3, ?_, Reads.none_⟩
    exact (hs.below hb2).more hb2.size⟩
  have hF : Fls W2 W2.heap.size F fs := fls_root ((hr.below hb2).more hb2.size)
  have hl1 : ∀ t ∈ [oneT c ns], t.n.size ≤ maxLen ∧ t.c.size ≤ maxLen ∧ t.ds.length ≤ maxLen ∧ t.ss.length ≤ maxLen := by
    intro t ht
    obtain rfl := List.mem_singleton.1 ht
    exact ⟨Nat.zero_le _, hc, hn, Nat.zero_le _⟩
  have FW : Hid (Calls Tryz.prog 16 #[.slice (some ⟨w.heap.size + 1, 0, none⟩) 1 1, .slice F fs.length d] W2 fun e w' => e = .returned (.bool b) ∧ W2 = w') := Lib.hid (by
    by_cases h : LitOk c fs ns
    · have hbt : b = true := hb.2 h
      subst hbt
      exact few_yes _ F [oneT c ns] fs 1 d W2 (by simp) (by unfold maxLen at hf; omega) hT hF hl1 hz ⟨by simp, fun t ht => by
        obtain rfl := List.mem_singleton.1 ht
        exact oneT_ok h, h.1, h.2.1⟩
    · have hbf : b = false := by
        cases b with
        | false => rfl
        | true => exact absurd (hb.1 rfl) h
      subst hbf
      refine (few60_any _ F [oneT c ns] fs 1 d W2 (by simp) (by unfold maxLen at hf; omega) hT hF hl1 hz).mono ?_
      rintro e w' ⟨b', rfl, rfl, hb'⟩
      cases b' with
      | false => exact ⟨rfl, rfl⟩
      | true =>
        exfalso
        obtain ⟨_, g2, g3, g4⟩ := hb' rfl
        have := g2 (oneT c ns) (by simp)
        exact h ⟨g3, g4, this.c, this.dl, this.d⟩)
  clear hb hc hf hz hn hr hs hT hF hl1 hq
  go_enter Tryz.func12, Tryz.ntmps12
  go_wp2_with (go_at_call 16; rw [← eW]; (with_reducible refine (FW.out).mono ?_); rintro e w1 ⟨rfl, rfl⟩)
  go_ret
  exact ⟨rfl, by first | exact hb2 | (rw [← eW]; exact hb2)⟩
set_option maxHeartbeats 4000000 in
theorem actionlaw_walk (c : ByteArray) (F N : Option Addr) (fs : List Fl) (ns : List ByteArray) (d m : Nat) (n : Int) (n0 : -9223372036854775808 ≤ n) (n1 : n ≤ 9223372036854775807) (hc : c.size ≤ maxLen) (hf : fs.length ≤ maxLen) (hfd : fs.length ≤ d) (hz : ∀ f ∈ fs, f.p.size ≤ maxLen ∧ f.d.size ≤ maxLen) (hn : ns.length ≤ maxLen)
    (w : World) (hE : Fs.Env w) (hr : Fs.Fls w F fs) (hs : Strs w w.heap.size N ns) :
    Calls Tryz.prog 3 #[.agg #[.string c, .slice F fs.length d, .slice N ns.length m, .int .i64 n]] w fun e w' => e = .returned (.bool true) ∧ Below w.heap.size w w' := by
  obtain ⟨W1, eW⟩ : ∃ W1, W1 = w.alloc (.cells #[.string c, .slice F fs.length d, .slice N ns.length m, .int .i64 n] 25) := ⟨_, rfl⟩
  have hb1 : Below w.heap.size w W1 := by rw [eW]; exact (Below.refl _ _).alloc (Nat.le_refl _) _
  have hq : W1.heap[w.heap.size]? = some (.cells #[.string c, .slice F fs.length d, .slice N ns.length m, .int .i64 n] 25 (0, 0)) := by rw [eW]; exact heap_alloc_new w _
  have BW : Hid (∀ W, Below W1.heap.size W1 W → Below w.heap.size w W) := Lib.hid fun W hW => hb1.trans (hW.mono hb1.size)
  have d0 : ∀ w', Below W1.heap.size W1 w' → w'.cell? ⟨w.heap.size, 0, none⟩ = some (.string c) := fun w' h => (cell_heap (heap_below h (lt_heap hq) hq) 0).trans rfl
  have d1 : ∀ w', Below W1.heap.size W1 w' → w'.cell? ⟨w.heap.size, 1, none⟩ = some (.slice F fs.length d) := fun w' h => (cell_heap (heap_below h (lt_heap hq) hq) 1).trans rfl
  have d2 : ∀ w', Below W1.heap.size W1 w' → w'.cell? ⟨w.heap.size, 2, none⟩ = some (.slice N ns.length m) := fun w' h => (cell_heap (heap_below h (lt_heap hq) hq) 2).trans rfl
  have d3 : ∀ w', Below W1.heap.size W1 w' → w'.cell? ⟨w.heap.size, 3, none⟩ = some (.int .i64 n) := fun w' h => (cell_heap (heap_below h (lt_heap hq) hq) 3).trans rfl
  have AW : Hid (∀ W, Below W1.heap.size W1 W → Calls Tryz.prog 15 #[] W fun e w' => e = .returned (.bool true) ∧ Below W.heap.size W w') := Lib.hid fun W hW => awake_any W (hE.below (BW.out _ hW)).2
  have LI : Hid (∀ b : Bool, (b = true ↔ LitOk c fs ns) → ∀ W, Below W1.heap.size W1 W → Calls Tryz.prog 12 #[.agg #[.string c, .slice F fs.length d, .slice N ns.length m, .int .i64 n]] W fun e w' => e = .returned (.bool b) ∧ Below W.heap.size W w') := Lib.hid fun b hb W hW =>
    little_any c F N fs ns d m n b hb hc hf hz hn W ((hr.below (BW.out _ hW)).more (BW.out _ hW).size) ((hs.below (BW.out _ hW)).more (BW.out _ hW).size)
  have KA : Hid (LitOk c fs ns → ∀ W, Below W1.heap.size W1 W → Calls Tryz.prog 13 #[.string c, .slice F fs.length d, .slice N ns.length m, .int .i64 n] W fun e w' => e = .returned (.string (actionB c fs ns n)) ∧ Below W.heap.size W w') := Lib.hid fun h W hW =>
    kaction_any c F N fs ns d m n (h.act n0 n1) W (hE.below (BW.out _ hW)) ((hr.below (BW.out _ hW)).more (BW.out _ hW).size) ((hs.below (BW.out _ hW)).more (BW.out _ hW).size)
  have RA : Hid (LitOk c fs ns → ∀ W, Below W1.heap.size W1 W → Calls Tryz.prog 14 #[.string c, .slice F fs.length d, .slice N ns.length m, .int .i64 n] W fun e w' => e = .returned (.string (actionB c fs ns n)) ∧ Below W.heap.size W w') := Lib.hid fun h W hW =>
    raction_any c F N fs ns d m n (h.act n0 n1) W hfd ((hr.below (BW.out _ hW)).more (BW.out _ hW).size) ((hs.below (BW.out _ hW)).more (BW.out _ hW).size)
  clear hE hr hs hz hn hf hfd hc n0 n1 hb1 hq
  by_cases h : LitOk c fs ns
  · have L1 := Lib.hid (LI.out true (by simp [h]))
    have K1 := Lib.hid (KA.out h)
    have R1 := Lib.hid (RA.out h)
    clear LI KA RA h
    generalize actionB c fs ns n = g at *
    have e1 : (g.toList == g.toList) = true := by simp
    go_enter Tryz.func3, Tryz.ntmps3
    go_wp2_with (fail)
    rw [← eW]
    clear eW
    refine wp_region_cls (C := fun w' => Below W1.heap.size W1 w') (by kernel_rfl) (by kernel_rfl) (Below.refl _ _).drew ?_
    repeat (first | go_big_quiet_skip | quiet_step (first | (intro _; rfl) | (intro hss; simp only [d0 _ hss, d1 _ hss, d2 _ hss, d3 _ hss, Result.andThen]; first | exact ⟨rfl, rfl⟩ | exact ⟨trivial, rfl⟩ | exact rfl) | (intro hss; (first | rw [d0 _ hss] | rw [d1 _ hss] | rw [d2 _ hss] | rw [d3 _ hss]); exact ⟨rfl, rfl⟩) | (intro hss; go_at_call 12; (with_reducible refine (L1.out _ hss).mono ?_); rintro e w4 ⟨rfl, hb4⟩; exact ⟨rfl, hss.trans (hb4.mono hss.size)⟩) | (intro hss; go_at_call 13; (with_reducible refine (K1.out _ hss).mono ?_); rintro e w4 ⟨rfl, hb4⟩; exact ⟨rfl, hss.trans (hb4.mono hss.size)⟩) | (intro hss; go_at_call 14; (with_reducible refine (R1.out _ hss).mono ?_); rintro e w4 ⟨rfl, hb4⟩; exact ⟨rfl, hss.trans (hb4.mono hss.size)⟩) | (intro hss; go_at_call 15; (with_reducible refine (AW.out _ hss).mono ?_); rintro e w4 ⟨rfl, hb4⟩; exact ⟨rfl, hss.trans (hb4.mono hss.size)⟩)))
    refine wpQuiet_nil ?_
    intro w2 hb2
    go_wp2
    go_ret
    exact ⟨rfl, BW.out _ hb2⟩
  · have L1 := Lib.hid (LI.out false (by simp [h]))
    clear LI KA RA h
    go_enter Tryz.func3, Tryz.ntmps3
    go_wp2_with (fail)
    rw [← eW]
    clear eW
    refine wp_region_cls (C := fun w' => Below W1.heap.size W1 w') (by kernel_rfl) (by kernel_rfl) (Below.refl _ _).drew ?_
    repeat (first | go_big_quiet_skip | quiet_step (first | (intro _; rfl) | (intro hss; simp only [d0 _ hss, d1 _ hss, d2 _ hss, d3 _ hss, Result.andThen]; first | exact ⟨rfl, rfl⟩ | exact ⟨trivial, rfl⟩ | exact rfl) | (intro hss; go_at_call 12; (with_reducible refine (L1.out _ hss).mono ?_); rintro e w4 ⟨rfl, hb4⟩; exact ⟨rfl, hss.trans (hb4.mono hss.size)⟩) | (intro hss; go_at_call 15; (with_reducible refine (AW.out _ hss).mono ?_); rintro e w4 ⟨rfl, hb4⟩; exact ⟨rfl, hss.trans (hb4.mono hss.size)⟩)))
    refine wpQuiet_nil ?_
    intro w2 hb2
    go_wp2
    go_ret
    exact ⟨rfl, BW.out _ hb2⟩
set_option maxHeartbeats 8000000 in
theorem digestslaw_walk (c : ByteArray) (F N T : Option Addr) (fs : List Fl) (ns : List ByteArray) (ts : List Tg) (d m q : Nat) (n : Int) (gg : ByteArray) (n0 : -9223372036854775808 ≤ n) (n1 : n ≤ 9223372036854775807) (hc : c.size ≤ maxLen) (hf : fs.length ≤ maxLen) (hfd : fs.length ≤ d) (hz : ∀ f ∈ fs, f.p.size ≤ maxLen ∧ f.d.size ≤ maxLen) (hn : ns.length ≤ maxLen)
    (hts : ts.length ≤ 9223372036854775807) (hzt : ∀ t ∈ ts, t.Fit) (hgg : gg.size ≤ maxLen)
    (w : World) (hE : Fs.Env w) (hr : Fs.Fls w F fs) (hs : Strs w w.heap.size N ns) (ht : Tgs w w.heap.size T ts) :
    Calls Tryz.prog 4 #[.agg #[.string c, .slice F fs.length d, .slice N ns.length m, .int .i64 n], .slice T ts.length q, .string gg] w fun e w' => e = .returned (.bool true) ∧ Below w.heap.size w w' := by
  obtain ⟨W1, eW⟩ : ∃ W1, W1 = w.alloc (.cells #[.string c, .slice F fs.length d, .slice N ns.length m, .int .i64 n] 25) := ⟨_, rfl⟩
  have hb1 : Below w.heap.size w W1 := by rw [eW]; exact (Below.refl _ _).alloc (Nat.le_refl _) _
  have hq : W1.heap[w.heap.size]? = some (.cells #[.string c, .slice F fs.length d, .slice N ns.length m, .int .i64 n] 25 (0, 0)) := by rw [eW]; exact heap_alloc_new w _
  have BW : Hid (∀ W, Below W1.heap.size W1 W → Below w.heap.size w W) := Lib.hid fun W hW => hb1.trans (hW.mono hb1.size)
  have d0 : ∀ w', Below W1.heap.size W1 w' → w'.cell? ⟨w.heap.size, 0, none⟩ = some (.string c) := fun w' h => (cell_heap (heap_below h (lt_heap hq) hq) 0).trans rfl
  have d1 : ∀ w', Below W1.heap.size W1 w' → w'.cell? ⟨w.heap.size, 1, none⟩ = some (.slice F fs.length d) := fun w' h => (cell_heap (heap_below h (lt_heap hq) hq) 1).trans rfl
  have d2 : ∀ w', Below W1.heap.size W1 w' → w'.cell? ⟨w.heap.size, 2, none⟩ = some (.slice N ns.length m) := fun w' h => (cell_heap (heap_below h (lt_heap hq) hq) 2).trans rfl
  have d3 : ∀ w', Below W1.heap.size W1 w' → w'.cell? ⟨w.heap.size, 3, none⟩ = some (.int .i64 n) := fun w' h => (cell_heap (heap_below h (lt_heap hq) hq) 3).trans rfl
  have AW : Hid (∀ W, Below W1.heap.size W1 W → Calls Tryz.prog 15 #[] W fun e w' => e = .returned (.bool true) ∧ Below W.heap.size W w') := Lib.hid fun W hW => awake_any W (hE.below (BW.out _ hW)).2
  have LI : Hid (∀ b : Bool, (b = true ↔ LitOk c fs ns) → ∀ W, Below W1.heap.size W1 W → Calls Tryz.prog 12 #[.agg #[.string c, .slice F fs.length d, .slice N ns.length m, .int .i64 n]] W fun e w' => e = .returned (.bool b) ∧ Below W.heap.size W w') := Lib.hid fun b hb W hW =>
    little_any c F N fs ns d m n b hb hc hf hz hn W ((hr.below (BW.out _ hW)).more (BW.out _ hW).size) ((hs.below (BW.out _ hW)).more (BW.out _ hW).size)
  have KA : Hid (LitOk c fs ns → ∀ W, Below W1.heap.size W1 W → Calls Tryz.prog 13 #[.string c, .slice F fs.length d, .slice N ns.length m, .int .i64 n] W fun e w' => e = .returned (.string (actionB c fs ns n)) ∧ Below W.heap.size W w') := Lib.hid fun h W hW =>
    kaction_any c F N fs ns d m n (h.act n0 n1) W (hE.below (BW.out _ hW)) ((hr.below (BW.out _ hW)).more (BW.out _ hW).size) ((hs.below (BW.out _ hW)).more (BW.out _ hW).size)
  have RA : Hid (LitOk c fs ns → ∀ W, Below W1.heap.size W1 W → Calls Tryz.prog 14 #[.string c, .slice F fs.length d, .slice N ns.length m, .int .i64 n] W fun e w' => e = .returned (.string (actionB c fs ns n)) ∧ Below W.heap.size W w') := Lib.hid fun h W hW =>
    raction_any c F N fs ns d m n (h.act n0 n1) W hfd ((hr.below (BW.out _ hW)).more (BW.out _ hW).size) ((hs.below (BW.out _ hW)).more (BW.out _ hW).size)
  have FW : Hid (∀ W, Below W1.heap.size W1 W → Calls Tryz.prog 16 #[.slice T ts.length q, .slice none 0 0] W (FewSays ts [] W)) := Lib.hid fun W hW =>
    few_any T none ts [] q 0 W hts (by decide) ((ht.below (BW.out _ hW)).more (BW.out _ hW).size) (Fls.none_ _ _ _) hzt (fun f h => by cases h)
  have KOA : Hid (LitOk c fs ns → ts.length ≤ 20 → (∀ t ∈ ts, t.Ok) → gg.size ≤ 100 → ∀ W, Below W1.heap.size W1 W → Calls Tryz.prog 17 #[.slice T ts.length q, .slice F fs.length d, .string gg] W fun e w' => e = .returned (.string (orderB ts fs gg)) ∧ Below W.heap.size W w') := Lib.hid fun h h1 h2 hg W hW =>
    korder_any T F ts fs q d gg hg h1 h2 h.1 (fun f hf => (h.2.1 f hf).ok) W (hE.below (BW.out _ hW)).2 ((ht.below (BW.out _ hW)).more (BW.out _ hW).size) (fls_root ((hr.below (BW.out _ hW)).more (BW.out _ hW).size))
  have ROA : Hid (LitOk c fs ns → ts.length ≤ 20 → (∀ t ∈ ts, t.Ok) → gg.size ≤ 100 → ∀ W, Below W1.heap.size W1 W → Calls Tryz.prog 18 #[.slice T ts.length q, .slice F fs.length d, .string gg] W fun e w' => e = .returned (.string (orderB ts fs gg)) ∧ Below W.heap.size W w') := Lib.hid fun h h1 h2 hg W hW =>
    rorder_any T F ts fs q d gg hg h1 h2 h.1 (fun f hf => (h.2.1 f hf).ok) W ((ht.below (BW.out _ hW)).more (BW.out _ hW).size) (fls_root ((hr.below (BW.out _ hW)).more (BW.out _ hW).size))
  have B0 := Lib.hid (Below.refl W1.heap.size W1)
  have c0 := d0 _ (Below.refl _ _)
  have c1 := d1 _ (Below.refl _ _)
  have c2 := d2 _ (Below.refl _ _)
  have c3 := d3 _ (Below.refl _ _)
  unfold maxLen at hgg
  clear hE hr hs ht hz hn hf hfd hc n0 n1 hb1 hq hts hzt
  by_cases h : LitOk c fs ns
  · have L1 := Lib.hid (LI.out true (by simp [h]))
    have K1 := Lib.hid (KA.out h)
    have R1 := Lib.hid (RA.out h)
    have KO1 := Lib.hid (KOA.out h)
    have RO1 := Lib.hid (ROA.out h)
    clear LI KA RA h KOA ROA
    generalize actionB c fs ns n = g at *
    generalize orderB ts fs gg = og at *
    have e1 : (g.toList == g.toList) = true := by simp
    have e2 : (og.toList == og.toList) = true := by simp
    by_cases hg : gg.size ≤ 100
    · have i1 : ¬ (100 : Int) < (gg.size : Int) := by omega
      have i2 : decide ((100 : Int) < (gg.size : Int)) = false := decide_eq_false i1
      go_enter Tryz.func4, Tryz.ntmps4
      go_wp2_with (go_at_call 12; rw [← eW]; (with_reducible refine (L1.out _ B0.out).mono ?_); rintro e w2 ⟨rfl, HB2⟩; have FW2 := Lib.hid (FW.out w2 HB2))
      refine (FW2.out).mono ?_
      rintro e w' ⟨b, rfl, rfl, hb⟩
      cases b
      · clear hb
        go_wp2_with (go_at_call 15; ((with_reducible refine (AW.out _ HB2).mono ?_); rintro e w4 ⟨rfl, hb4⟩))
        go_ret
        exact ⟨rfl, (BW.out _ HB2).trans (hb4.mono (BW.out _ HB2).size)⟩
      · obtain ⟨h1, h2, _, _⟩ := hb rfl
        have KO := Lib.hid (KO1.out h1 h2 hg)
        have RO := Lib.hid (RO1.out h1 h2 hg)
        clear hb h1 h2 KO1 RO1 FW2 FW L1 c0 c1 c2 c3 eW
        go_wp2_with (fail)
        refine wp_region_cls (C := fun w' => Below W1.heap.size W1 w') (by kernel_rfl) (by kernel_rfl) HB2.drew ?_
        repeat (first | go_big_quiet_skip | quiet_step (first | (intro _; rfl) | (intro hss; (first | rw [d0 _ hss] | rw [d1 _ hss] | rw [d2 _ hss] | rw [d3 _ hss]); exact ⟨rfl, rfl⟩) | (intro hss; go_at_call 13; (with_reducible refine (K1.out _ hss).mono ?_); rintro e w4 ⟨rfl, hb4⟩; exact ⟨rfl, hss.trans (hb4.mono hss.size)⟩) | (intro hss; go_at_call 14; (with_reducible refine (R1.out _ hss).mono ?_); rintro e w4 ⟨rfl, hb4⟩; exact ⟨rfl, hss.trans (hb4.mono hss.size)⟩) | (intro hss; go_at_call 17; (with_reducible refine (KO.out _ hss).mono ?_); rintro e w4 ⟨rfl, hb4⟩; exact ⟨rfl, hss.trans (hb4.mono hss.size)⟩) | (intro hss; go_at_call 18; (with_reducible refine (RO.out _ hss).mono ?_); rintro e w4 ⟨rfl, hb4⟩; exact ⟨rfl, hss.trans (hb4.mono hss.size)⟩) | (intro hss; go_at_call 15; (with_reducible refine (AW.out _ hss).mono ?_); rintro e w4 ⟨rfl, hb4⟩; exact ⟨rfl, hss.trans (hb4.mono hss.size)⟩)))
        refine wpQuiet_nil ?_
        intro w3 hb3
        go_wp2
        go_ret
        exact ⟨rfl, BW.out _ hb3⟩
    · have i1 : (100 : Int) < (gg.size : Int) := by omega
      have i2 : decide ((100 : Int) < (gg.size : Int)) = true := decide_eq_true i1
      clear K1 R1 KO1 RO1
      go_enter Tryz.func4, Tryz.ntmps4
      go_wp2_with (go_at_call 12; rw [← eW]; (with_reducible refine (L1.out _ B0.out).mono ?_); rintro e w2 ⟨rfl, HB2⟩; have FW2 := Lib.hid (FW.out w2 HB2))
      refine (FW2.out).mono ?_
      rintro e w' ⟨b, rfl, rfl, hb⟩
      clear hb
      cases b
      all_goals
        go_wp2_with (go_at_call 15; ((with_reducible refine (AW.out _ HB2).mono ?_); rintro e w4 ⟨rfl, hb4⟩))
        go_ret
        exact ⟨rfl, (BW.out _ HB2).trans (hb4.mono (BW.out _ HB2).size)⟩
  · have L1 := Lib.hid (LI.out false (by simp [h]))
    clear LI KA RA h KOA ROA FW
    go_enter Tryz.func4, Tryz.ntmps4
    go_wp2_with (first
      | (go_at_call 12; rw [← eW]; (with_reducible refine (L1.out _ B0.out).mono ?_); rintro e w2 ⟨rfl, HB2⟩)
      | (go_at_call 15; ((with_reducible refine (AW.out _ HB2).mono ?_); rintro e w4 ⟨rfl, hb4⟩)))
    go_ret
    exact ⟨rfl, (BW.out _ HB2).trans (hb4.mono (BW.out _ HB2).size)⟩
end Go.Proofs.YtcpkhaebcmgehaaGreatDoor
