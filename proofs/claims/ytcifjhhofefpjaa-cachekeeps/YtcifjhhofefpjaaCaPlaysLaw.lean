/- The law CachePlays, walked. -/
import Derived.Test.YtcifjhhofefpjaaCaAwake
import Derived.Test.YtcifjhhofefpjaaCrPut
import Derived.Test.YtcifjhhofefpjaaCrKeys
import Derived.BigFrame
namespace Go.Proofs.Ytcifjhhofefpjaa.Cr
open Go.RowKit Go.Proofs.Ytcifjhhofefpjaa.Ca Go.Shelf
set_option linter.unusedVariables false
set_option maxRecDepth 100000
section
variable {w w' : World} {B c m most t r : Nat} {L : List (Th Int)}
theorem is_map (h : I.Is w B c m most t L) : ∃ es cl, w.heap[m]? = some (.map es cl) := by
  obtain ⟨_, _, _, h, _⟩ := h
  exact own_obj h.map
theorem is_pins (h : I.Is w B c m most t L) : ∀ x ∈ L, x.p ≤ t := by
  obtain ⟨_, _, _, h, rfl⟩ := h
  intro x hx
  obtain ⟨e, he, rfl⟩ := List.mem_map.1 hx
  exact h.pins e he
/-- the reference's cache stays while the program's is called -/
theorem RefAt.frC (h : RefAt w B r most L) (hm : ∃ es cl, w.heap[m]? = some (.map es cl)) (f : FrC 55 60 m w w') : RefAt w' B r most L := by
  obtain ⟨es, cl, hm⟩ := hm
  obtain ⟨h1, v, hr, hown⟩ := h
  have key : ∀ {b : Nat} {cs : Array Value} {T : TypeId}, w.heap[b]? = some (.cells cs T (0, 0)) → T ≠ 55 → T ≠ 60 → w'.heap[b]? = some (.cells cs T (0, 0)) := fun {b cs T} hb h1 h2 => by
    refine (f.2 b (heap_lt hb) (fun e => by subst e; rw [hm] at hb; cases hb) (fun cs e => ?_) (fun cs e => ?_)).trans hb
    · rw [hb] at e; injection e with e; injection e with _ e; exact h1 e
    · rw [hb] at e; injection e with e; injection e with _ e; exact h2 e
  refine ⟨h1, v, key hr (by decide) (by decide), hown.1, ?_⟩
  rcases hown.2 with h0 | ⟨g, cap, cur, hv, hg, hgb, h2⟩
  · exact .inl h0
  · exact .inr ⟨g, cap, cur, hv, hg, key hgb (by decide) (by decide), h2⟩
/-- .. and the program's while the reference's is called -/
theorem is_frR (h : I.Is w B c m most t L) (f : FrR w w') : I.Is w' B c m most t L := by
  obtain ⟨cl, D, E, h, rfl⟩ := h
  refine ⟨cl, D, E, h.keep ?_ ?_ (fun e he => ?_), rfl⟩
  · exact f.2 c (heap_lt h.hdr) (fun cs e => by rw [h.hdr] at e; injection e with e; injection e with _ e; cases e) (fun cs e => by rw [h.hdr] at e; injection e with e; injection e with _ e; cases e)
  · obtain ⟨es, cl, hm⟩ := own_obj h.map
    exact f.2 m (heap_lt hm) (fun cs e => by rw [hm] at e; cases e) (fun cs e => by rw [hm] at e; cases e)
  · have := h.things e he
    exact f.2 e.b (heap_lt this) (fun cs e => by rw [this] at e; injection e with e; injection e with _ e; cases e) (fun cs e => by rw [this] at e; injection e with e; injection e with _ e; cases e)
theorem blk_frC {b : Nat} {cs : Array Value} (hb : w.heap[b]? = some (.cells cs 37 (0, 0))) (hm : ∃ es cl, w.heap[m]? = some (.map es cl)) (f : FrC 55 60 m w w') : w'.heap[b]? = some (.cells cs 37 (0, 0)) := by
  obtain ⟨es, cl, hm⟩ := hm
  exact (f.2 b (heap_lt hb) (fun e => by subst e; rw [hm] at hb; cases hb) (fun cs e => by rw [hb] at e; injection e with e; injection e with _ e; cases e) (fun cs e => by rw [hb] at e; injection e with e; injection e with _ e; cases e)).trans hb
theorem blk_frR {b : Nat} {cs : Array Value} (hb : w.heap[b]? = some (.cells cs 37 (0, 0))) (f : FrR w w') : w'.heap[b]? = some (.cells cs 37 (0, 0)) :=
  (f.2 b (heap_lt hb) (fun cs e => by rw [hb] at e; injection e with e; injection e with _ e; cases e) (fun cs e => by rw [hb] at e; injection e with e; injection e with _ e; cases e)).trans hb
end
theorem put_len {most : Nat} {L : List (Th Int)} {k : ByteArray} {v : Int} (h : L.length ≤ most) (h1 : 1 ≤ most) : (put most L k v).1.length ≤ most := by
  unfold put
  split
  · rename_i a x b hat
    have := (part_some hat).1
    rw [this] at h
    (simp at h ⊢; try omega)
  · split
    · (simp; try omega)
    · split
      · rename_i a x b hfr
        have := (part_some hfr).1
        rw [this] at h
        simp at h ⊢; omega
      · exact h
theorem get_len {L : List (Th Int)} {k : ByteArray} : (Ca.get L k).1.length = L.length := by
  unfold Ca.get
  split
  · rename_i a x b hat
    have := (part_some hat).1
    rw [this]
    (simp; try omega)
  · rfl
theorem pin_len {L : List (Th Int)} {k : ByteArray} : (pin L k).1.length = L.length := by
  unfold pin
  split
  · rename_i a x b hat
    have := (part_some hat).1
    rw [this]
    simp
  · rfl
theorem unpin_len {L : List (Th Int)} {k : ByteArray} : (unpin L k).1.length = L.length := by
  unfold unpin
  split
  · rename_i a x b hat
    have := (part_some hat).1
    split
    · rfl
    · rw [this]; simp
  · rfl
theorem drop_len {L : List (Th Int)} {k : ByteArray} : (drop L k).1.length ≤ L.length := by
  unfold drop
  split
  · rename_i a x b hat
    have := (part_some hat).1
    split
    · rw [this]; (simp; try omega)
    · exact Nat.le_refl _
  · exact Nat.le_refl _
theorem step1 {w0 W w' : World} {B c m most t r bx : Nat} {L L' : List (Th Int)} {cs : Array Value} {v : Value} {e : Ending} (hi : I.Is W B c m most t L) (hr : RefAt W B r most L) (hb : Below B w0 W) (hx : W.heap[bx]? = some (.cells cs 37 (0, 0))) (h : I.Says W B c m most (t + 1) L' v e w') :
    I.Is w' B c m most (t + 1) L' ∧ RefAt w' B r most L ∧ Below B w0 w' ∧ w'.heap[bx]? = some (.cells cs 37 (0, 0)) :=
  ⟨h.2.1, hr.frC (is_map hi) h.2.2.2, hb.trans h.2.2.1, blk_frC hx (is_map hi) h.2.2.2⟩
theorem step2 {w0 W w' : World} {B c m most t r bx : Nat} {L' : List (Th Int)} {cs : Array Value} {v : Value} {e : Ending} (hi : I.Is W B c m most t L') (hb : Below B w0 W) (hx : W.heap[bx]? = some (.cells cs 37 (0, 0))) (h : RSays W B r most L' v e w') :
    I.Is w' B c m most t L' ∧ RefAt w' B r most L' ∧ Below B w0 w' ∧ w'.heap[bx]? = some (.cells cs 37 (0, 0)) :=
  ⟨is_frR hi h.2.2.2, h.2.1, hb.trans h.2.2.1, blk_frR hx h.2.2.2⟩
theorem says_val {w w' : World} {B c m most t : Nat} {L : List (Th Int)} {v : Value} {e : Ending} (h : I.Says w B c m most t L v e w') : e = .returned v := h.1
theorem rsays_val {w w' : World} {B r most : Nat} {L : List (Th Int)} {v : Value} {e : Ending} (h : RSays w B r most L v e w') : e = .returned v := h.1
theorem is_drewN {w : World} {B c m most t : Nat} {L : List (Th Int)} (h : I.Is w B c m most t L) (q : Nat) : I.Is (w.drewN q) B c m most t L := by
  obtain ⟨cl, D, E, h1, h2⟩ := h
  exact ⟨cl, D, E, I.CaDrewN h1 q, h2⟩
theorem below_drewN {B : Nat} {a w : World} (h : Below B a w) (n : Nat) : Below B a (w.drewN n) := I.below_drewN h n
/-- a call that is asked -/
structure Opn where
  a : Int
  k : ByteArray
  n : Int
def OpsAt (w : World) (B : Nat) (A : Option Addr) (l : List Opn) : Prop := 0 < l.length → ∃ ad : Addr, A = some ad ∧ ad.block < B ∧ ∀ j (h : j < l.length),
  w.cell? (ad.add (j * 3)) = some (.int .i64 l[j].a) ∧ w.cell? ⟨(ad.add (j * 3)).block, (ad.add (j * 3)).off + 1, none⟩ = some (.string l[j].k) ∧ w.cell? ⟨(ad.add (j * 3)).block, (ad.add (j * 3)).off + 2, none⟩ = some (.int .i64 l[j].n)
theorem OpsAt.below {w w' : World} {B : Nat} {A : Option Addr} {l : List Opn} (h : OpsAt w B A l) (hb : Below B w w') : OpsAt w' B A l := fun hl => by
  obtain ⟨ad, e, hB, hc⟩ := h hl
  have eb : ∀ j, (ad.add j).block = ad.block := fun j => by unfold Addr.add; split <;> rfl
  refine ⟨ad, e, hB, fun j hj => ?_⟩
  obtain ⟨h0, h1, h2⟩ := hc j hj
  exact ⟨(hb.cell (p := ad.add (j * 3)) (by rw [eb]; exact hB)).trans h0, (hb.cell (p := ⟨_, _, none⟩) (by show (ad.add (j * 3)).block < B; rw [eb]; exact hB)).trans h1, (hb.cell (p := ⟨_, _, none⟩) (by show (ad.add (j * 3)).block < B; rw [eb]; exact hB)).trans h2⟩
theorem awake_low {w0 w : World} {B : Nat} (hb : Below B w0 w) (hB : B ≤ w.heap.size) : Calls Try.prog 7 #[] w fun e w' => e = .returned (.bool true) ∧ Below B w0 w' :=
  (awake_any w).mono fun e w' ⟨h1, h2⟩ => ⟨h1, hb.trans (h2.mono hB)⟩
theorem plays_bad (most : Int) (V : Value) (w : World) (h : most < 1 ∨ 1000 < most) : Calls Try.prog 4 #[.int .i64 most, V] w fun e w' => e = .returned (.bool true) ∧ Below w.heap.size w w' := by
  have N0 := Lib.hid (I.new_bad most h w)
  have N1 := Lib.hid (rnew_bad most h w)
  have AW := Lib.hid (awake_low (Below.refl w.heap.size w) (Nat.le_refl _))
  clear h
  go_enter Try.func4, Try.ntmps4
  go_wp2_with (first | (go_at_call 8; ((with_reducible refine (N0.out).mono ?_); rintro e w' ⟨rfl, rfl⟩)) | (go_at_call 11; ((with_reducible refine (N1.out).mono ?_); rintro e w' ⟨rfl, rfl⟩)) | (go_at_call 7; ((with_reducible refine (AW.out).mono ?_); rintro e w' ⟨rfl, hb⟩)))
  go_ret
  exact ⟨rfl, hb⟩
set_option maxHeartbeats 1000000 in
theorem plays_good (most : Nat) (A : Option Addr) (l : List Opn) (cap : Nat) (w : World) (h1 : 1 ≤ most) (h2 : most ≤ 1000) (hl : l.length ≤ maxLen) (hks : ∀ x ∈ l, x.k.size ≤ maxLen) (hO : OpsAt w w.heap.size A l) :
    Calls Try.prog 4 #[.int .i64 most, .slice A l.length cap] w fun e w' => e = .returned (.bool true) ∧ Below w.heap.size w w' := by
  have N0 := Lib.hid (I.new_ok most h1 h2 w)
  unfold maxLen at hl
  go_enter Try.func4, Try.ntmps4
  go_wp2_with (fail)
  refine (N0.out).mono ?_
  rintro e w1 ⟨rfl, i1, b1⟩
  have N1 := Lib.hid (rnew_ok most h1 h2 w1)
  have I1 := Lib.hid i1
  clear i1
  go_wp2_with (fail)
  refine (N1.out).mono ?_
  rintro e w2 ⟨rfl, r2, b2⟩
  have I2 := Lib.hid (I1.out.below b2)
  have R2 : Hid (RefAt w2 w.heap.size w1.heap.size most []) := Lib.hid (by
    obtain ⟨_, v, hr, hown⟩ := r2
    exact ⟨b1.size, v, hr, ⟨hown.1, by
      rcases hown.2 with h0 | ⟨g, cap, cur, hv, hg, h⟩
      · exact .inl h0
      · exact .inr ⟨g, cap, cur, hv, Nat.le_trans b1.size hg, h⟩⟩⟩)
  have B2 := Lib.hid (b1.trans (b2.mono b1.size))
  clear r2 b1 b2
  go_wp2_with (fail)
  go_loopw [9] (fun i wr => ∃ (k : Nat) (L : List (Th Int)), i = .int .i64 k ∧ k ≤ l.length ∧ k ≤ 200 ∧ I.Is wr w.heap.size (w.heap.size + 1) w.heap.size most k L ∧ RefAt wr w.heap.size w1.heap.size most L ∧ Below w.heap.size w wr ∧ L.length ≤ most) (fun i _ => l.length - (intOf i).toNat)
  case atStart => exact ⟨0, [], rfl, Nat.zero_le _, Nat.zero_le _, I2.out, R2.out, B2.out, Nat.zero_le _⟩
  case round =>
    obtain ⟨k, L, rfl, hk, hk2, hi, hr, hb, hL⟩ := hrel
    rename World => wr
    have HB := Lib.hid hb
    have hBs := hb.size
    by_cases hlt : k < l.length
    · by_cases hlt2 : k < 200
      · obtain ⟨ad, e, hB, hc⟩ := (hO.below hb) (by omega)
        subst e
        obtain ⟨g0, g1, g2⟩ := hc k hlt
        have hkI : (k : Int) < (l.length : Int) := by omega
        have hk0 : (0 : Int) ≤ (k : Int) := by omega
        have hk200 : (k : Int) < 200 := by omega
        have hks' := hks _ (List.getElem_mem hlt)
        clear hc
        generalize l[k] = x at *
        obtain ⟨a, key, n⟩ := x
        have g0 : wr.cell? (ad.add (k * 3)) = some (.int .i64 a) := g0
        have g1 : wr.cell? ⟨(ad.add (k * 3)).block, (ad.add (k * 3)).off + 1, none⟩ = some (.string key) := g1
        have g2 : wr.cell? ⟨(ad.add (k * 3)).block, (ad.add (k * 3)).off + 2, none⟩ = some (.int .i64 n) := g2
        have hkz : key.size ≤ 9223372036854775807 := by unfold maxLen at hks'; exact hks'
        have hks2 : key.size ≤ maxLen := hks'
        clear hks'
        have hbW : Below wr.heap.size wr (wr.alloc (.cells #[.int .i64 a, .string key, .int .i64 n] 37)) := (Below.refl _ _).alloc (Nat.le_refl _) _
        have hbB : Below w.heap.size w (wr.alloc (.cells #[.int .i64 a, .string key, .int .i64 n] 37)) := hb.trans (hbW.mono hBs)
        by_cases hkey : 1000 < key.size
        · have hd : decide ((1000 : Int) < (key.size : Int)) = true := decide_eq_true (by omega)
          have AW := Lib.hid (awake_low hbB (by simp; omega))
          clear hi hr hbW hbB
          go_wp2_with (go_at_call 7; ((with_reducible refine (AW.out).mono ?_); rintro e w' ⟨rfl, hbb⟩))
          go_ret
          exact ⟨rfl, hbb⟩
        · have hd : decide ((1000 : Int) < (key.size : Int)) = false := decide_eq_false (by omega)
          have hxW : (wr.alloc (.cells #[.int .i64 a, .string key, .int .i64 n] 37)).heap[wr.heap.size]? = some (.cells #[.int .i64 a, .string key, .int .i64 n] 37 (0, 0)) := heap_alloc_new wr _
          have hiW := hi.below hbW
          have hrW := hr.below hbW
          -- CASES
          by_cases q0 : a = 0
          · have hlen : (put most L key n).1.length ≤ most := put_len hL h1
            subst q0
            have e0 : ((0 : Int) == 0) = true := rfl
            have P1 := Lib.hid (I.put_any hiW hks2 (by omega) h1 h2 hL n)
            have H1 := Lib.hid hiW
            have H2 := Lib.hid hrW
            have H3 := Lib.hid hbB
            have H4 := Lib.hid hxW
            clear hiW hrW hbB hxW hi hr hb
            go_wp2_with (fail)
            refine (P1.out).mono ?_
            intro e w3 h3
            obtain ⟨i3, r3, b3, x3⟩ := step1 H1.out H2.out H3.out H4.out h3
            obtain rfl := says_val h3
            have c30 : w3.cell? ⟨wr.heap.size, 0, none⟩ = some (.int .i64 0) := (cell_at x3 0).trans rfl
            have c31 : w3.cell? ⟨wr.heap.size, 1, none⟩ = some (.string key) := (cell_at x3 1).trans rfl
            have c32 : w3.cell? ⟨wr.heap.size, 2, none⟩ = some (.int .i64 n) := (cell_at x3 2).trans rfl
            have P2 := Lib.hid (rput_any (k := key) r3 hL h2 n)
            have H13 := Lib.hid i3
            have H33 := Lib.hid b3
            have H43 := Lib.hid x3
            clear h3 i3 r3 b3 x3
            go_wp2_with (fail)
            refine (P2.out).mono ?_
            intro e w4 h4
            obtain ⟨i4, r4, b4, x4⟩ := step2 H13.out H33.out H43.out h4
            obtain rfl := rsays_val h4
            clear h4
            have HI := Lib.hid i4
            have HRR := Lib.hid r4
            have HB4 := Lib.hid b4
            have K5 := Lib.hid (I.keys_any i4 (by omega))
            clear i4 r4 b4 x4
            go_wp2_with (fail)
            refine (K5.out).mono ?_
            rintro e w5 ⟨v5, rfl, ho5, b5⟩
            have K6 := Lib.hid (rkeys_any (HRR.out.below b5) (by omega))
            obtain ⟨A5, cap5, rfl⟩ := own_slice ho5
            have HO5 := Lib.hid ho5
            clear ho5
            go_wp2_with (fail)
            refine (K6.out).mono ?_
            rintro e w6 ⟨v6, rfl, ho6, b6⟩
            obtain ⟨A6, cap6, rfl⟩ := own_slice ho6
            have hm : (put most L key n).1.map (fun x => Value.string x.k) = ((put most L key n).1.map (·.k)).map Value.string := by rw [List.map_map]; rfl
            have o5 := HO5.out
            rw [hm] at o5 ho6
            have s5 := (Strs.of_own o5).2.1
            have a5 := (Strs.of_own o5).2.2
            have s6 := (Strs.of_own ho6).2.1
            have TX := texts_yes A5 A6 cap5 cap6 ((put most L key n).1.map (·.k)) w6 (by simp; omega) (s5.keep b6 a5) s6
            rw [List.length_map] at TX
            have TXH := Lib.hid TX
            have b56 : Below w.heap.size w w6 := (HB4.out.trans (b5.mono HB4.out.size)).trans (b6.mono ((HB4.out.trans (b5.mono HB4.out.size)).size))
            have HI6 := Lib.hid ((HI.out.below b5).below b6)
            have HR6 := Lib.hid ((HRR.out.below b5).below b6)
            have B56 := Lib.hid b56
            clear TX o5 ho6 s5 s6 a5 hm b56 b5 b6
            go_wp2_with (fail)
            refine (TXH.out).mono ?_
            rintro e w7 ⟨rfl, q, rfl⟩
            go_wp2_with (fail)
            go_roundw
            case rel => exact ⟨k + 1, (put most L key n).1, by go_num, by omega, by omega, is_drewN HI6.out q, HR6.out, below_drewN B56.out q, hlen⟩
            case measure => simp [intOf]; omega
          · have e0 : (a == (0 : Int)) = false := beq_eq_false_iff_ne.2 q0
            by_cases q1 : a = 1
            · have hlen : (Ca.get L key).1.length ≤ most := by rw [get_len]; exact hL
              subst q1
              have e0 : ((1 : Int) == 0) = false := rfl
              have e1 : ((1 : Int) == 1) = true := rfl
              obtain ⟨vo, evo⟩ : ∃ vo, vo = (Ca.get L key).2 := ⟨_, rfl⟩
              have P1 := Lib.hid (I.get_any hiW hks2 (by omega))
              rw [← evo] at P1
              have H1 := Lib.hid hiW
              have H2 := Lib.hid hrW
              have H3 := Lib.hid hbB
              have H4 := Lib.hid hxW
              clear hiW hrW hbB hxW hi hr hb
              go_wp2_with (fail)
              cases vo
              all_goals
                dsimp only [I.got] at P1
                refine (P1.out).mono ?_
                intro e w3 h3
                obtain ⟨i3, r3, b3, x3⟩ := step1 H1.out H2.out H3.out H4.out h3
                obtain rfl := says_val h3
                have c30 : w3.cell? ⟨wr.heap.size, 0, none⟩ = some (.int .i64 1) := (cell_at x3 0).trans rfl
                have c31 : w3.cell? ⟨wr.heap.size, 1, none⟩ = some (.string key) := (cell_at x3 1).trans rfl
                have c32 : w3.cell? ⟨wr.heap.size, 2, none⟩ = some (.int .i64 n) := (cell_at x3 2).trans rfl
                have P2 := Lib.hid (rget_any (k := key) r3 (by omega))
                rw [← evo] at P2
                have EVO := Lib.hid evo
                clear evo
                have H13 := Lib.hid i3
                have H33 := Lib.hid b3
                have H43 := Lib.hid x3
                clear h3 i3 r3 b3 x3
                dsimp only [I.got] at P2
                go_wp2_with (fail)
                refine (P2.out).mono ?_
                intro e w4 h4
                obtain ⟨i4, r4, b4, x4⟩ := step2 H13.out H33.out H43.out h4
                obtain rfl := rsays_val h4
                clear h4
                have HI := Lib.hid i4
                have HRR := Lib.hid r4
                have HB4 := Lib.hid b4
                have K5 := Lib.hid (I.keys_any i4 (by omega))
                clear i4 r4 b4 x4
                go_wp2_with (fail)
                refine (K5.out).mono ?_
                rintro e w5 ⟨v5, rfl, ho5, b5⟩
                have K6 := Lib.hid (rkeys_any (HRR.out.below b5) (by omega))
                obtain ⟨A5, cap5, rfl⟩ := own_slice ho5
                have HO5 := Lib.hid ho5
                clear ho5
                go_wp2_with (fail)
                refine (K6.out).mono ?_
                rintro e w6 ⟨v6, rfl, ho6, b6⟩
                obtain ⟨A6, cap6, rfl⟩ := own_slice ho6
                have hm : (Ca.get L key).1.map (fun x => Value.string x.k) = ((Ca.get L key).1.map (·.k)).map Value.string := by rw [List.map_map]; rfl
                have o5 := HO5.out
                rw [hm] at o5 ho6
                have s5 := (Strs.of_own o5).2.1
                have a5 := (Strs.of_own o5).2.2
                have s6 := (Strs.of_own ho6).2.1
                have TX := texts_yes A5 A6 cap5 cap6 ((Ca.get L key).1.map (·.k)) w6 (by simp; omega) (s5.keep b6 a5) s6
                rw [List.length_map] at TX
                have TXH := Lib.hid TX
                have b56 : Below w.heap.size w w6 := (HB4.out.trans (b5.mono HB4.out.size)).trans (b6.mono ((HB4.out.trans (b5.mono HB4.out.size)).size))
                have HI6 := Lib.hid ((HI.out.below b5).below b6)
                have HR6 := Lib.hid ((HRR.out.below b5).below b6)
                have B56 := Lib.hid b56
                clear TX o5 ho6 s5 s6 a5 hm b56 b5 b6
                go_wp2_with (fail)
                refine (TXH.out).mono ?_
                rintro e w7 ⟨rfl, q, rfl⟩
                go_wp2_with (fail)
                go_roundw
                case rel => exact ⟨k + 1, (Ca.get L key).1, by go_num, by omega, by omega, is_drewN HI6.out q, HR6.out, below_drewN B56.out q, hlen⟩
                case measure => simp [intOf]; omega
            · have e1 : (a == (1 : Int)) = false := beq_eq_false_iff_ne.2 q1
              by_cases q2 : a = 2
              · have hlen : (pin L key).1.length ≤ most := by rw [pin_len]; exact hL
                subst q2
                have e0 : ((2 : Int) == 0) = false := rfl
                have e1 : ((2 : Int) == 1) = false := rfl
                have e2 : ((2 : Int) == 2) = true := rfl
                have P1 := Lib.hid (I.pin_any hiW hks2 (by omega))
                have H1 := Lib.hid hiW
                have H2 := Lib.hid hrW
                have H3 := Lib.hid hbB
                have H4 := Lib.hid hxW
                clear hiW hrW hbB hxW hi hr hb
                go_wp2_with (fail)
                refine (P1.out).mono ?_
                intro e w3 h3
                obtain ⟨i3, r3, b3, x3⟩ := step1 H1.out H2.out H3.out H4.out h3
                obtain rfl := says_val h3
                have c30 : w3.cell? ⟨wr.heap.size, 0, none⟩ = some (.int .i64 2) := (cell_at x3 0).trans rfl
                have c31 : w3.cell? ⟨wr.heap.size, 1, none⟩ = some (.string key) := (cell_at x3 1).trans rfl
                have c32 : w3.cell? ⟨wr.heap.size, 2, none⟩ = some (.int .i64 n) := (cell_at x3 2).trans rfl
                have P2 := Lib.hid (rpin_any (k := key) r3 (by omega) (fun y hy => by have := is_pins H1.out y hy; omega))
                have H13 := Lib.hid i3
                have H33 := Lib.hid b3
                have H43 := Lib.hid x3
                clear h3 i3 r3 b3 x3
                go_wp2_with (fail)
                refine (P2.out).mono ?_
                intro e w4 h4
                obtain ⟨i4, r4, b4, x4⟩ := step2 H13.out H33.out H43.out h4
                obtain rfl := rsays_val h4
                clear h4
                have HI := Lib.hid i4
                have HRR := Lib.hid r4
                have HB4 := Lib.hid b4
                have K5 := Lib.hid (I.keys_any i4 (by omega))
                clear i4 r4 b4 x4
                go_wp2_with (fail)
                refine (K5.out).mono ?_
                rintro e w5 ⟨v5, rfl, ho5, b5⟩
                have K6 := Lib.hid (rkeys_any (HRR.out.below b5) (by omega))
                obtain ⟨A5, cap5, rfl⟩ := own_slice ho5
                have HO5 := Lib.hid ho5
                clear ho5
                go_wp2_with (fail)
                refine (K6.out).mono ?_
                rintro e w6 ⟨v6, rfl, ho6, b6⟩
                obtain ⟨A6, cap6, rfl⟩ := own_slice ho6
                have hm : (pin L key).1.map (fun x => Value.string x.k) = ((pin L key).1.map (·.k)).map Value.string := by rw [List.map_map]; rfl
                have o5 := HO5.out
                rw [hm] at o5 ho6
                have s5 := (Strs.of_own o5).2.1
                have a5 := (Strs.of_own o5).2.2
                have s6 := (Strs.of_own ho6).2.1
                have TX := texts_yes A5 A6 cap5 cap6 ((pin L key).1.map (·.k)) w6 (by simp; omega) (s5.keep b6 a5) s6
                rw [List.length_map] at TX
                have TXH := Lib.hid TX
                have b56 : Below w.heap.size w w6 := (HB4.out.trans (b5.mono HB4.out.size)).trans (b6.mono ((HB4.out.trans (b5.mono HB4.out.size)).size))
                have HI6 := Lib.hid ((HI.out.below b5).below b6)
                have HR6 := Lib.hid ((HRR.out.below b5).below b6)
                have B56 := Lib.hid b56
                clear TX o5 ho6 s5 s6 a5 hm b56 b5 b6
                go_wp2_with (fail)
                refine (TXH.out).mono ?_
                rintro e w7 ⟨rfl, q, rfl⟩
                go_wp2_with (fail)
                go_roundw
                case rel => exact ⟨k + 1, (pin L key).1, by go_num, by omega, by omega, is_drewN HI6.out q, HR6.out, below_drewN B56.out q, hlen⟩
                case measure => simp [intOf]; omega
              · have e2 : (a == (2 : Int)) = false := beq_eq_false_iff_ne.2 q2
                by_cases q3 : a = 3
                · have hlen : (unpin L key).1.length ≤ most := by rw [unpin_len]; exact hL
                  subst q3
                  have e0 : ((3 : Int) == 0) = false := rfl
                  have e1 : ((3 : Int) == 1) = false := rfl
                  have e2 : ((3 : Int) == 2) = false := rfl
                  have e3 : ((3 : Int) == 3) = true := rfl
                  have P1 := Lib.hid (I.unpin_any hiW hks2 (by omega))
                  have H1 := Lib.hid hiW
                  have H2 := Lib.hid hrW
                  have H3 := Lib.hid hbB
                  have H4 := Lib.hid hxW
                  clear hiW hrW hbB hxW hi hr hb
                  go_wp2_with (fail)
                  refine (P1.out).mono ?_
                  intro e w3 h3
                  obtain ⟨i3, r3, b3, x3⟩ := step1 H1.out H2.out H3.out H4.out h3
                  obtain rfl := says_val h3
                  have c30 : w3.cell? ⟨wr.heap.size, 0, none⟩ = some (.int .i64 3) := (cell_at x3 0).trans rfl
                  have c31 : w3.cell? ⟨wr.heap.size, 1, none⟩ = some (.string key) := (cell_at x3 1).trans rfl
                  have c32 : w3.cell? ⟨wr.heap.size, 2, none⟩ = some (.int .i64 n) := (cell_at x3 2).trans rfl
                  have P2 := Lib.hid (runpin_any (k := key) r3 (by omega) (fun y hy => by have := is_pins H1.out y hy; omega))
                  have H13 := Lib.hid i3
                  have H33 := Lib.hid b3
                  have H43 := Lib.hid x3
                  clear h3 i3 r3 b3 x3
                  go_wp2_with (fail)
                  refine (P2.out).mono ?_
                  intro e w4 h4
                  obtain ⟨i4, r4, b4, x4⟩ := step2 H13.out H33.out H43.out h4
                  obtain rfl := rsays_val h4
                  clear h4
                  have HI := Lib.hid i4
                  have HRR := Lib.hid r4
                  have HB4 := Lib.hid b4
                  have K5 := Lib.hid (I.keys_any i4 (by omega))
                  clear i4 r4 b4 x4
                  go_wp2_with (fail)
                  refine (K5.out).mono ?_
                  rintro e w5 ⟨v5, rfl, ho5, b5⟩
                  have K6 := Lib.hid (rkeys_any (HRR.out.below b5) (by omega))
                  obtain ⟨A5, cap5, rfl⟩ := own_slice ho5
                  have HO5 := Lib.hid ho5
                  clear ho5
                  go_wp2_with (fail)
                  refine (K6.out).mono ?_
                  rintro e w6 ⟨v6, rfl, ho6, b6⟩
                  obtain ⟨A6, cap6, rfl⟩ := own_slice ho6
                  have hm : (unpin L key).1.map (fun x => Value.string x.k) = ((unpin L key).1.map (·.k)).map Value.string := by rw [List.map_map]; rfl
                  have o5 := HO5.out
                  rw [hm] at o5 ho6
                  have s5 := (Strs.of_own o5).2.1
                  have a5 := (Strs.of_own o5).2.2
                  have s6 := (Strs.of_own ho6).2.1
                  have TX := texts_yes A5 A6 cap5 cap6 ((unpin L key).1.map (·.k)) w6 (by simp; omega) (s5.keep b6 a5) s6
                  rw [List.length_map] at TX
                  have TXH := Lib.hid TX
                  have b56 : Below w.heap.size w w6 := (HB4.out.trans (b5.mono HB4.out.size)).trans (b6.mono ((HB4.out.trans (b5.mono HB4.out.size)).size))
                  have HI6 := Lib.hid ((HI.out.below b5).below b6)
                  have HR6 := Lib.hid ((HRR.out.below b5).below b6)
                  have B56 := Lib.hid b56
                  clear TX o5 ho6 s5 s6 a5 hm b56 b5 b6
                  go_wp2_with (fail)
                  refine (TXH.out).mono ?_
                  rintro e w7 ⟨rfl, q, rfl⟩
                  go_wp2_with (fail)
                  go_roundw
                  case rel => exact ⟨k + 1, (unpin L key).1, by go_num, by omega, by omega, is_drewN HI6.out q, HR6.out, below_drewN B56.out q, hlen⟩
                  case measure => simp [intOf]; omega
                · have e3 : (a == (3 : Int)) = false := beq_eq_false_iff_ne.2 q3
                  have hlen : (drop L key).1.length ≤ most := Nat.le_trans drop_len hL
                  have P1 := Lib.hid (I.drop_any hiW hks2 (by omega))
                  have H1 := Lib.hid hiW
                  have H2 := Lib.hid hrW
                  have H3 := Lib.hid hbB
                  have H4 := Lib.hid hxW
                  clear hiW hrW hbB hxW hi hr hb
                  go_wp2_with (fail)
                  refine (P1.out).mono ?_
                  intro e w3 h3
                  obtain ⟨i3, r3, b3, x3⟩ := step1 H1.out H2.out H3.out H4.out h3
                  obtain rfl := says_val h3
                  have c30 : w3.cell? ⟨wr.heap.size, 0, none⟩ = some (.int .i64 a) := (cell_at x3 0).trans rfl
                  have c31 : w3.cell? ⟨wr.heap.size, 1, none⟩ = some (.string key) := (cell_at x3 1).trans rfl
                  have c32 : w3.cell? ⟨wr.heap.size, 2, none⟩ = some (.int .i64 n) := (cell_at x3 2).trans rfl
                  have P2 := Lib.hid (rdrop_any (k := key) r3 (by omega) (fun y hy => by have := is_pins H1.out y hy; omega))
                  have H13 := Lib.hid i3
                  have H33 := Lib.hid b3
                  have H43 := Lib.hid x3
                  clear h3 i3 r3 b3 x3
                  go_wp2_with (fail)
                  refine (P2.out).mono ?_
                  intro e w4 h4
                  obtain ⟨i4, r4, b4, x4⟩ := step2 H13.out H33.out H43.out h4
                  obtain rfl := rsays_val h4
                  clear h4
                  have HI := Lib.hid i4
                  have HRR := Lib.hid r4
                  have HB4 := Lib.hid b4
                  have K5 := Lib.hid (I.keys_any i4 (by omega))
                  clear i4 r4 b4 x4
                  go_wp2_with (fail)
                  refine (K5.out).mono ?_
                  rintro e w5 ⟨v5, rfl, ho5, b5⟩
                  have K6 := Lib.hid (rkeys_any (HRR.out.below b5) (by omega))
                  obtain ⟨A5, cap5, rfl⟩ := own_slice ho5
                  have HO5 := Lib.hid ho5
                  clear ho5
                  go_wp2_with (fail)
                  refine (K6.out).mono ?_
                  rintro e w6 ⟨v6, rfl, ho6, b6⟩
                  obtain ⟨A6, cap6, rfl⟩ := own_slice ho6
                  have hm : (drop L key).1.map (fun x => Value.string x.k) = ((drop L key).1.map (·.k)).map Value.string := by rw [List.map_map]; rfl
                  have o5 := HO5.out
                  rw [hm] at o5 ho6
                  have s5 := (Strs.of_own o5).2.1
                  have a5 := (Strs.of_own o5).2.2
                  have s6 := (Strs.of_own ho6).2.1
                  have TX := texts_yes A5 A6 cap5 cap6 ((drop L key).1.map (·.k)) w6 (by simp; omega) (s5.keep b6 a5) s6
                  rw [List.length_map] at TX
                  have TXH := Lib.hid TX
                  have b56 : Below w.heap.size w w6 := (HB4.out.trans (b5.mono HB4.out.size)).trans (b6.mono ((HB4.out.trans (b5.mono HB4.out.size)).size))
                  have HI6 := Lib.hid ((HI.out.below b5).below b6)
                  have HR6 := Lib.hid ((HRR.out.below b5).below b6)
                  have B56 := Lib.hid b56
                  clear TX o5 ho6 s5 s6 a5 hm b56 b5 b6
                  go_wp2_with (fail)
                  refine (TXH.out).mono ?_
                  rintro e w7 ⟨rfl, q, rfl⟩
                  go_wp2_with (fail)
                  go_roundw
                  case rel => exact ⟨k + 1, (drop L key).1, by go_num, by omega, by omega, is_drewN HI6.out q, HR6.out, below_drewN B56.out q, hlen⟩
                  case measure => simp [intOf]; omega
          -- END
      · have hk200 : ¬ (k : Int) < 200 := by omega
        have hkI : (k : Int) < (l.length : Int) := by omega
        have AW := Lib.hid (awake_low hb hBs)
        clear hi hr
        go_wp2_with (go_at_call 7; ((with_reducible refine (AW.out).mono ?_); rintro e w' ⟨rfl, hbb⟩))
        go_ret
        exact ⟨rfl, hbb⟩
    · obtain rfl : k = l.length := by omega
      have AW := Lib.hid (awake_low hb hBs)
      clear hi hr
      go_wp2_with (go_at_call 7; ((with_reducible refine (AW.out).mono ?_); rintro e w' ⟨rfl, hbb⟩))
      go_ret
      exact ⟨rfl, hbb⟩
end Go.Proofs.Ytcifjhhofefpjaa.Cr
