/- The contracts of the reference's Reader: End and List; and of the reference's list. -/
import Derived.Test.YtknmjbfhagldbaaDoorRrText
import Derived.Test.YtknmjbfhagldbaaDoorPkRfs
namespace Go.Proofs.YtknmjbfhagldbaaDoor
open Go.RowKit
set_option linter.unusedVariables false
set_option maxRecDepth 100000
theorem rrend_any (b : Nat) (r : Pk.Rd) (w : World) (h : RqAt w b r) :
    Calls Tryd.prog 37 #[.pointer (some ⟨b, 0, none⟩)] w fun e w' => e = .returned (.int .i64 r.fin) ∧ w = w' := by
  obtain ⟨l, bad⟩ := r
  have c0 : w.cell? ⟨b, 0, none⟩ = some (.string (bs l)) := (cell_heap h 0).trans rfl
  have c1 : w.cell? ⟨b, 1, none⟩ = some (.int .i64 bad) := (cell_heap h 1).trans rfl
  clear h
  by_cases hb : bad = 0
  · subst hb
    by_cases hl : l = []
    · subst hl
      rw [bs_nil] at c0
      have HV : Hid (Pk.Rd.fin ⟨[], 0⟩ = 0) := Lib.hid (by simp [Pk.Rd.fin])
      go_enter Tryd.func37, Tryd.ntmps37
      go_wp2_with (fail)
      go_ret
      exact ⟨ret_val (by rw [HV.out]; rfl), rfl⟩
    · have HV : Hid (Pk.Rd.fin ⟨l, 0⟩ = 12) := Lib.hid (by simp [Pk.Rd.fin, hl])
      have e1 := bs_ne hl
      clear hl
      go_enter Tryd.func37, Tryd.ntmps37
      go_wp2_with (fail)
      go_ret
      exact ⟨ret_val (by rw [HV.out]; rfl), rfl⟩
  · have HV : Hid (Pk.Rd.fin ⟨l, bad⟩ = bad) := Lib.hid (by simp [Pk.Rd.fin, hb])
    have n1 : ((bad : Int) == 0) = false := by simp; omega
    clear hb
    go_enter Tryd.func37, Tryd.ntmps37
    go_wp2_with (fail)
    go_ret
    exact ⟨ret_val (by rw [HV.out]; rfl), rfl⟩
theorem RqAt.later {w w' : World} {b : Nat} {r : Pk.Rd} (h : RqAt w b r) (k : Below w.heap.size w w') : RqAt w' b r := heap_below k (lt_heap h) h
theorem RqAt.grown {w w' : World} {b : Nat} {r : Pk.Rd} (h : RqAt w b r) {g : Nat} (k : w.grownBy w' (some g)) (hne : b ≠ g) : RqAt w' b r := (k.block b (lt_heap h) (fun e => hne (Option.some.inj e))).trans h
theorem own_grown2 {wx w' : World} {B : Nat} {e : TypeId} {size : Nat} {v : Value} {n : Nat} {xs : List Value} {g : Nat} (hown : wx.ownsRow B e size v n xs) (hg : wx.grownBy w' (some g)) (hgB : g < B) : w'.ownsRow B e size v n xs := by
  refine ⟨hown.1, ?_⟩
  rcases hown.2 with h0 | ⟨g', cap, cur, hv, hgg, hcc, h1, h2, h3, h4⟩
  · exact .inl h0
  · exact .inr ⟨g', cap, cur, hv, hgg, (hg.block g' (lt_heap hcc) (fun e => by have := Option.some.inj e; omega)).trans hcc, h1, h2, h3, h4⟩
/-- how much a reader in memory has to do still -/
def mRd (w : World) (X : Nat) : Nat := match w.cell? ⟨X, 0, none⟩, w.cell? ⟨X, 1, none⟩ with
  | some (.string s), some (.int _ n) => 2 * s.size + (if n = 0 then 1 else 0)
  | _, _ => 0
theorem mRd_at {w : World} {X : Nat} {r : Pk.Rd} (h : RqAt w X r) : mRd w X = 2 * r.rest.length + (if r.bad = 0 then 1 else 0) := by
  have c0 : w.cell? ⟨X, 0, none⟩ = some (.string (bs r.rest)) := (cell_heap h 0).trans rfl
  have c1 : w.cell? ⟨X, 1, none⟩ = some (.int .i64 r.bad) := (cell_heap h 1).trans rfl
  unfold mRd
  rw [c0, c1]
  simp only [bs_size]
  congr 1
  by_cases hb : r.bad = 0
  · rw [if_pos hb, if_pos (by omega)]
  · rw [if_neg hb, if_neg (by omega)]
theorem text_none {r : Pk.Rd} (h : r.text.2.bad ≠ 0) : r.text.1 = [] := by
  unfold Pk.Rd.text at h ⊢
  split
  · rfl
  · rename_i hb
    rw [if_neg hb] at h
    cases hn : Pk.nxt r.rest with
    | bad c => rfl
    | ok t q => rw [hn] at h; exact absurd rfl h
/-- what the reference's Reader.List answers -/
def ListSaysR (b : Nat) (r : Pk.Rd) (w : World) (e : Ending) (w' : World) : Prop :=
  ∃ v, e = .returned v ∧ w'.ownsRow w.heap.size 9 1 v r.list.1.length (r.list.1.map fun t => Value.string (bs t)) ∧ RqAt w' b r.list.2 ∧ w.grownBy w' (some b)
set_option maxHeartbeats 4000000 in
theorem rrlist_any (b : Nat) (r : Pk.Rd) (hs : r.rest.length ≤ 1000000000) (w : World) (h : RqAt w b r) :
    Calls Tryd.prog 42 #[.pointer (some ⟨b, 0, none⟩)] w (ListSaysR b r w) := by
  have RT := rrtext_any b r hs w h
  have hl0 : r.text.1.length ≤ 1000000000 := Nat.le_trans (rtext_lt r) hs
  have TN := Lib.hid (@text_none r)
  have RLS : Hid (∀ l, Pk.lst r.text.1 = some l → r.list = (l, r.text.2)) := Lib.hid (fun l h => by unfold Pk.Rd.list; rw [h])
  have RLN : Hid (Pk.lst r.text.1 = none → r.list = ([], ⟨r.text.2.rest, 11⟩)) := Lib.hid (fun h => by unfold Pk.Rd.list; rw [h])
  have hbw : b < w.heap.size := lt_heap h
  clear h
  generalize r.text.1 = s0 at *
  generalize r.text.2 = r1 at *
  have RTH := Lib.hid RT
  clear RT
  go_enter Tryd.func42, Tryd.ntmps42
  go_wp2_with (go_at_call 36; ((with_reducible refine (RTH.out).mono ?_); rintro e w1 ⟨rfl, hrd, hg1⟩))
  have hz1 := hg1.size
  have hstart : RqAt (w1.alloc (.cells #[.string (bs s0), .int .i64 0] 62)) w1.heap.size ⟨s0, 0⟩ := heap_alloc_new w1 _
  have hrst : RqAt (w1.alloc (.cells #[.string (bs s0), .int .i64 0] 62)) b r1 := hrd.later ((Below.refl _ _).alloc (Nat.le_refl _) _)
  have hbst : Below w1.heap.size w1 (w1.alloc (.cells #[.string (bs s0), .int .i64 0] 62)) := (Below.refl _ _).alloc (Nat.le_refl _) _
  go_loopw [5] (fun v wx => ∃ cur xb pre, RqAt wx w1.heap.size ⟨cur, xb⟩ ∧ cur.length ≤ 1000000000 ∧ (xb = 0 → Pk.lst s0 = (Pk.lst cur).map (pre ++ ·)) ∧ (xb ≠ 0 → Pk.lst s0 = none ∧ r1.bad = 0) ∧ (r1.bad ≠ 0 → cur = []) ∧ wx.ownsRow (w1.heap.size + 1) 9 1 v pre.length (pre.map fun t => Value.string (bs t)) ∧ (xb = 0 → pre.length + cur.length ≤ 1000000000) ∧ RqAt wx b r1 ∧ Below w1.heap.size w1 wx ∧ w1.heap.size < wx.heap.size) (fun _ wx => mRd wx w1.heap.size)
  case atStart => exact ⟨s0, 0, [], hstart, hl0, fun _ => by simp, fun h => absurd rfl h, TN.out, by simpa using World.ownsRow_nil _ _ _ _, fun _ => by simp; omega, hrst, hbst, by simp⟩
  case round =>
    obtain ⟨cur, xb, pre, hx, hcl, hl1, hl2, hcb, hown, hpc, hrx, hbx, hlx⟩ := hrel
    rename World => wx
    clear hstart hrst hbst
    have x0 : wx.cell? ⟨w1.heap.size, 0, none⟩ = some (.string (bs cur)) := (cell_heap hx 0).trans rfl
    have x1 : wx.cell? ⟨w1.heap.size, 1, none⟩ = some (.int .i64 xb) := (cell_heap hx 1).trans rfl
    have b1 : wx.cell? ⟨b, 1, none⟩ = some (.int .i64 r1.bad) := (cell_heap hrx 1).trans rfl
    have g1 : wx.frozen? ⟨b, 1, none⟩ = false := frozen_heap hrx 1
    have hgw : w.grownBy wx (some b) := grown_below hg1 (hbx.mono hz1)
    have HX := Lib.hid hx
    have HRX := Lib.hid hrx
    by_cases hxb : xb = 0
    · subst hxb
      have hl1' := hl1 rfl
      have hpc := hpc rfl
      by_cases hc : cur = []
      · subst hc
        rw [lst_nil] at hl1'
        have RL := Lib.hid (RLS.out pre (by rw [hl1']; simp))
        rw [bs_nil] at x0
        by_cases hr1 : r1.bad = 0
        · have n1 : ((r1.bad : Int) != 0) = false := by simp; omega
          have n2 : ((r1.bad : Int) == 0) = true := by simp; omega
          have hownF := own_base hown (show w.heap.size ≤ w1.heap.size + 1 by omega)
          obtain ⟨p, m, c', rfl⟩ := own_form hown
          clear hl1 hl2 hcb hl1' hr1 hx hrx
          go_wp2_with (fail)
          go_ret
          exact ⟨_, rfl, by rw [RL.out]; exact hownF, by rw [RL.out]; exact HRX.out, hgw⟩
        · have n1 : ((r1.bad : Int) != 0) = true := by simp; omega
          have n2 : ((r1.bad : Int) == 0) = false := by simp; omega
          have hs0 := TN.out hr1
          have hp0 : pre = [] := by
            rw [hs0, lst_nil] at hl1'
            simpa using hl1'
          have RL2 : Hid (r.list = ([], r1)) := Lib.hid (by rw [RL.out, hp0])
          clear hl1 hl2 hcb hl1' hr1 hs0 hp0 hx hrx
          go_wp2_with (fail)
          go_ret
          exact ⟨_, rfl, by rw [RL2.out]; simpa using World.ownsRow_nil _ _ _ _, by rw [RL2.out]; exact HRX.out, hgw⟩
      · have hr1 : r1.bad = 0 := Classical.byContradiction (fun e => hc (hcb e))
        have n2 : ((r1.bad : Int) == 0) = true := by simp; omega
        have e1 := bs_ne hc
        have RX := Lib.hid (rrtext_any w1.heap.size ⟨cur, 0⟩ hcl wx hx)
        have hB1 : w1.heap.size + 1 ≤ wx.heap.size := hlx
        have hM := Lib.hid (mRd_at hx)
        have hk9 : pre.length + 1 ≤ 1000000000 + 3 := by omega
        obtain ⟨t, q, xq, hTq, hlen, hL1, hL2⟩ : ∃ t q xq, Pk.Rd.text ⟨cur, 0⟩ = (t, ⟨q, xq⟩) ∧ (xq = 0 ∧ q.length < cur.length ∨ xq ≠ 0 ∧ q = cur) ∧ (xq = 0 → Pk.lst s0 = (Pk.lst q).map ((pre ++ [t]) ++ ·)) ∧ (xq ≠ 0 → Pk.lst s0 = none) := by
          rcases hn : Pk.nxt cur with c | ⟨t, q⟩
          · have hcc := nxt_bad hn
            refine ⟨[], cur, c, text_of_bad hn, .inr ⟨by omega, rfl⟩, fun h => by omega, fun _ => by rw [hl1', lst_bad hc hn]; rfl⟩
          · refine ⟨t, q, 0, text_of_ok hn, .inl ⟨rfl, Pk.nxt_lt hn⟩, fun _ => by rw [hl1', lst_ok hc hn]; cases Pk.lst q <;> simp, fun h => absurd rfl h⟩
        have RXX : Hid (Calls Tryd.prog 36 #[.pointer (some ⟨w1.heap.size, 0, none⟩)] wx fun e w' => e = .returned (.string (bs t)) ∧ RqAt w' w1.heap.size ⟨q, xq⟩ ∧ wx.grownBy w' (some w1.heap.size)) := Lib.hid (by have := RX.out; rw [hTq] at this; exact this)
        have PM : Hid ((pre ++ [t]).map (fun t => Value.string (bs t)) = pre.map (fun t => Value.string (bs t)) ++ [.string (bs t)]) := Lib.hid (by simp)
        have HQ := Lib.hid hlen
        have HL1 := Lib.hid hL1
        have HL2 := Lib.hid hL2
        have HR1 := Lib.hid hr1
        have hbx0 : b < w1.heap.size := by omega
        have hc1 : 0 < cur.length := List.length_pos_iff.2 hc
        have hpc2 : pre.length + 1 ≤ 1000000000 := by omega
        clear hl1 hl2 hcb hl1' hc hr1 hx hrx RX hTq hlen hL1 hL2
        go_wp2_with (first | (go_at_call 36; ((with_reducible refine (RXX.out).mono ?_); rintro e w2 ⟨rfl, hq2, hg2⟩; have hown2 := own_grown2 hown hg2 (Nat.lt_succ_self _); have hB2 := Nat.le_trans hB1 hg2.size; clear hown)) | (at_builtin; refine append_one (w0 := w2) rfl (.tmp 30) (.tmp 33) 44 rfl (w1.heap.size + 1) 9 _ 16 Tryd.underlying44 str_info rfl (by decide) _ pre.length _ rfl hown2 (.string (bs t)) rfl rfl hpc2 hB2 (Below.refl _ _) ?_; intro v' w3 hown3 hb3 _))
        have hq3 : RqAt w3 w1.heap.size ⟨q, xq⟩ := heap_below hb3 (Nat.lt_succ_self _) hq2
        go_roundw
        case rel =>
          refine ⟨q, xq, pre ++ [t], hq3, ?_, HL1.out, fun h => ⟨HL2.out h, HR1.out⟩, fun h => absurd HR1.out h, ?_, ?_, heap_below hb3 (by omega) (HRX.out.grown hg2 (by omega)), ?_, ?_⟩
          · rcases HQ.out with ⟨_, h2⟩ | ⟨_, h2⟩
            · omega
            · rw [h2]; exact hcl
          · rw [PM.out, List.length_append]; exact hown3
          · intro h0
            rw [List.length_append]
            rcases HQ.out with ⟨_, h2⟩ | ⟨h1, _⟩
            · simp; omega
            · exact absurd h0 h1
          · exact (hbx.grown hg2 hbx.size (fun g hg => by cases hg; exact Nat.le_refl _)).trans (hb3.mono (Nat.le_succ _))
          · exact Nat.lt_of_lt_of_le hB2 hb3.size
        case measure =>
          rw [mRd_at hq3, hM.out]
          rcases HQ.out with ⟨h1, h2⟩ | ⟨h1, h2⟩
          · simp only [h1]; omega
          · simp only [h2, if_neg h1]; simp
    · obtain ⟨hN, hr1⟩ := hl2 hxb
      have n0 : ((xb : Int) == 0) = false := by simp; omega
      have n1 : ((xb : Int) != 0) = true := by simp; omega
      have RL := Lib.hid (RLN.out hN)
      have HC : cur = [] ∨ cur ≠ [] := Classical.em _
      clear hl1 hl2 hcb hxb hr1 hN hx hrx hown
      rcases HC with hc | hc
      · subst hc
        rw [bs_nil] at x0
        go_wp2_with (fail)
        go_ret
        refine ⟨_, rfl, by rw [RL.out]; simpa using World.ownsRow_nil _ _ _ _, ?_, grown_set hgw (.inr rfl) _ _⟩
        rw [RL.out]
        exact heap_set HRX.out
      · have e1 := bs_ne hc
        clear hc
        go_wp2_with (fail)
        go_ret
        refine ⟨_, rfl, by rw [RL.out]; simpa using World.ownsRow_nil _ _ _ _, ?_, grown_set hgw (.inr rfl) _ _⟩
        rw [RL.out]
        exact heap_set HRX.out
/-- the texts of a list that is all there is -/
def ListAll (l : List UInt8) : List (List UInt8) × Nat := if (Pk.Rd.list ⟨l, 0⟩).2.fin ≠ 0 then ([], (Pk.Rd.list ⟨l, 0⟩).2.fin) else ((Pk.Rd.list ⟨l, 0⟩).1, 0)
def ListAllSays (l : List UInt8) (w : World) (e : Ending) (w' : World) : Prop :=
  ∃ v, e = .returned (.tuple #[v, .int .i64 (ListAll l).2]) ∧ w'.ownsRow w.heap.size 9 1 v (ListAll l).1.length ((ListAll l).1.map fun t => Value.string (bs t)) ∧ Below w.heap.size w w'
set_option maxHeartbeats 2000000 in
theorem rlistall_any (l : List UInt8) (hl : l.length ≤ 500000000) (w : World) :
    Calls Tryd.prog 35 #[.string (bs l)] w (ListAllSays l w) := by
  have LA : Hid (ListAll l = if (Pk.Rd.list ⟨l, 0⟩).2.fin ≠ 0 then ([], (Pk.Rd.list ⟨l, 0⟩).2.fin) else ((Pk.Rd.list ⟨l, 0⟩).1, 0)) := Lib.hid rfl
  go_enter Tryd.func35, Tryd.ntmps35
  go_wp2_with (fail)
  have hr0 : RqAt (w.alloc (.cells #[.string (bs l), .int .i64 0] 62)) w.heap.size ⟨l, 0⟩ := heap_alloc_new w _
  have hb0 : Below w.heap.size w (w.alloc (.cells #[.string (bs l), .int .i64 0] 62)) := (Below.refl _ _).alloc (Nat.le_refl _) _
  refine (rrlist_any _ ⟨l, 0⟩ (by show l.length ≤ _; omega) _ hr0).mono ?_
  rintro e wl ⟨v, rfl, hown, hrl, hgl⟩
  generalize (Pk.Rd.list ⟨l, 0⟩).2 = r2 at *
  generalize (Pk.Rd.list ⟨l, 0⟩).1 = ts at *
  have hbl : Below w.heap.size w wl := hb0.grown hgl hb0.size (fun k hk => by cases hk; exact Nat.le_refl _)
  have hownF := own_base hown hb0.size
  obtain ⟨A, m, c, rfl⟩ := own_form hown
  have RE := Lib.hid (rrend_any _ _ _ hrl)
  clear hown hgl hrl hb0 hr0
  by_cases hf : r2.fin = 0
  · have n1 : ((r2.fin : Int) != 0) = false := by simp; omega
    have LA2 : Hid (ListAll l = (ts, 0)) := Lib.hid (by rw [LA.out, if_neg (by simpa using hf)])
    clear hf LA
    go_wp2_with (go_at_call 37; ((with_reducible refine (RE.out).mono ?_); rintro e w' ⟨rfl, rfl⟩))
    go_ret2
    exact ⟨_, ret_val (by rw [LA2.out]; rfl), by rw [LA2.out]; exact hownF, hbl⟩
  · have n1 : ((r2.fin : Int) != 0) = true := by simp; omega
    have LA2 : Hid (ListAll l = ([], r2.fin)) := Lib.hid (by rw [LA.out, if_pos hf])
    clear hf LA
    go_wp2_with (go_at_call 37; ((with_reducible refine (RE.out).mono ?_); rintro e w' ⟨rfl, rfl⟩))
    go_ret2
    exact ⟨_, ret_val (by rw [LA2.out]; rfl), by rw [LA2.out]; simpa using World.ownsRow_nil _ _ _ _, hbl⟩
end Go.Proofs.YtknmjbfhagldbaaDoor
