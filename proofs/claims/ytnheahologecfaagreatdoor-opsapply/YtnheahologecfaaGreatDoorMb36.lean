/- Joined by mkmerged.py: OpRSame. -/
import Derived.Test.YtnheahologecfaaGreatDoorMb31
import Derived.Test.YtnheahologecfaaGreatDoorMb25
import Derived.Test.YtnheahologecfaaGreatDoorMb28
import Derived.BigQuiet
/- OpRSame, what a claim needs of it (prune.py). -/
namespace Go.Proofs.YtnheahologecfaaGreatDoor.Ops
open Go.RowKit
set_option linter.unusedVariables false
set_option maxRecDepth 100000
theorem rs_ext2 {r s : Rs} (h0 : r.e = s.e) (h1 : r.at_ = s.at_) (h2 : r.tx = s.tx) (h3 : r.fs = s.fs) : r = s := by cases r; cases s; simp only at h0 h1 h2 h3; rw [h0, h1, h2, h3]
set_option maxHeartbeats 2000000 in
theorem rmsame_any (r s : Rs) (A F : Option Addr) (c d : Nat) (w : World) (hl : r.fs.length ≤ 1000000000) (hm : s.fs.length ≤ 1000000000) (hr : Fs.Fls w A r.fs) (hq : Fs.Fls w F s.fs) :
    Calls Tryz.prog 36 #[resOf r A c, resOf s F d] w fun e w' => e = .returned (.bool (decide (r = s))) ∧ Below w.heap.size w w' := by
  obtain ⟨W2, eW⟩ : ∃ W2, W2 = (w.alloc (.cells #[.int .i64 r.e, .string r.at_, .string r.tx, .slice A r.fs.length c] 27)).alloc (.cells #[.int .i64 s.e, .string s.at_, .string s.tx, .slice F s.fs.length d] 27) := ⟨_, rfl⟩
  have hb2 : Below w.heap.size w W2 := by rw [eW]; exact ((Below.refl _ _).alloc (Nat.le_refl _) _).alloc (by simp) _
  have EQ := Lib.hid (fun (b : Bool) (hb : b = decide (r.fs = s.fs)) => (hb ▸ Fs.rsameF_any A F r.fs s.fs c d W2 hl hm ((hr.below hb2).more hb2.size) ((hq.below hb2).more hb2.size) : Calls Tryz.prog 24 #[.slice A r.fs.length c, .slice F s.fs.length d] W2 fun e w' => e = .returned (.bool b) ∧ Below W2.heap.size W2 w'))
  have EX := Lib.hid (@rs_ext2 r s)
  have NE : Hid (r ≠ s → decide (r = s) = false) := Lib.hid fun h => decide_eq_false h
  have YE : Hid (r = s → decide (r = s) = true) := Lib.hid fun h => decide_eq_true h
  have P0 : Hid (r = s → r.e = s.e ∧ r.at_ = s.at_ ∧ r.tx = s.tx ∧ r.fs = s.fs) := Lib.hid fun h => by subst h; exact ⟨rfl, rfl, rfl, rfl⟩
  clear hr hq
  generalize decide (r = s) = v at *
  unfold resOf
  generalize r.e = a0 at *
  generalize r.at_ = a1 at *
  generalize r.tx = a2 at *
  generalize r.fs = a3 at *
  generalize s.e = b0 at *
  generalize s.at_ = b1 at *
  generalize s.tx = b2 at *
  generalize s.fs = b3 at *
  by_cases h0 : a0 = b0
  · by_cases h1 : a1 = b1
    · by_cases h2 : a2 = b2
      · by_cases h3 : a3 = b3
        · have Q := Lib.hid (EQ.out true (decide_eq_true h3).symm)
          have F := Lib.hid (YE.out (EX.out h0 h1 h2 h3))
          clear EQ EX NE YE P0 h3
          subst h0 h1 h2
          go_enter Tryz.func36, Tryz.ntmps36
          go_wp2_with (go_at_call 24; rw [← eW]; (with_reducible refine (Q.out).mono ?_); rintro e w1 ⟨rfl, hb1⟩)
          go_ret
          exact ⟨Lg.ret_bool F.out, hb2.trans (hb1.mono hb2.size)⟩
        · have Q := Lib.hid (EQ.out false (decide_eq_false h3).symm)
          have F := Lib.hid (NE.out (fun e => h3 (P0.out e).2.2.2))
          clear EQ EX NE YE P0 h3
          subst h0 h1 h2
          go_enter Tryz.func36, Tryz.ntmps36
          go_wp2_with (go_at_call 24; rw [← eW]; (with_reducible refine (Q.out).mono ?_); rintro e w1 ⟨rfl, hb1⟩)
          go_ret
          exact ⟨Lg.ret_bool F.out, hb2.trans (hb1.mono hb2.size)⟩
      · have F := Lib.hid (NE.out (fun e => h2 (P0.out e).2.2.1))
        have g := Lg.s_ne h2
        clear EQ EX NE YE P0 h2
        subst h0 h1
        go_enter Tryz.func36, Tryz.ntmps36
        go_wp2_with (fail)
        rw [← eW]
        go_ret
        exact ⟨Lg.ret_bool F.out, hb2⟩
    · have F := Lib.hid (NE.out (fun e => h1 (P0.out e).2.1))
      have g := Lg.s_ne h1
      clear EQ EX NE YE P0 h1
      subst h0
      go_enter Tryz.func36, Tryz.ntmps36
      go_wp2_with (fail)
      rw [← eW]
      go_ret
      exact ⟨Lg.ret_bool F.out, hb2⟩
  · have F := Lib.hid (NE.out (fun e => h0 (P0.out e).1))
    have g : (a0 == b0) = false := by simpa using h0
    clear EQ EX NE YE P0 h0
    go_enter Tryz.func36, Tryz.ntmps36
    go_wp2_with (fail)
    rw [← eW]
    go_ret
    exact ⟨Lg.ret_bool F.out, hb2⟩
theorem op_ext2 {x y : Op} (h0 : x.n = y.n) (h1 : x.go = y.go) (h2 : x.st = y.st) (h3 : x.gr = y.gr) (h4 : x.sn = y.sn) (h5 : x.r = y.r) : x = y := by cases x; cases y; simp only at h0 h1 h2 h3 h4 h5; rw [h0, h1, h2, h3, h4, h5]
structure MidO (x : Op) : Prop where
  g : x.gr.length ≤ 1000000000
  f : x.sn.length ≤ 1000000000
  r : x.r.fs.length ≤ 1000000000
  t : ∀ t ∈ x.gr, t.ds.length ≤ 9223372036854775807 ∧ t.ss.length ≤ 9223372036854775807
theorem OkO.mid {x : Op} (h : OkO x) : MidO x := ⟨by have := h.gl; omega, by have := h.fl; omega, by have := h.rl; omega, fun t ht => by have h1 := (h.g t ht).dl; have h2 := (h.g t ht).sl; omega⟩
theorem at_put2 {W1 : World} {b : Nat} {cs : Array Value} {T : TypeId} (h : W1.heap[b]? = some (.cells cs T (0, 0))) (j : Nat) {u : Value} (hu : cs[j]? = some u) : ∀ w', Below W1.heap.size W1 w' → w'.cell? ⟨b, j, none⟩ = some u := fun w' hb => (cell_heap (heap_below hb (Lg.lt_heap h) h) j).trans hu
set_option maxHeartbeats 8000000 in
theorem rosame_any (A F : Option Addr) (l m : List Op) (c d : Nat) (w : World) (hl : l.length ≤ 1000000000) (hm : m.length ≤ 1000000000) (hx : ∀ x ∈ l, MidO x) (hy : ∀ x ∈ m, MidO x) (hr : Ops w A l) (hq : Ops w F m) {v : Bool} (hv : v = decide (l = m)) :
    Calls Tryz.prog 19 #[.slice A l.length c, .slice F m.length d] w fun e w' => e = .returned (.bool v) ∧ Below w.heap.size w w' := by
  have YES : Hid (l.length = m.length → Upto l m l.length → v = true) := Lib.hid fun h h1 => by rw [hv]; exact decide_eq_true (h1.all h)
  have NE : Hid (l ≠ m → v = false) := Lib.hid fun h => by rw [hv]; exact decide_eq_false h
  have HR := Lib.hid hr
  have HQ := Lib.hid hq
  have HX := Lib.hid hx
  have HY := Lib.hid hy
  clear hv hr hq hx hy
  by_cases he : l.length = m.length
  · have i0 : ((l.length : Int) != (m.length : Int)) = false := by rw [he]; simp
    have HE := Lib.hid he
    go_enter Tryz.func19, Tryz.ntmps19
    go_wp2_with (fail)
    go_loopw [5] (fun i wx => ∃ k : Nat, i = .int .i64 k ∧ k ≤ l.length ∧ Upto l m k ∧ Below w.heap.size w wx) (fun i _ => l.length - (intOf i).toNat)
    case atStart => exact ⟨0, rfl, by omega, Upto.zero _ _, Below.refl _ _⟩
    case round =>
      obtain ⟨k, rfl, hk, hup, hbx⟩ := hrel
      have UP := Lib.hid hup
      clear hup
      by_cases hlt : k < l.length
      · have hltm : k < m.length := by omega
        obtain ⟨ad, Ag, cg, Af, cf, Ar, cr, rfl, had, hps, c0, c1, c2, c3, c4, c5, c6, c7, c8⟩ := (HR.out.below hbx).nine_at hlt
        obtain ⟨bd, Eg, eg, Ef, ef, Er, er, rfl, hbd, hqs, b0, b1, b2, b3, b4, b5, b6, b7, b8⟩ := (HQ.out.below hbx).nine_at hltm
        have hkI : (k : Int) < (l.length : Int) := by omega
        have hkM : (k : Int) < (m.length : Int) := by omega
        have hk9 : (bd.add (k * 9)).block < wr.heap.size := by rw [block_of_add]; exact hbd
        have NX := Lib.hid (fun h => Upto.next hlt hltm UP.out h)
        have NN := Lib.hid (fun h => NE.out (Upto.ne hlt hltm h))
        obtain ⟨W2, eW⟩ : ∃ W2, W2 = (wr.alloc (.cells #[.string l[k].n, .slice Ag l[k].gr.length cg, .slice Af l[k].sn.length cf, .string l[k].go, .int .i64 l[k].st, .int .i64 l[k].r.e, .string l[k].r.at_, .string l[k].r.tx, .slice Ar l[k].r.fs.length cr] 29)).alloc (.cells #[.string m[k].n, .slice Eg m[k].gr.length eg, .slice Ef m[k].sn.length ef, .string m[k].go, .int .i64 m[k].st, .int .i64 m[k].r.e, .string m[k].r.at_, .string m[k].r.tx, .slice Er m[k].r.fs.length er] 29) := ⟨_, rfl⟩
        have hbw : Below wr.heap.size wr W2 := by rw [eW]; exact ((Below.refl _ _).alloc (Nat.le_refl _) _).alloc (by simp) _
        have B2 := Lib.hid (hbx.trans (hbw.mono hbx.size))
        have BW : Hid (∀ W, Below W2.heap.size W2 W → Below wr.heap.size wr W) := Lib.hid fun W hW => hbw.trans (hW.mono hbw.size)
        have k0 : W2.heap[wr.heap.size]? = some (.cells #[.string l[k].n, .slice Ag l[k].gr.length cg, .slice Af l[k].sn.length cf, .string l[k].go, .int .i64 l[k].st, .int .i64 l[k].r.e, .string l[k].r.at_, .string l[k].r.tx, .slice Ar l[k].r.fs.length cr] 29 (0, 0)) := by rw [eW]; exact Lg.heap_two
        have k1 : W2.heap[wr.heap.size + 1]? = some (.cells #[.string m[k].n, .slice Eg m[k].gr.length eg, .slice Ef m[k].sn.length ef, .string m[k].go, .int .i64 m[k].st, .int .i64 m[k].r.e, .string m[k].r.at_, .string m[k].r.tx, .slice Er m[k].r.fs.length er] 29 (0, 0)) := by rw [eW]; exact heap_alloc2_new wr _ _
        have D1 := Lib.hid (at_put2 k0 1 rfl)
        have E1 := Lib.hid (at_put2 k1 1 rfl)
        have D2 := Lib.hid (at_put2 k0 2 rfl)
        have E2 := Lib.hid (at_put2 k1 2 rfl)
        have D5 := Lib.hid (at_put2 k0 5 rfl)
        have E5 := Lib.hid (at_put2 k1 5 rfl)
        have D6 := Lib.hid (at_put2 k0 6 rfl)
        have E6 := Lib.hid (at_put2 k1 6 rfl)
        have D7 := Lib.hid (at_put2 k0 7 rfl)
        have E7 := Lib.hid (at_put2 k1 7 rfl)
        have D8 := Lib.hid (at_put2 k0 8 rfl)
        have E8 := Lib.hid (at_put2 k1 8 rfl)
        have hx1 := HX.out _ (List.getElem_mem hlt)
        have hy1 := HY.out _ (List.getElem_mem hltm)
        have SG : Hid (∀ b : Bool, b = decide (l[k].gr = m[k].gr) → Calls Tryz.prog 48 #[.slice Ag l[k].gr.length cg, .slice Eg m[k].gr.length eg] W2 fun e w' => e = .returned (.bool b) ∧ ∃ n, w' = W2.drewN n) := Lib.hid fun b hb => sameG2_any Ag Eg l[k].gr m[k].gr cg eg W2.heap.size W2.heap.size W2 (by have := hx1.g; omega) (by have := hy1.g; omega) hx1.t hy1.t (hps.below hbw).g (hqs.below hbw).g hb
        have SF : Hid (∀ b : Bool, b = decide (l[k].sn = m[k].sn) → ∀ W, Below W2.heap.size W2 W → Calls Tryz.prog 24 #[.slice Af l[k].sn.length cf, .slice Ef m[k].sn.length ef] W fun e w' => e = .returned (.bool b) ∧ Below W.heap.size W w') := Lib.hid fun b hb W hW => by
          rw [hb]; exact Fs.rsameF_any Af Ef l[k].sn m[k].sn cf ef W hx1.f hy1.f (hps.below (BW.out _ hW)).f (hqs.below (BW.out _ hW)).f
        have SR : Hid (∀ b : Bool, b = decide (l[k].r = m[k].r) → ∀ W, Below W2.heap.size W2 W → Calls Tryz.prog 36 #[.agg #[.int .i64 l[k].r.e, .string l[k].r.at_, .string l[k].r.tx, .slice Ar l[k].r.fs.length cr], .agg #[.int .i64 m[k].r.e, .string m[k].r.at_, .string m[k].r.tx, .slice Er m[k].r.fs.length er]] W fun e w' => e = .returned (.bool b) ∧ Below W.heap.size W w') := Lib.hid fun b hb W hW => by
          rw [hb]; exact rmsame_any l[k].r m[k].r Ar Er cr er W hx1.r hy1.r (hps.below (BW.out _ hW)).r (hqs.below (BW.out _ hW)).r
        have a0 : ∀ o, (wr.alloc o).cell? (bd.add (k * 9)) = some (.string m[k].n) := fun o => (World.cell?_alloc_lt wr o _ hk9).trans b0
        have a1 : ∀ o, (wr.alloc o).cell? ⟨(bd.add (k * 9)).block, (bd.add (k * 9)).off + 1, none⟩ = some (.slice Eg m[k].gr.length eg) := fun o => (World.cell?_alloc_lt wr o ⟨(bd.add (k * 9)).block, (bd.add (k * 9)).off + 1, none⟩ hk9).trans b1
        have a2 : ∀ o, (wr.alloc o).cell? ⟨(bd.add (k * 9)).block, (bd.add (k * 9)).off + 2, none⟩ = some (.slice Ef m[k].sn.length ef) := fun o => (World.cell?_alloc_lt wr o ⟨(bd.add (k * 9)).block, (bd.add (k * 9)).off + 2, none⟩ hk9).trans b2
        have a3 : ∀ o, (wr.alloc o).cell? ⟨(bd.add (k * 9)).block, (bd.add (k * 9)).off + 3, none⟩ = some (.string m[k].go) := fun o => (World.cell?_alloc_lt wr o ⟨(bd.add (k * 9)).block, (bd.add (k * 9)).off + 3, none⟩ hk9).trans b3
        have a4 : ∀ o, (wr.alloc o).cell? ⟨(bd.add (k * 9)).block, (bd.add (k * 9)).off + 4, none⟩ = some (.int .i64 m[k].st) := fun o => (World.cell?_alloc_lt wr o ⟨(bd.add (k * 9)).block, (bd.add (k * 9)).off + 4, none⟩ hk9).trans b4
        have a5 : ∀ o, (wr.alloc o).cell? ⟨(bd.add (k * 9)).block, (bd.add (k * 9)).off + 5, none⟩ = some (.int .i64 m[k].r.e) := fun o => (World.cell?_alloc_lt wr o ⟨(bd.add (k * 9)).block, (bd.add (k * 9)).off + 5, none⟩ hk9).trans b5
        have a6 : ∀ o, (wr.alloc o).cell? ⟨(bd.add (k * 9)).block, (bd.add (k * 9)).off + 6, none⟩ = some (.string m[k].r.at_) := fun o => (World.cell?_alloc_lt wr o ⟨(bd.add (k * 9)).block, (bd.add (k * 9)).off + 6, none⟩ hk9).trans b6
        have a7 : ∀ o, (wr.alloc o).cell? ⟨(bd.add (k * 9)).block, (bd.add (k * 9)).off + 7, none⟩ = some (.string m[k].r.tx) := fun o => (World.cell?_alloc_lt wr o ⟨(bd.add (k * 9)).block, (bd.add (k * 9)).off + 7, none⟩ hk9).trans b7
        have a8 : ∀ o, (wr.alloc o).cell? ⟨(bd.add (k * 9)).block, (bd.add (k * 9)).off + 8, none⟩ = some (.slice Er m[k].r.fs.length er) := fun o => (World.cell?_alloc_lt wr o ⟨(bd.add (k * 9)).block, (bd.add (k * 9)).off + 8, none⟩ hk9).trans b8
        clear hps hqs he i0 hbw k0 k1 hx1 hy1
        generalize l[k] = x at *
        generalize m[k] = y at *
        have EX := Lib.hid (@op_ext2 x y)
        by_cases h0 : x.n = y.n
        · by_cases h1 : x.go = y.go
          · by_cases h2 : x.st = y.st
            · by_cases h3 : x.gr = y.gr
              · by_cases h4 : x.sn = y.sn
                · by_cases h5 : x.r = y.r
                  · have F := Lib.hid (NX.out (EX.out h0 h1 h2 h3 h4 h5))
                    have f0 : (x.n.toList == y.n.toList) = true := by rw [h0]; simp
                    have f1 : (x.go.toList == y.go.toList) = true := by rw [h1]; simp
                    have f2 : (x.st != y.st) = false := by rw [h2]; simp
                    have T3 := Lib.hid (SG.out true (decide_eq_true h3).symm)
                    have T4 := Lib.hid (SF.out true (decide_eq_true h4).symm)
                    have T5 := Lib.hid (SR.out true (decide_eq_true h5).symm)
                    clear NX NN EX SG SF SR h0 h1 h2 h3 h4 h5
                    go_wp2_with (first | (go_at_call 48; rw [← eW]; clear eW; (with_reducible refine (T3.out).mono ?_); rintro e w1 ⟨rfl, n1, rfl⟩; have hb1 := belowDN (Below.refl W2.heap.size W2) n1; have g2 := D2.out _ hb1; have g3 := E2.out _ hb1) | (go_at_call 24; (with_reducible refine (T4.out _ hb1).mono ?_); rintro e w2 ⟨rfl, hb2'⟩; have hb2 := hb1.trans (hb2'.mono hb1.size); have g5 := D5.out _ hb2; have q5 := E5.out _ hb2; have g6 := D6.out _ hb2; have q6 := E6.out _ hb2; have g7 := D7.out _ hb2; have q7 := E7.out _ hb2; have g8 := D8.out _ hb2; have q8 := E8.out _ hb2) | (go_at_call 36; (with_reducible refine (T5.out _ hb2).mono ?_); rintro e w3 ⟨rfl, hb3'⟩; have hb3 := hb2.trans (hb3'.mono hb2.size)))
                    go_roundw
                    case rel => exact ⟨k + 1, by go_num, by omega, F.out, B2.out.trans (hb3.mono B2.out.size)⟩
                    case measure => simp [intOf]; omega
                  · have F := Lib.hid (NN.out (fun e => h5 (by rw [e])))
                    have f0 : (x.n.toList == y.n.toList) = true := by rw [h0]; simp
                    have f1 : (x.go.toList == y.go.toList) = true := by rw [h1]; simp
                    have f2 : (x.st != y.st) = false := by rw [h2]; simp
                    have T3 := Lib.hid (SG.out true (decide_eq_true h3).symm)
                    have T4 := Lib.hid (SF.out true (decide_eq_true h4).symm)
                    have T5 := Lib.hid (SR.out false (decide_eq_false h5).symm)
                    clear NX NN EX SG SF SR h0 h1 h2 h3 h4 h5
                    go_wp2_with (first | (go_at_call 48; rw [← eW]; clear eW; (with_reducible refine (T3.out).mono ?_); rintro e w1 ⟨rfl, n1, rfl⟩; have hb1 := belowDN (Below.refl W2.heap.size W2) n1; have g2 := D2.out _ hb1; have g3 := E2.out _ hb1) | (go_at_call 24; (with_reducible refine (T4.out _ hb1).mono ?_); rintro e w2 ⟨rfl, hb2'⟩; have hb2 := hb1.trans (hb2'.mono hb1.size); have g5 := D5.out _ hb2; have q5 := E5.out _ hb2; have g6 := D6.out _ hb2; have q6 := E6.out _ hb2; have g7 := D7.out _ hb2; have q7 := E7.out _ hb2; have g8 := D8.out _ hb2; have q8 := E8.out _ hb2) | (go_at_call 36; (with_reducible refine (T5.out _ hb2).mono ?_); rintro e w3 ⟨rfl, hb3'⟩; have hb3 := hb2.trans (hb3'.mono hb2.size)))
                    go_ret
                    exact ⟨Lg.ret_bool F.out, B2.out.trans (hb3.mono B2.out.size)⟩
                · have F := Lib.hid (NN.out (fun e => h4 (by rw [e])))
                  have f0 : (x.n.toList == y.n.toList) = true := by rw [h0]; simp
                  have f1 : (x.go.toList == y.go.toList) = true := by rw [h1]; simp
                  have f2 : (x.st != y.st) = false := by rw [h2]; simp
                  have T3 := Lib.hid (SG.out true (decide_eq_true h3).symm)
                  have T4 := Lib.hid (SF.out false (decide_eq_false h4).symm)
                  clear NX NN EX SG SF SR h0 h1 h2 h3 h4
                  go_wp2_with (first | (go_at_call 48; rw [← eW]; clear eW; (with_reducible refine (T3.out).mono ?_); rintro e w1 ⟨rfl, n1, rfl⟩; have hb1 := belowDN (Below.refl W2.heap.size W2) n1; have g2 := D2.out _ hb1; have g3 := E2.out _ hb1) | (go_at_call 24; (with_reducible refine (T4.out _ hb1).mono ?_); rintro e w2 ⟨rfl, hb2'⟩; have hb2 := hb1.trans (hb2'.mono hb1.size); have g5 := D5.out _ hb2; have q5 := E5.out _ hb2; have g6 := D6.out _ hb2; have q6 := E6.out _ hb2; have g7 := D7.out _ hb2; have q7 := E7.out _ hb2; have g8 := D8.out _ hb2; have q8 := E8.out _ hb2))
                  go_ret
                  exact ⟨Lg.ret_bool F.out, B2.out.trans (hb2.mono B2.out.size)⟩
              · have F := Lib.hid (NN.out (fun e => h3 (by rw [e])))
                have f0 : (x.n.toList == y.n.toList) = true := by rw [h0]; simp
                have f1 : (x.go.toList == y.go.toList) = true := by rw [h1]; simp
                have f2 : (x.st != y.st) = false := by rw [h2]; simp
                have T3 := Lib.hid (SG.out false (decide_eq_false h3).symm)
                clear NX NN EX SG SF SR h0 h1 h2 h3
                go_wp2_with (first | (go_at_call 48; rw [← eW]; clear eW; (with_reducible refine (T3.out).mono ?_); rintro e w1 ⟨rfl, n1, rfl⟩; have hb1 := belowDN (Below.refl W2.heap.size W2) n1; have g2 := D2.out _ hb1; have g3 := E2.out _ hb1))
                go_ret
                exact ⟨Lg.ret_bool F.out, B2.out.trans (hb1.mono B2.out.size)⟩
            · have F := Lib.hid (NN.out (fun e => h2 (by rw [e])))
              have f0 : (x.n.toList == y.n.toList) = true := by rw [h0]; simp
              have f1 : (x.go.toList == y.go.toList) = true := by rw [h1]; simp
              have f2 : (x.st != y.st) = true := by simpa using h2
              clear NX NN EX SG SF SR h0 h1 h2
              go_wp2_with (fail)
              rw [← eW]
              go_ret
              exact ⟨Lg.ret_bool F.out, B2.out⟩
          · have F := Lib.hid (NN.out (fun e => h1 (by rw [e])))
            have f0 : (x.n.toList == y.n.toList) = true := by rw [h0]; simp
            have f1 := Lg.s_ne h1
            clear NX NN EX SG SF SR h0 h1
            go_wp2_with (fail)
            rw [← eW]
            go_ret
            exact ⟨Lg.ret_bool F.out, B2.out⟩
        · have F := Lib.hid (NN.out (fun e => h0 (by rw [e])))
          have f0 := Lg.s_ne h0
          clear NX NN EX SG SF SR h0
          go_wp2_with (fail)
          rw [← eW]
          go_ret
          exact ⟨Lg.ret_bool F.out, B2.out⟩
      · obtain rfl : k = l.length := by omega
        have F := Lib.hid (YES.out HE.out UP.out)
        go_wp2_with (fail)
        go_ret
        exact ⟨Lg.ret_bool F.out, hbx⟩
  · have i0 : ((l.length : Int) != (m.length : Int)) = true := by rw [bne_iff_ne]; omega
    have F := Lib.hid (NE.out (fun e => he (by rw [e])))
    go_enter Tryz.func19, Tryz.ntmps19
    go_wp2_with (fail)
    go_ret
    exact ⟨Lg.ret_bool F.out, Below.refl _ _⟩
end Go.Proofs.YtnheahologecfaaGreatDoor.Ops
