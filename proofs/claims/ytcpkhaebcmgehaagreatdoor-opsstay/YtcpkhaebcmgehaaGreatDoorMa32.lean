/- Joined by mkmerged.py: OpRSame, OpRFind, OpLaws, OpLaws3. -/
import Derived.Test.YtcpkhaebcmgehaaGreatDoorMa26
import Derived.Test.YtcpkhaebcmgehaaGreatDoorMa17
import Derived.Test.YtcpkhaebcmgehaaGreatDoorMa24
import Derived.BigQuiet
import Derived.Test.YtcpkhaebcmgehaaGreatDoorMa29
import Derived.Test.YtcpkhaebcmgehaaGreatDoorMa30
import Derived.Test.YtcpkhaebcmgehaaGreatDoorMa31
/- The contracts of the reference's Same of results and of operations; printed by mkopsame2.py. -/
namespace Go.Proofs.YtcpkhaebcmgehaaGreatDoor.Ops
open Go.RowKit
set_option linter.unusedVariables false
set_option maxRecDepth 100000
theorem rs_ext2 {r s : Rs} (h0 : r.e = s.e) (h1 : r.at_ = s.at_) (h2 : r.tx = s.tx) (h3 : r.fs = s.fs) : r = s := by cases r; cases s; simp only at h0 h1 h2 h3; rw [h0, h1, h2, h3]
set_option maxHeartbeats 2000000 in
theorem rmsame_any (r s : Rs) (A F : Option Addr) (c d : Nat) (w : World) (hl : r.fs.length ≤ 1000000000) (hm : s.fs.length ≤ 1000000000) (hr : Fs.Fls w A r.fs) (hq : Fs.Fls w F s.fs) :
    Calls Tryz.prog 56 #[resOf r A c, resOf s F d] w fun e w' => e = .returned (.bool (decide (r = s))) ∧ Below w.heap.size w w' := by
  obtain ⟨W2, eW⟩ : ∃ W2, W2 = (w.alloc (.cells #[.int .i64 r.e, .string r.at_, .string r.tx, .slice A r.fs.length c] 36)).alloc (.cells #[.int .i64 s.e, .string s.at_, .string s.tx, .slice F s.fs.length d] 36) := ⟨_, rfl⟩
  have hb2 : Below w.heap.size w W2 := by rw [eW]; exact ((Below.refl _ _).alloc (Nat.le_refl _) _).alloc (by simp) _
  have EQ := Lib.hid (fun (b : Bool) (hb : b = decide (r.fs = s.fs)) => (hb ▸ Fs.rsameF_any A F r.fs s.fs c d W2 hl hm ((hr.below hb2).more hb2.size) ((hq.below hb2).more hb2.size) : Calls Tryz.prog 32 #[.slice A r.fs.length c, .slice F s.fs.length d] W2 fun e w' => e = .returned (.bool b) ∧ Below W2.heap.size W2 w'))
  have EX := Lib.hid (@rs_ext2 r s)
  have NE : Hid (r ≠ s → decide (r = s) = false) := Lib.hid fun h => decide_eq_false h
  have YE : Hid (r = s → decide (r = s) = true) := Lib.hid fun h => decide_eq_true h
  have P0 : Hid (r = s → r.e = s.e ∧ r.at_ = s.at_ ∧ r.tx = s.tx ∧ r.fs = s.fs) := Lib.hid fun h => by subst h; exact ⟨rfl, rfl, rfl, rfl⟩
  clear hr hq
  generalize decide (r = s) = v at *
  unfold resOf
  generalize r.e = a0 at *
  generalize r.at_ = a1 at *
  generalize r.tx = a2 at *
  generalize r.fs = a3 at *
  generalize s.e = b0 at *
  generalize s.at_ = b1 at *
  generalize s.tx = b2 at *
  generalize s.fs = b3 at *
  by_cases h0 : a0 = b0
  · by_cases h1 : a1 = b1
    · by_cases h2 : a2 = b2
      · by_cases h3 : a3 = b3
        · have Q := Lib.hid (EQ.out true (decide_eq_true h3).symm)
          have F := Lib.hid (YE.out (EX.out h0 h1 h2 h3))
          clear EQ EX NE YE P0 h3
          subst h0 h1 h2
          go_enter Tryz.func56, Tryz.ntmps56
          go_wp2_with (go_at_call 32; rw [← eW]; (with_reducible refine (Q.out).mono ?_); rintro e w1 ⟨rfl, hb1⟩)
          go_ret
          exact ⟨Lg.ret_bool F.out, hb2.trans (hb1.mono hb2.size)⟩
        · have Q := Lib.hid (EQ.out false (decide_eq_false h3).symm)
          have F := Lib.hid (NE.out (fun e => h3 (P0.out e).2.2.2))
          clear EQ EX NE YE P0 h3
          subst h0 h1 h2
          go_enter Tryz.func56, Tryz.ntmps56
          go_wp2_with (go_at_call 32; rw [← eW]; (with_reducible refine (Q.out).mono ?_); rintro e w1 ⟨rfl, hb1⟩)
          go_ret
          exact ⟨Lg.ret_bool F.out, hb2.trans (hb1.mono hb2.size)⟩
      · have F := Lib.hid (NE.out (fun e => h2 (P0.out e).2.2.1))
        have g := Lg.s_ne h2
        clear EQ EX NE YE P0 h2
        subst h0 h1
        go_enter Tryz.func56, Tryz.ntmps56
        go_wp2_with (fail)
        rw [← eW]
        go_ret
        exact ⟨Lg.ret_bool F.out, hb2⟩
    · have F := Lib.hid (NE.out (fun e => h1 (P0.out e).2.1))
      have g := Lg.s_ne h1
      clear EQ EX NE YE P0 h1
      subst h0
      go_enter Tryz.func56, Tryz.ntmps56
      go_wp2_with (fail)
      rw [← eW]
      go_ret
      exact ⟨Lg.ret_bool F.out, hb2⟩
  · have F := Lib.hid (NE.out (fun e => h0 (P0.out e).1))
    have g : (a0 == b0) = false := by simpa using h0
    clear EQ EX NE YE P0 h0
    go_enter Tryz.func56, Tryz.ntmps56
    go_wp2_with (fail)
    rw [← eW]
    go_ret
    exact ⟨Lg.ret_bool F.out, hb2⟩
theorem op_ext2 {x y : Op} (h0 : x.n = y.n) (h1 : x.go = y.go) (h2 : x.st = y.st) (h3 : x.gr = y.gr) (h4 : x.sn = y.sn) (h5 : x.r = y.r) : x = y := by cases x; cases y; simp only at h0 h1 h2 h3 h4 h5; rw [h0, h1, h2, h3, h4, h5]
/-- an operation of few enough things -/
structure MidO (x : Op) : Prop where
  g : x.gr.length ≤ 1000000000
  f : x.sn.length ≤ 1000000000
  r : x.r.fs.length ≤ 1000000000
  t : ∀ t ∈ x.gr, t.ds.length ≤ 9223372036854775807 ∧ t.ss.length ≤ 9223372036854775807
theorem OkO.mid {x : Op} (h : OkO x) : MidO x := ⟨by have := h.gl; omega, by have := h.fl; omega, by have := h.rl; omega, fun t ht => by have h1 := (h.g t ht).dl; have h2 := (h.g t ht).sl; omega⟩
theorem at_put2 {W1 : World} {b : Nat} {cs : Array Value} {T : TypeId} (h : W1.heap[b]? = some (.cells cs T (0, 0))) (j : Nat) {u : Value} (hu : cs[j]? = some u) : ∀ w', Below W1.heap.size W1 w' → w'.cell? ⟨b, j, none⟩ = some u := fun w' hb => (cell_heap (heap_below hb (Lg.lt_heap h) h) j).trans hu
set_option maxHeartbeats 8000000 in
theorem rosame_any (A F : Option Addr) (l m : List Op) (c d : Nat) (w : World) (hl : l.length ≤ 1000000000) (hm : m.length ≤ 1000000000) (hx : ∀ x ∈ l, MidO x) (hy : ∀ x ∈ m, MidO x) (hr : Ops w A l) (hq : Ops w F m) {v : Bool} (hv : v = decide (l = m)) :
    Calls Tryz.prog 23 #[.slice A l.length c, .slice F m.length d] w fun e w' => e = .returned (.bool v) ∧ Below w.heap.size w w' := by
  have YES : Hid (l.length = m.length → Upto l m l.length → v = true) := Lib.hid fun h h1 => by rw [hv]; exact decide_eq_true (h1.all h)
  have NE : Hid (l ≠ m → v = false) := Lib.hid fun h => by rw [hv]; exact decide_eq_false h
  have HR := Lib.hid hr
  have HQ := Lib.hid hq
  have HX := Lib.hid hx
  have HY := Lib.hid hy
  clear hv hr hq hx hy
  by_cases he : l.length = m.length
  · have i0 : ((l.length : Int) != (m.length : Int)) = false := by rw [he]; simp
    have HE := Lib.hid he
    go_enter Tryz.func23, Tryz.ntmps23
    go_wp2_with (fail)
    go_loopw [5] (fun i wx => ∃ k : Nat, i = .int .i64 k ∧ k ≤ l.length ∧ Upto l m k ∧ Below w.heap.size w wx) (fun i _ => l.length - (intOf i).toNat)
    case atStart => exact ⟨0, rfl, by omega, Upto.zero _ _, Below.refl _ _⟩
    case round =>
      obtain ⟨k, rfl, hk, hup, hbx⟩ := hrel
      have UP := Lib.hid hup
      clear hup
      by_cases hlt : k < l.length
      · have hltm : k < m.length := by omega
        obtain ⟨ad, Ag, cg, Af, cf, Ar, cr, rfl, had, hps, c0, c1, c2, c3, c4, c5, c6, c7, c8⟩ := (HR.out.below hbx).nine_at hlt
        obtain ⟨bd, Eg, eg, Ef, ef, Er, er, rfl, hbd, hqs, b0, b1, b2, b3, b4, b5, b6, b7, b8⟩ := (HQ.out.below hbx).nine_at hltm
        have hkI : (k : Int) < (l.length : Int) := by omega
        have hkM : (k : Int) < (m.length : Int) := by omega
        have hk9 : (bd.add (k * 9)).block < wr.heap.size := by rw [block_of_add]; exact hbd
        have NX := Lib.hid (fun h => Upto.next hlt hltm UP.out h)
        have NN := Lib.hid (fun h => NE.out (Upto.ne hlt hltm h))
        obtain ⟨W2, eW⟩ : ∃ W2, W2 = (wr.alloc (.cells #[.string l[k].n, .slice Ag l[k].gr.length cg, .slice Af l[k].sn.length cf, .string l[k].go, .int .i64 l[k].st, .int .i64 l[k].r.e, .string l[k].r.at_, .string l[k].r.tx, .slice Ar l[k].r.fs.length cr] 38)).alloc (.cells #[.string m[k].n, .slice Eg m[k].gr.length eg, .slice Ef m[k].sn.length ef, .string m[k].go, .int .i64 m[k].st, .int .i64 m[k].r.e, .string m[k].r.at_, .string m[k].r.tx, .slice Er m[k].r.fs.length er] 38) := ⟨_, rfl⟩
        have hbw : Below wr.heap.size wr W2 := by rw [eW]; exact ((Below.refl _ _).alloc (Nat.le_refl _) _).alloc (by simp) _
        have B2 := Lib.hid (hbx.trans (hbw.mono hbx.size))
        have BW : Hid (∀ W, Below W2.heap.size W2 W → Below wr.heap.size wr W) := Lib.hid fun W hW => hbw.trans (hW.mono hbw.size)
        have k0 : W2.heap[wr.heap.size]? = some (.cells #[.string l[k].n, .slice Ag l[k].gr.length cg, .slice Af l[k].sn.length cf, .string l[k].go, .int .i64 l[k].st, .int .i64 l[k].r.e, .string l[k].r.at_, .string l[k].r.tx, .slice Ar l[k].r.fs.length cr] 38 (0, 0)) := by rw [eW]; exact Lg.heap_two
        have k1 : W2.heap[wr.heap.size + 1]? = some (.cells #[.string m[k].n, .slice Eg m[k].gr.length eg, .slice Ef m[k].sn.length ef, .string m[k].go, .int .i64 m[k].st, .int .i64 m[k].r.e, .string m[k].r.at_, .string m[k].r.tx, .slice Er m[k].r.fs.length er] 38 (0, 0)) := by rw [eW]; exact heap_alloc2_new wr _ _
        have D1 := Lib.hid (at_put2 k0 1 rfl)
        have E1 := Lib.hid (at_put2 k1 1 rfl)
        have D2 := Lib.hid (at_put2 k0 2 rfl)
        have E2 := Lib.hid (at_put2 k1 2 rfl)
        have D5 := Lib.hid (at_put2 k0 5 rfl)
        have E5 := Lib.hid (at_put2 k1 5 rfl)
        have D6 := Lib.hid (at_put2 k0 6 rfl)
        have E6 := Lib.hid (at_put2 k1 6 rfl)
        have D7 := Lib.hid (at_put2 k0 7 rfl)
        have E7 := Lib.hid (at_put2 k1 7 rfl)
        have D8 := Lib.hid (at_put2 k0 8 rfl)
        have E8 := Lib.hid (at_put2 k1 8 rfl)
        have hx1 := HX.out _ (List.getElem_mem hlt)
        have hy1 := HY.out _ (List.getElem_mem hltm)
        have SG : Hid (∀ b : Bool, b = decide (l[k].gr = m[k].gr) → Calls Tryz.prog 55 #[.slice Ag l[k].gr.length cg, .slice Eg m[k].gr.length eg] W2 fun e w' => e = .returned (.bool b) ∧ ∃ n, w' = W2.drewN n) := Lib.hid fun b hb => sameG2_any Ag Eg l[k].gr m[k].gr cg eg W2.heap.size W2.heap.size W2 (by have := hx1.g; omega) (by have := hy1.g; omega) hx1.t hy1.t (hps.below hbw).g (hqs.below hbw).g hb
        have SF : Hid (∀ b : Bool, b = decide (l[k].sn = m[k].sn) → ∀ W, Below W2.heap.size W2 W → Calls Tryz.prog 32 #[.slice Af l[k].sn.length cf, .slice Ef m[k].sn.length ef] W fun e w' => e = .returned (.bool b) ∧ Below W.heap.size W w') := Lib.hid fun b hb W hW => by
          rw [hb]; exact Fs.rsameF_any Af Ef l[k].sn m[k].sn cf ef W hx1.f hy1.f (hps.below (BW.out _ hW)).f (hqs.below (BW.out _ hW)).f
        have SR : Hid (∀ b : Bool, b = decide (l[k].r = m[k].r) → ∀ W, Below W2.heap.size W2 W → Calls Tryz.prog 56 #[.agg #[.int .i64 l[k].r.e, .string l[k].r.at_, .string l[k].r.tx, .slice Ar l[k].r.fs.length cr], .agg #[.int .i64 m[k].r.e, .string m[k].r.at_, .string m[k].r.tx, .slice Er m[k].r.fs.length er]] W fun e w' => e = .returned (.bool b) ∧ Below W.heap.size W w') := Lib.hid fun b hb W hW => by
          rw [hb]; exact rmsame_any l[k].r m[k].r Ar Er cr er W hx1.r hy1.r (hps.below (BW.out _ hW)).r (hqs.below (BW.out _ hW)).r
        have a0 : ∀ o, (wr.alloc o).cell? (bd.add (k * 9)) = some (.string m[k].n) := fun o => (World.cell?_alloc_lt wr o _ hk9).trans b0
        have a1 : ∀ o, (wr.alloc o).cell? ⟨(bd.add (k * 9)).block, (bd.add (k * 9)).off + 1, none⟩ = some (.slice Eg m[k].gr.length eg) := fun o => (World.cell?_alloc_lt wr o ⟨(bd.add (k * 9)).block, (bd.add (k * 9)).off + 1, none⟩ hk9).trans b1
        have a2 : ∀ o, (wr.alloc o).cell? ⟨(bd.add (k * 9)).block, (bd.add (k * 9)).off + 2, none⟩ = some (.slice Ef m[k].sn.length ef) := fun o => (World.cell?_alloc_lt wr o ⟨(bd.add (k * 9)).block, (bd.add (k * 9)).off + 2, none⟩ hk9).trans b2
        have a3 : ∀ o, (wr.alloc o).cell? ⟨(bd.add (k * 9)).block, (bd.add (k * 9)).off + 3, none⟩ = some (.string m[k].go) := fun o => (World.cell?_alloc_lt wr o ⟨(bd.add (k * 9)).block, (bd.add (k * 9)).off + 3, none⟩ hk9).trans b3
        have a4 : ∀ o, (wr.alloc o).cell? ⟨(bd.add (k * 9)).block, (bd.add (k * 9)).off + 4, none⟩ = some (.int .i64 m[k].st) := fun o => (World.cell?_alloc_lt wr o ⟨(bd.add (k * 9)).block, (bd.add (k * 9)).off + 4, none⟩ hk9).trans b4
        have a5 : ∀ o, (wr.alloc o).cell? ⟨(bd.add (k * 9)).block, (bd.add (k * 9)).off + 5, none⟩ = some (.int .i64 m[k].r.e) := fun o => (World.cell?_alloc_lt wr o ⟨(bd.add (k * 9)).block, (bd.add (k * 9)).off + 5, none⟩ hk9).trans b5
        have a6 : ∀ o, (wr.alloc o).cell? ⟨(bd.add (k * 9)).block, (bd.add (k * 9)).off + 6, none⟩ = some (.string m[k].r.at_) := fun o => (World.cell?_alloc_lt wr o ⟨(bd.add (k * 9)).block, (bd.add (k * 9)).off + 6, none⟩ hk9).trans b6
        have a7 : ∀ o, (wr.alloc o).cell? ⟨(bd.add (k * 9)).block, (bd.add (k * 9)).off + 7, none⟩ = some (.string m[k].r.tx) := fun o => (World.cell?_alloc_lt wr o ⟨(bd.add (k * 9)).block, (bd.add (k * 9)).off + 7, none⟩ hk9).trans b7
        have a8 : ∀ o, (wr.alloc o).cell? ⟨(bd.add (k * 9)).block, (bd.add (k * 9)).off + 8, none⟩ = some (.slice Er m[k].r.fs.length er) := fun o => (World.cell?_alloc_lt wr o ⟨(bd.add (k * 9)).block, (bd.add (k * 9)).off + 8, none⟩ hk9).trans b8
        clear hps hqs he i0 hbw k0 k1 hx1 hy1
        generalize l[k] = x at *
        generalize m[k] = y at *
        have EX := Lib.hid (@op_ext2 x y)
        by_cases h0 : x.n = y.n
        · by_cases h1 : x.go = y.go
          · by_cases h2 : x.st = y.st
            · by_cases h3 : x.gr = y.gr
              · by_cases h4 : x.sn = y.sn
                · by_cases h5 : x.r = y.r
                  · have F := Lib.hid (NX.out (EX.out h0 h1 h2 h3 h4 h5))
                    have f0 : (x.n.toList == y.n.toList) = true := by rw [h0]; simp
                    have f1 : (x.go.toList == y.go.toList) = true := by rw [h1]; simp
                    have f2 : (x.st != y.st) = false := by rw [h2]; simp
                    have T3 := Lib.hid (SG.out true (decide_eq_true h3).symm)
                    have T4 := Lib.hid (SF.out true (decide_eq_true h4).symm)
                    have T5 := Lib.hid (SR.out true (decide_eq_true h5).symm)
                    clear NX NN EX SG SF SR h0 h1 h2 h3 h4 h5
                    go_wp2_with (first | (go_at_call 55; rw [← eW]; clear eW; (with_reducible refine (T3.out).mono ?_); rintro e w1 ⟨rfl, n1, rfl⟩; have hb1 := belowDN (Below.refl W2.heap.size W2) n1; have g2 := D2.out _ hb1; have g3 := E2.out _ hb1) | (go_at_call 32; (with_reducible refine (T4.out _ hb1).mono ?_); rintro e w2 ⟨rfl, hb2'⟩; have hb2 := hb1.trans (hb2'.mono hb1.size); have g5 := D5.out _ hb2; have q5 := E5.out _ hb2; have g6 := D6.out _ hb2; have q6 := E6.out _ hb2; have g7 := D7.out _ hb2; have q7 := E7.out _ hb2; have g8 := D8.out _ hb2; have q8 := E8.out _ hb2) | (go_at_call 56; (with_reducible refine (T5.out _ hb2).mono ?_); rintro e w3 ⟨rfl, hb3'⟩; have hb3 := hb2.trans (hb3'.mono hb2.size)))
                    go_roundw
                    case rel => exact ⟨k + 1, by go_num, by omega, F.out, B2.out.trans (hb3.mono B2.out.size)⟩
                    case measure => simp [intOf]; omega
                  · have F := Lib.hid (NN.out (fun e => h5 (by rw [e])))
                    have f0 : (x.n.toList == y.n.toList) = true := by rw [h0]; simp
                    have f1 : (x.go.toList == y.go.toList) = true := by rw [h1]; simp
                    have f2 : (x.st != y.st) = false := by rw [h2]; simp
                    have T3 := Lib.hid (SG.out true (decide_eq_true h3).symm)
                    have T4 := Lib.hid (SF.out true (decide_eq_true h4).symm)
                    have T5 := Lib.hid (SR.out false (decide_eq_false h5).symm)
                    clear NX NN EX SG SF SR h0 h1 h2 h3 h4 h5
                    go_wp2_with (first | (go_at_call 55; rw [← eW]; clear eW; (with_reducible refine (T3.out).mono ?_); rintro e w1 ⟨rfl, n1, rfl⟩; have hb1 := belowDN (Below.refl W2.heap.size W2) n1; have g2 := D2.out _ hb1; have g3 := E2.out _ hb1) | (go_at_call 32; (with_reducible refine (T4.out _ hb1).mono ?_); rintro e w2 ⟨rfl, hb2'⟩; have hb2 := hb1.trans (hb2'.mono hb1.size); have g5 := D5.out _ hb2; have q5 := E5.out _ hb2; have g6 := D6.out _ hb2; have q6 := E6.out _ hb2; have g7 := D7.out _ hb2; have q7 := E7.out _ hb2; have g8 := D8.out _ hb2; have q8 := E8.out _ hb2) | (go_at_call 56; (with_reducible refine (T5.out _ hb2).mono ?_); rintro e w3 ⟨rfl, hb3'⟩; have hb3 := hb2.trans (hb3'.mono hb2.size)))
                    go_ret
                    exact ⟨Lg.ret_bool F.out, B2.out.trans (hb3.mono B2.out.size)⟩
                · have F := Lib.hid (NN.out (fun e => h4 (by rw [e])))
                  have f0 : (x.n.toList == y.n.toList) = true := by rw [h0]; simp
                  have f1 : (x.go.toList == y.go.toList) = true := by rw [h1]; simp
                  have f2 : (x.st != y.st) = false := by rw [h2]; simp
                  have T3 := Lib.hid (SG.out true (decide_eq_true h3).symm)
                  have T4 := Lib.hid (SF.out false (decide_eq_false h4).symm)
                  clear NX NN EX SG SF SR h0 h1 h2 h3 h4
                  go_wp2_with (first | (go_at_call 55; rw [← eW]; clear eW; (with_reducible refine (T3.out).mono ?_); rintro e w1 ⟨rfl, n1, rfl⟩; have hb1 := belowDN (Below.refl W2.heap.size W2) n1; have g2 := D2.out _ hb1; have g3 := E2.out _ hb1) | (go_at_call 32; (with_reducible refine (T4.out _ hb1).mono ?_); rintro e w2 ⟨rfl, hb2'⟩; have hb2 := hb1.trans (hb2'.mono hb1.size); have g5 := D5.out _ hb2; have q5 := E5.out _ hb2; have g6 := D6.out _ hb2; have q6 := E6.out _ hb2; have g7 := D7.out _ hb2; have q7 := E7.out _ hb2; have g8 := D8.out _ hb2; have q8 := E8.out _ hb2))
                  go_ret
                  exact ⟨Lg.ret_bool F.out, B2.out.trans (hb2.mono B2.out.size)⟩
              · have F := Lib.hid (NN.out (fun e => h3 (by rw [e])))
                have f0 : (x.n.toList == y.n.toList) = true := by rw [h0]; simp
                have f1 : (x.go.toList == y.go.toList) = true := by rw [h1]; simp
                have f2 : (x.st != y.st) = false := by rw [h2]; simp
                have T3 := Lib.hid (SG.out false (decide_eq_false h3).symm)
                clear NX NN EX SG SF SR h0 h1 h2 h3
                go_wp2_with (first | (go_at_call 55; rw [← eW]; clear eW; (with_reducible refine (T3.out).mono ?_); rintro e w1 ⟨rfl, n1, rfl⟩; have hb1 := belowDN (Below.refl W2.heap.size W2) n1; have g2 := D2.out _ hb1; have g3 := E2.out _ hb1))
                go_ret
                exact ⟨Lg.ret_bool F.out, B2.out.trans (hb1.mono B2.out.size)⟩
            · have F := Lib.hid (NN.out (fun e => h2 (by rw [e])))
              have f0 : (x.n.toList == y.n.toList) = true := by rw [h0]; simp
              have f1 : (x.go.toList == y.go.toList) = true := by rw [h1]; simp
              have f2 : (x.st != y.st) = true := by simpa using h2
              clear NX NN EX SG SF SR h0 h1 h2
              go_wp2_with (fail)
              rw [← eW]
              go_ret
              exact ⟨Lg.ret_bool F.out, B2.out⟩
          · have F := Lib.hid (NN.out (fun e => h1 (by rw [e])))
            have f0 : (x.n.toList == y.n.toList) = true := by rw [h0]; simp
            have f1 := Lg.s_ne h1
            clear NX NN EX SG SF SR h0 h1
            go_wp2_with (fail)
            rw [← eW]
            go_ret
            exact ⟨Lg.ret_bool F.out, B2.out⟩
        · have F := Lib.hid (NN.out (fun e => h0 (by rw [e])))
          have f0 := Lg.s_ne h0
          clear NX NN EX SG SF SR h0
          go_wp2_with (fail)
          rw [← eW]
          go_ret
          exact ⟨Lg.ret_bool F.out, B2.out⟩
      · obtain rfl : k = l.length := by omega
        have F := Lib.hid (YES.out HE.out UP.out)
        go_wp2_with (fail)
        go_ret
        exact ⟨Lg.ret_bool F.out, hbx⟩
  · have i0 : ((l.length : Int) != (m.length : Int)) = true := by rw [bne_iff_ne]; omega
    have F := Lib.hid (NE.out (fun e => he (by rw [e])))
    go_enter Tryz.func23, Tryz.ntmps23
    go_wp2_with (fail)
    go_ret
    exact ⟨Lg.ret_bool F.out, Below.refl _ _⟩
end Go.Proofs.YtcpkhaebcmgehaaGreatDoor.Ops
/- The contract of the reference's Find of operations; printed by mkoprfind.py. -/
namespace Go.Proofs.YtcpkhaebcmgehaaGreatDoor.Ops
open Go.RowKit
open Gr (idx NoneTo idx_hit idx_miss idx_cases)
set_option linter.unusedVariables false
set_option maxRecDepth 100000
set_option maxHeartbeats 1000000 in
theorem rfind_any (A : Option Addr) (l : List Op) (c : Nat) (s : ByteArray) (w0 w : World) (hr : Ops w0 A l) (h0 : Below w0.heap.size w0 w) (hl : l.length ≤ 1000000000) :
    Calls Tryz.prog 25 #[.slice A l.length c, .string s] w (FindSays l s w0 w) := by
  obtain ⟨W2, eW⟩ : ∃ W2, W2 = w.alloc (.cells zcells 38) := ⟨_, rfl⟩
  have hb2 : Below w.heap.size w W2 := by rw [eW]; exact (Below.refl _ _).alloc (Nat.le_refl _) _
  have k1 : W2.heap[w.heap.size]? = some (.cells zcells 38 (0, 0)) := by rw [eW]; exact heap_alloc_new w _
  have hsz : W2.heap.size = w.heap.size + 1 := by rw [eW]; simp
  have IX := Lib.hid ((rat_any A l c s W2 ((hr.below h0).below hb2) hl).mono (fun e w' h => (⟨h.1, h.2 ▸ Below.refl _ _⟩ : e = _ ∧ Below W2.heap.size W2 w')))
  have K1 : Hid (∀ W, Below W2.heap.size W2 W → W.heap[w.heap.size]? = some (.cells zcells 38 (0, 0))) := Lib.hid fun W hW => (hW.block _ (by omega)).trans k1
  clear k1
  have h12 : w.heap.size < W2.heap.size := by omega
  clear hsz
  rcases idx_cases (named s) l with ⟨e1, e2⟩ | ⟨k, hk, e1, e2, _, _⟩
  · rw [e1] at IX
    have F : Hid (find l s = none) := Lib.hid e2
    clear e1 e2 hr
    go_enter Tryz.func25, Tryz.ntmps25
    go_wp2_with (go_at_call 54; rw [← eW]; (with_reducible refine (IX.out).mono ?_); rintro e w1 ⟨rfl, hb⟩; have K2 := Lib.hid (K1.out _ hb); obtain ⟨c0, c1, c2, c3, c4, c5, c6, c7, c8, f0, f1, f2, f3, f4, f5, f6, f7, f8⟩ := nine (K1.out _ hb); have hs1 := hb.size; clear eW)
    (try simp only [Exit.inBlock, Exit.then])
    refine bodyPost_ret_by (Lg.results_cell_row2 rfl _ _ (w.heap.size) 38 _ (0, 0) _ rfl (set9 K2.out _ _ _ _ _ _ _ _ _) rfl rfl (by kernel_rfl)) rfl ?_
    refine ⟨⟨zeroO, none, 0, none, 0, none, 0, by rw [F.out]; rfl, by rw [F.out]; rfl, zero_parts _⟩, ?_⟩
    exact set9_below (hb2.trans (hb.mono hb2.size)) (Nat.le_refl _) _ _ _ _ _ _ _ _ _
  · rw [e1] at IX
    have F : Hid (find l s = some l[k]) := Lib.hid e2
    clear e1 e2
    have hkI : (k : Int) < (l.length : Int) := by omega
    obtain ⟨ad, Ag, cg, Af, cf, Ar, cr, rfl, had, hps, d0, d1, d2, d3, d4, d5, d6, d7, d8⟩ := hr.nine_at hk
    have HP := Lib.hid hps
    have cat : ∀ (W : World), Below w0.heap.size w0 W → ∀ j u, w0.cell? ⟨(ad.add (k * 9)).block, j, none⟩ = some u → W.cell? ⟨(ad.add (k * 9)).block, j, none⟩ = some u := fun W hW j u h => (hW.cell (by show (ad.add (k * 9)).block < _; rw [block_of_add]; exact had)).trans h
    have CAT : Hid (∀ (W : World), Below w0.heap.size w0 W → W.cell? (ad.add (k * 9)) = some (.string l[k].n) ∧
      W.cell? ⟨(ad.add (k * 9)).block, (ad.add (k * 9)).off + 1, none⟩ = some (.slice Ag l[k].gr.length cg) ∧
      W.cell? ⟨(ad.add (k * 9)).block, (ad.add (k * 9)).off + 2, none⟩ = some (.slice Af l[k].sn.length cf) ∧
      W.cell? ⟨(ad.add (k * 9)).block, (ad.add (k * 9)).off + 3, none⟩ = some (.string l[k].go) ∧
      W.cell? ⟨(ad.add (k * 9)).block, (ad.add (k * 9)).off + 4, none⟩ = some (.int .i64 l[k].st) ∧
      W.cell? ⟨(ad.add (k * 9)).block, (ad.add (k * 9)).off + 5, none⟩ = some (.int .i64 l[k].r.e) ∧
      W.cell? ⟨(ad.add (k * 9)).block, (ad.add (k * 9)).off + 6, none⟩ = some (.string l[k].r.at_) ∧
      W.cell? ⟨(ad.add (k * 9)).block, (ad.add (k * 9)).off + 7, none⟩ = some (.string l[k].r.tx) ∧
      W.cell? ⟨(ad.add (k * 9)).block, (ad.add (k * 9)).off + 8, none⟩ = some (.slice Ar l[k].r.fs.length cr)) := Lib.hid fun W hW =>
      ⟨(hW.cell (by rw [block_of_add]; exact had)).trans d0, cat W hW _ _ d1, cat W hW _ _ d2, cat W hW _ _ d3, cat W hW _ _ d4, cat W hW _ _ d5, cat W hW _ _ d6, cat W hW _ _ d7, cat W hW _ _ d8⟩
    clear d0 d1 d2 d3 d4 d5 d6 d7 d8 hps hr cat
    generalize l[k] = t at *
    go_enter Tryz.func25, Tryz.ntmps25
    go_wp2_with (go_at_call 54; rw [← eW]; (with_reducible refine (IX.out).mono ?_); rintro e w1 ⟨rfl, hb⟩; have K2 := Lib.hid (K1.out _ hb); obtain ⟨c0, c1, c2, c3, c4, c5, c6, c7, c8, f0, f1, f2, f3, f4, f5, f6, f7, f8⟩ := nine (K1.out _ hb); have hs1 := hb.size; clear eW; have hbw := hb2.trans (hb.mono hb2.size); obtain ⟨e0, e1, e2, e3, e4, e5, e6, e7, e8⟩ := CAT.out _ (h0.trans (hbw.mono h0.size)))
    (try simp only [Exit.inBlock, Exit.then])
    refine bodyPost_ret_by (Lg.results_cell_row2 rfl _ _ (w.heap.size) 38 _ (0, 0) _ rfl (set9 K2.out _ _ _ _ _ _ _ _ _) rfl rfl (by kernel_rfl)) rfl ?_
    exact ⟨⟨t, Ag, cg, Af, cf, Ar, cr, by rw [F.out]; rfl, by rw [F.out]; rfl, HP.out⟩, set9_below hbw (Nat.le_refl _) _ _ _ _ _ _ _ _ _⟩
end Go.Proofs.YtcpkhaebcmgehaaGreatDoor.Ops
/- The walks of OpsFind, OpsSame and OpsFinds; printed by mkoplaws.py. -/
namespace Go.Proofs.YtcpkhaebcmgehaaGreatDoor.Ops
open Go.RowKit
set_option linter.unusedVariables false
set_option maxRecDepth 100000
/-- what a law answers -/
def Yes (w : World) (e : Ending) (w' : World) : Prop := e = .returned (.bool true) ∧ Below w.heap.size w w'
theorem few_at {w W : World} {A : Option Addr} {l : List Op} (c : Nat) (hr : Ops w A l) (hm : l.length ≤ maxLen) (hz : ∀ x ∈ l, FitO x) (hW : Below w.heap.size w W) {b : Bool} (hb : b = true ↔ FewP l) :
    Calls Tryz.prog 19 #[.slice A l.length c] W fun e w' => e = .returned (.bool b) ∧ Below W.heap.size W w' := few_is A l c W hm (hr.below hW) hz hb
theorem found_ok {l : List Op} {s : ByteArray} (h : ∀ x ∈ l, OkO x) : OkO ((find l s).getD zeroO) := by
  cases hf : find l s with
  | none => exact zero_ok
  | some x => exact h x (find_some hf).1
set_option maxHeartbeats 4000000 in
theorem same_walk (A : Option Addr) (l : List Op) (c : Nat) (F : Option Addr) (m : List Op) (d : Nat) (w : World) (hE : Lg.Env w) (hr : Ops w A l) (hm : l.length ≤ maxLen) (hz : ∀ x ∈ l, FitO x) (hc : l.length ≤ c) (hq : Ops w F m) (hm2 : m.length ≤ maxLen) (hz2 : ∀ x ∈ m, FitO x) (hc2 : m.length ≤ d) :
    Calls Tryz.prog 10 #[.slice A l.length c, .slice F m.length d] w (Yes w) := by
  have AW : Hid (∀ W, Below w.heap.size w W → Calls Tryz.prog 20 #[] W fun e w' => e = .returned (.bool true) ∧ Below W.heap.size W w') := Lib.hid fun W hW => awake_any W (hE.below hW)
  have FA : Hid (∀ b : Bool, (b = true ↔ FewP l) → ∀ W, Below w.heap.size w W → Calls Tryz.prog 19 #[.slice A l.length c] W fun e w' => e = .returned (.bool b) ∧ Below W.heap.size W w') := Lib.hid fun b hb W hW => few_at c hr hm hz hW hb
  have FB : Hid (∀ b : Bool, (b = true ↔ FewP m) → ∀ W, Below w.heap.size w W → Calls Tryz.prog 19 #[.slice F m.length d] W fun e w' => e = .returned (.bool b) ∧ Below W.heap.size W w') := Lib.hid fun b hb W hW => few_at d hq hm2 hz2 hW hb
  have PS : Hid (FewP l → FewP m → ∀ W, Below w.heap.size w W → Calls Tryz.prog 26 #[.slice A l.length c, .slice F m.length d] W fun e w' => e = .returned (.bool (decide (l = m))) ∧ Below W.heap.size W w') := Lib.hid fun h1 h2 W hW => osame_any A F l m c d W (hE.below hW).2.1 (by have := h1.1; omega) (by have := h2.1; omega) h1.2 h2.2 (hr.below hW) (hq.below hW) rfl
  have RS : Hid (FewP l → FewP m → ∀ W, Below w.heap.size w W → Calls Tryz.prog 23 #[.slice A l.length c, .slice F m.length d] W fun e w' => e = .returned (.bool (decide (l = m))) ∧ Below W.heap.size W w') := Lib.hid fun h1 h2 W hW => rosame_any A F l m c d W (by have := h1.1; omega) (by have := h2.1; omega) (fun x hx => (h1.2 x hx).mid) (fun x hx => (h2.2 x hx).mid) (hr.below hW) (hq.below hW) rfl
  clear hE hr hm hz hc hq hm2 hz2 hc2
  generalize decide (l = m) = v at *
  by_cases h1 : FewP l
  · have FA1 := Lib.hid (FA.out true (by simp [h1]))
    by_cases h2 : FewP m
    · have FB1 := Lib.hid (FB.out true (by simp [h2]))
      have PS1 := Lib.hid (PS.out h1 h2)
      have RS1 := Lib.hid (RS.out h1 h2)
      clear FA FB PS RS h1 h2
      cases v
      all_goals
        go_enter Tryz.func10, Tryz.ntmps10
        go_wp2_with (first
          | (go_at_call 19; (with_reducible refine (FA1.out _ (Below.refl _ _)).mono ?_); rintro e w1 ⟨rfl, b1⟩)
          | (go_at_call 19; (with_reducible refine (FB1.out _ b1).mono ?_); rintro e w2 ⟨rfl, b2'⟩; have b2 := b1.trans (b2'.mono b1.size))
          | (go_at_call 26; (with_reducible refine (PS1.out _ b2).mono ?_); rintro e w3 ⟨rfl, b3'⟩; have b3 := b2.trans (b3'.mono b2.size))
          | (go_at_call 23; (with_reducible refine (RS1.out _ b3).mono ?_); rintro e w4 ⟨rfl, b4'⟩; have b4 := b3.trans (b4'.mono b3.size))
          | (go_at_call 20; (with_reducible refine (AW.out _ b4).mono ?_); rintro e w9 ⟨rfl, b9⟩))
        go_ret
        exact ⟨rfl, b4.trans (b9.mono b4.size)⟩
    · have FB1 := Lib.hid (FB.out false (by simp [h2]))
      clear FA FB PS RS h1 h2
      go_enter Tryz.func10, Tryz.ntmps10
      go_wp2_with (first
        | (go_at_call 19; (with_reducible refine (FA1.out _ (Below.refl _ _)).mono ?_); rintro e w1 ⟨rfl, b1⟩)
        | (go_at_call 19; (with_reducible refine (FB1.out _ b1).mono ?_); rintro e w2 ⟨rfl, b2'⟩; have b2 := b1.trans (b2'.mono b1.size))
        | (go_at_call 20; (with_reducible refine (AW.out _ b2).mono ?_); rintro e w9 ⟨rfl, b9⟩))
      go_ret
      exact ⟨rfl, b2.trans (b9.mono b2.size)⟩
  · have FA1 := Lib.hid (FA.out false (by simp [h1]))
    clear FA FB PS RS h1
    go_enter Tryz.func10, Tryz.ntmps10
    go_wp2_with (first
      | (go_at_call 19; (with_reducible refine (FA1.out _ (Below.refl _ _)).mono ?_); rintro e w1 ⟨rfl, b1⟩)
      | (go_at_call 20; (with_reducible refine (AW.out _ b1).mono ?_); rintro e w9 ⟨rfl, b9⟩))
    go_ret
    exact ⟨rfl, b1.trans (b9.mono b1.size)⟩
end Go.Proofs.YtcpkhaebcmgehaaGreatDoor.Ops
/- The walk of OpsAgain; printed by mkoplaws3.py. -/
namespace Go.Proofs.YtcpkhaebcmgehaaGreatDoor.Ops
open Go.RowKit
set_option linter.unusedVariables false
set_option maxRecDepth 100000
theorem few_one {x : Op} : FewP [x] ↔ OkO x := ⟨fun h => h.2 x (List.mem_singleton_self _), fun h => ⟨by simp, fun y hy => by rw [List.mem_singleton.1 hy]; exact h⟩⟩
/-- few, at a row made of one operation -/
theorem few_new {w W : World} {x : Op} {Ag : Option Addr} {cg : Nat} {Af : Option Addr} {cf : Nat} {Ar : Option Addr} {cr : Nat} (hp : Parts w x Ag cg Af cf Ar cr) (hz : FitO x) (hW : Below w.heap.size w W) {b : Bool} (hb : b = true ↔ OkO x) :
    Calls Tryz.prog 19 #[.slice (some ⟨W.heap.size, 0, none⟩) 1 1] (W.alloc (.cells #[.string x.n, .slice Ag x.gr.length cg, .slice Af x.sn.length cf, .string x.go, .int .i64 x.st, .int .i64 x.r.e, .string x.r.at_, .string x.r.tx, .slice Ar x.r.fs.length cr] 38)) fun e w' => e = .returned (.bool b) ∧ Below W.heap.size W w' := by
  have ha : Below W.heap.size W (W.alloc (.cells #[.string x.n, .slice Ag x.gr.length cg, .slice Af x.sn.length cf, .string x.go, .int .i64 x.st, .int .i64 x.r.e, .string x.r.at_, .string x.r.tx, .slice Ar x.r.fs.length cr] 38)) := (Below.refl _ _).alloc (Nat.le_refl _) _
  refine (few_is (some ⟨W.heap.size, 0, none⟩) [x] 1 _ (by show 1 ≤ _; unfold maxLen; omega) (ops_blk (heap_alloc_new W _) ((hp.below hW).below ha)) (fun y hy => by rw [List.mem_singleton.1 hy]; exact hz) (hb.trans few_one.symm)).mono ?_
  rintro e w' ⟨h1, h2⟩
  exact ⟨h1, ha.trans (h2.mono ha.size)⟩
/-- Apply, its result in the walk's words -/
theorem apply_in {A : Option Addr} {l m : List Op} {c n q : Nat} {k f : Int} {x : Op} {Ag : Option Addr} {cg : Nat} {Af : Option Addr} {cf : Nat} {Ar : Option Addr} {cr : Nat} {W : World} (hE : Lg.Env W) (h : apply wrongV orderB l ⟨k, x⟩ = (m, f)) (hl : ∀ y ∈ l, OkO y) (hx : OkO x) (hr : Ops W A l) (hn : l.length = n) (hq : m.length = q) (hll : n ≤ 1000) (hlc : n ≤ c) (hp : Parts W x Ag cg Af cf Ar cr) :
    Calls Tryz.prog 21 #[.slice A n c, .agg #[.int .i64 k, .string x.n, .slice Ag x.gr.length cg, .slice Af x.sn.length cf, .string x.go, .int .i64 x.st, .int .i64 x.r.e, .string x.r.at_, .string x.r.tx, .slice Ar x.r.fs.length cr]] W (ExSays m q f W) := by
  subst hn hq
  have := apply_any A l c k x Ag cg Af cf Ar cr W hE hl hx hr hll hlc hp
  rw [h] at this
  exact this
theorem find_of {A : Option Addr} {l : List Op} {c n : Nat} {s : ByteArray} {y : Op} {W : World} (hr : Ops W A l) (hn : l.length = n) (hll : n ≤ 1000) (hf : find l s = some y) :
    Calls Tryz.prog 24 #[.slice A n c, .string s] W fun e w' => (∃ (Og : Option Addr) (og : Nat) (Of : Option Addr) (of : Nat) (Or : Option Addr) (or_ : Nat), e = .returned (.tuple #[.agg #[.string y.n, .slice Og y.gr.length og, .slice Of y.sn.length of, .string y.go, .int .i64 y.st, .int .i64 y.r.e, .string y.r.at_, .string y.r.tx, .slice Or y.r.fs.length or_], .bool true]) ∧ Parts W y Og og Of of Or or_) ∧ Below W.heap.size W w' := by
  subst hn
  exact find_in A l c s W hr (by omega) (by rw [hf]; rfl) (by rw [hf]; rfl)
theorem same_of {A F : Option Addr} {l : List Op} {c d n : Nat} {W : World} (hE : Lg.Env W) (hl : ∀ y ∈ l, OkO y) (hr : Ops W A l) (hq : Ops W F l) (hn : l.length = n) (hll : n ≤ 1000) :
    Calls Tryz.prog 26 #[.slice A n c, .slice F n d] W fun e w' => e = .returned (.bool true) ∧ Below W.heap.size W w' := by
  subst hn
  exact osame_any A F l l c d W hE.2.1 (by omega) (by omega) hl hl hr hq (by simp)
set_option maxHeartbeats 8000000 in
theorem again_walk (A : Option Addr) (l : List Op) (c : Nat) (x : Op) (Ag : Option Addr) (cg : Nat) (Af : Option Addr) (cf : Nat) (Ar : Option Addr) (cr : Nat) (w : World) (hE : Lg.Env w) (hr : Ops w A l) (hm : l.length ≤ maxLen) (hz : ∀ x ∈ l, FitO x) (hc : l.length ≤ c) (hp : Parts w x Ag cg Af cf Ar cr) (hx : FitO x) :
    Calls Tryz.prog 9 #[.slice A l.length c, valOf x Ag cg Af cf Ar cr] w (Yes w) := by
  obtain ⟨W1, eW⟩ : ∃ W1, W1 = w.alloc (.cells #[.string x.n, .slice Ag x.gr.length cg, .slice Af x.sn.length cf, .string x.go, .int .i64 x.st, .int .i64 x.r.e, .string x.r.at_, .string x.r.tx, .slice Ar x.r.fs.length cr] 38) := ⟨_, rfl⟩
  have hb1 : Below w.heap.size w W1 := by rw [eW]; exact (Below.refl _ _).alloc (Nat.le_refl _) _
  have k0 : W1.heap[w.heap.size]? = some (.cells #[.string x.n, .slice Ag x.gr.length cg, .slice Af x.sn.length cf, .string x.go, .int .i64 x.st, .int .i64 x.r.e, .string x.r.at_, .string x.r.tx, .slice Ar x.r.fs.length cr] 38 (0, 0)) := by rw [eW]; exact heap_alloc_new w _
  have BW : Hid (∀ W, Below W1.heap.size W1 W → Below w.heap.size w W) := Lib.hid fun W hW => hb1.trans (hW.mono hb1.size)
  have KX : Hid (∀ W, Below W1.heap.size W1 W → W.heap[w.heap.size]? = some (.cells #[.string x.n, .slice Ag x.gr.length cg, .slice Af x.sn.length cf, .string x.go, .int .i64 x.st, .int .i64 x.r.e, .string x.r.at_, .string x.r.tx, .slice Ar x.r.fs.length cr] 38 (0, 0))) := Lib.hid fun W hW => (hW.block _ (Lg.lt_heap k0)).trans k0
  have AW : Hid (∀ W, Below W1.heap.size W1 W → Calls Tryz.prog 20 #[] W fun e w' => e = .returned (.bool true) ∧ Below W.heap.size W w') := Lib.hid fun W hW => awake_any W (hE.below (BW.out _ hW))
  have FA : Hid (∀ b : Bool, (b = true ↔ FewP l) → ∀ W, Below W1.heap.size W1 W → Calls Tryz.prog 19 #[.slice A l.length c] W fun e w' => e = .returned (.bool b) ∧ Below W.heap.size W w') := Lib.hid fun b hb W hW => few_at c hr hm hz (BW.out _ hW) hb
  have FX : Hid (∀ b : Bool, (b = true ↔ OkO x) → ∀ W, Below W1.heap.size W1 W → Calls Tryz.prog 19 #[.slice (some ⟨W.heap.size, 0, none⟩) 1 1] (W.alloc (.cells #[.string x.n, .slice Ag x.gr.length cg, .slice Af x.sn.length cf, .string x.go, .int .i64 x.st, .int .i64 x.r.e, .string x.r.at_, .string x.r.tx, .slice Ar x.r.fs.length cr] 38)) fun e w' => e = .returned (.bool b) ∧ Below W.heap.size W w') := Lib.hid fun b hb W hW => few_new hp hx (BW.out _ hW) hb
  obtain ⟨m, f, hs⟩ : ∃ m f, apply wrongV orderB l ⟨1, x⟩ = (m, f) := ⟨_, _, rfl⟩
  obtain ⟨q, hq⟩ : ∃ q, m.length = q := ⟨_, rfl⟩
  have AP : Hid (FewP l → OkO x → ∀ W, Below W1.heap.size W1 W → Calls Tryz.prog 21 #[.slice A l.length c, .agg #[.int .i64 1, .string x.n, .slice Ag x.gr.length cg, .slice Af x.sn.length cf, .string x.go, .int .i64 x.st, .int .i64 x.r.e, .string x.r.at_, .string x.r.tx, .slice Ar x.r.fs.length cr]] W (ExSays m q f W)) := Lib.hid fun h1 h2 W hW => apply_in (hE.below (BW.out _ hW)) hs h1.2 h2 (hr.below (BW.out _ hW)) rfl hq (by have := h1.1; omega) hc (hp.below (BW.out _ hW))
  have KP : Hid (FewP l → OkO x → (∀ y ∈ m, OkO y) ∧ q ≤ 1000) := Lib.hid fun h1 h2 => by
    have := apply_keeps hs h1.2 h2
    have h3 := h1.1
    exact ⟨this.1, by omega⟩
  have AG : Hid (f = 0 → apply wrongV orderB m ⟨1, x⟩ = (m, 0) ∧ ∃ y, find m x.n = some y) := Lib.hid fun h => submit_again (h ▸ hs)
  have NG : Hid (f ≠ 0 → q = 0) := Lib.hid fun h => by rw [← hq, apply_fails hs h]; rfl
  have HE : Hid (∀ W, Below W1.heap.size W1 W → Lg.Env W) := Lib.hid fun W hW => hE.below (BW.out _ hW)
  have HP : Hid (∀ W, Below W1.heap.size W1 W → Parts W x Ag cg Af cf Ar cr) := Lib.hid fun W hW => hp.below (BW.out _ hW)
  clear hE hr hm hz hc hp hx hs hb1 k0
  unfold valOf
  by_cases h1 : FewP l
  · by_cases h2 : OkO x
    · have OX := Lib.hid h2
      have FA1 := Lib.hid (FA.out true (by simp [h1]))
      have FX1 := Lib.hid (FX.out true (by simp [h2]))
      have AP1 := Lib.hid (AP.out h1 h2)
      have KP1 := Lib.hid (KP.out h1 h2)
      clear FA FX AP KP h1 h2
      unfold ExSays at AP1
      by_cases hf : f = 0
      · subst hf
        obtain ⟨ha, y, hy⟩ := AG.out rfl
        have AP2 : Hid (∀ W A' c', Below W1.heap.size W1 W → q ≤ c' → Ops W A' m → Calls Tryz.prog 21 #[.slice A' q c', .agg #[.int .i64 1, .string x.n, .slice Ag x.gr.length cg, .slice Af x.sn.length cf, .string x.go, .int .i64 x.st, .int .i64 x.r.e, .string x.r.at_, .string x.r.tx, .slice Ar x.r.fs.length cr]] W (ExSays m q 0 W)) := Lib.hid fun W A' c' hW hc' ho => apply_in (HE.out _ hW) ha KP1.out.1 OX.out ho hq hq KP1.out.2 hc' (HP.out _ hW)
        have FD := Lib.hid (fun W A' c' (ho : Ops W A' m) => find_of (c := c') ho hq KP1.out.2 hy)
        have SM := Lib.hid (fun W A' F' c' d' (hW : Below W1.heap.size W1 W) (ho : Ops W A' m) (ho2 : Ops W F' m) => same_of (c := c') (d := d') (HE.out _ hW) KP1.out.1 ho ho2 hq KP1.out.2)
        unfold ExSays at AP2
        clear AG NG ha hy
        go_enter Tryz.func9, Tryz.ntmps9
        go_wp2_with (first | (go_at_call 19; rw [← eW]; clear eW; (with_reducible refine (FA1.out _ (Below.refl _ _)).mono ?_); rintro e w1 ⟨rfl, b1⟩; obtain ⟨x0, x1, x2, x3, x4, x5, x6, x7, x8, _⟩ := nine (KX.out _ b1)) | (go_at_call 19; (with_reducible refine (FX1.out _ b1).mono ?_); rintro e w2 ⟨rfl, b2'⟩; have b2 := b1.trans (b2'.mono b1.size); obtain ⟨y0, y1, y2, y3, y4, y5, y6, y7, y8, _⟩ := nine (KX.out _ b2)) | (go_at_call 21; (with_reducible refine (AP1.out _ b2).mono ?_); rintro e w3 ⟨⟨P3, c3, rfl, hc3, ho3⟩, b3'⟩; have b3 := b2.trans (b3'.mono b2.size); have O3 := Lib.hid ho3; clear ho3; obtain ⟨z0, z1, z2, z3, z4, z5, z6, z7, z8, _⟩ := nine (KX.out _ b3)) | (go_at_call 21; (with_reducible refine (AP2.out _ _ _ b3 hc3 O3.out).mono ?_); rintro e w4 ⟨⟨P4, c4, rfl, hc4, ho4⟩, b4'⟩; have b4 := b3.trans (b4'.mono b3.size); have O4 := Lib.hid ho4; have O34 := Lib.hid (O3.out.below b4'); clear ho4; obtain ⟨u0, u1, u2, u3, u4, u5, u6, u7, u8, _⟩ := nine (KX.out _ b4)) | (go_at_call 24; (with_reducible refine (FD.out _ _ c3 O34.out).mono ?_); rintro e w5 ⟨⟨Og, og, Of, of, Or, or_, rfl, _⟩, b5'⟩; have b5 := b4.trans (b5'.mono b4.size); have b5a := b5.alloc b5.size (.cells #[.string y.n, .slice Og y.gr.length og, .slice Of y.sn.length of, .string y.go, .int .i64 y.st, .int .i64 y.r.e, .string y.r.at_, .string y.r.tx, .slice Or y.r.fs.length or_] 38); have O5 := Lib.hid ((O34.out.below b5').below ((Below.refl _ _).alloc (Nat.le_refl _) (.cells #[.string y.n, .slice Og y.gr.length og, .slice Of y.sn.length of, .string y.go, .int .i64 y.st, .int .i64 y.r.e, .string y.r.at_, .string y.r.tx, .slice Or y.r.fs.length or_] 38))); have Q5 := Lib.hid ((O4.out.below b5').below ((Below.refl _ _).alloc (Nat.le_refl _) (.cells #[.string y.n, .slice Og y.gr.length og, .slice Of y.sn.length of, .string y.go, .int .i64 y.st, .int .i64 y.r.e, .string y.r.at_, .string y.r.tx, .slice Or y.r.fs.length or_] 38)))) | (go_at_call 26; (with_reducible refine (SM.out _ _ _ c3 c4 b5a O5.out Q5.out).mono ?_); rintro e w6 ⟨rfl, b6'⟩; have b6 := b5a.trans (b6'.mono b5a.size)) | (go_at_call 20; (with_reducible refine (AW.out _ b6).mono ?_); rintro e w9 ⟨rfl, b9⟩))
        go_ret
        exact ⟨rfl, BW.out _ (b6.trans (b9.mono b6.size))⟩
      · have jf : (f != 0) = true := by simpa using hf
        have hq0 := NG.out hf
        subst hq0
        clear AG NG KP1 hf
        go_enter Tryz.func9, Tryz.ntmps9
        go_wp2_with (first | (go_at_call 19; rw [← eW]; clear eW; (with_reducible refine (FA1.out _ (Below.refl _ _)).mono ?_); rintro e w1 ⟨rfl, b1⟩; obtain ⟨x0, x1, x2, x3, x4, x5, x6, x7, x8, _⟩ := nine (KX.out _ b1)) | (go_at_call 19; (with_reducible refine (FX1.out _ b1).mono ?_); rintro e w2 ⟨rfl, b2'⟩; have b2 := b1.trans (b2'.mono b1.size); obtain ⟨y0, y1, y2, y3, y4, y5, y6, y7, y8, _⟩ := nine (KX.out _ b2)) | (go_at_call 21; (with_reducible refine (AP1.out _ b2).mono ?_); rintro e w3 ⟨⟨P3, c3, rfl, hc3, ho3⟩, b3'⟩; have b3 := b2.trans (b3'.mono b2.size); have O3 := Lib.hid ho3; clear ho3; obtain ⟨z0, z1, z2, z3, z4, z5, z6, z7, z8, _⟩ := nine (KX.out _ b3)) | (go_at_call 20; (with_reducible refine (AW.out _ b3).mono ?_); rintro e w9 ⟨rfl, b9⟩))
        go_ret
        exact ⟨rfl, BW.out _ (b3.trans (b9.mono b3.size))⟩
    · have FA1 := Lib.hid (FA.out true (by simp [h1]))
      have FX1 := Lib.hid (FX.out false (by simp [h2]))
      clear FA FX AP KP AG NG h1 h2
      go_enter Tryz.func9, Tryz.ntmps9
      go_wp2_with (first | (go_at_call 19; rw [← eW]; clear eW; (with_reducible refine (FA1.out _ (Below.refl _ _)).mono ?_); rintro e w1 ⟨rfl, b1⟩; obtain ⟨x0, x1, x2, x3, x4, x5, x6, x7, x8, _⟩ := nine (KX.out _ b1)) | (go_at_call 19; (with_reducible refine (FX1.out _ b1).mono ?_); rintro e w2 ⟨rfl, b2'⟩; have b2 := b1.trans (b2'.mono b1.size); obtain ⟨y0, y1, y2, y3, y4, y5, y6, y7, y8, _⟩ := nine (KX.out _ b2)) | (go_at_call 20; (with_reducible refine (AW.out _ b2).mono ?_); rintro e w9 ⟨rfl, b9⟩))
      go_ret
      exact ⟨rfl, BW.out _ (b2.trans (b9.mono b2.size))⟩
  · have FA1 := Lib.hid (FA.out false (by simp [h1]))
    clear FA FX AP KP AG NG h1
    go_enter Tryz.func9, Tryz.ntmps9
    go_wp2_with (first | (go_at_call 19; rw [← eW]; clear eW; (with_reducible refine (FA1.out _ (Below.refl _ _)).mono ?_); rintro e w1 ⟨rfl, b1⟩; obtain ⟨x0, x1, x2, x3, x4, x5, x6, x7, x8, _⟩ := nine (KX.out _ b1)) | (go_at_call 20; (with_reducible refine (AW.out _ b1).mono ?_); rintro e w9 ⟨rfl, b9⟩))
    go_ret
    exact ⟨rfl, BW.out _ (b1.trans (b9.mono b1.size))⟩
end Go.Proofs.YtcpkhaebcmgehaaGreatDoor.Ops
