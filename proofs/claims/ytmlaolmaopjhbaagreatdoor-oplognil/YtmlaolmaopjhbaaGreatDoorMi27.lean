/- Joined by mkmerged.py: OpSame1, OpSame2. -/
import Derived.Test.YtmlaolmaopjhbaaGreatDoorMi24
import Derived.Test.YtmlaolmaopjhbaaGreatDoorMi23
import Derived.Laws.StructEq
import Derived.BigQuiet
/- OpSame1, what a claim needs of it (prune.py). -/
namespace Go.Proofs.YtmlaolmaopjhbaaGreatDoor.Ops
open Go.RowKit
set_option linter.unusedVariables false
set_option maxRecDepth 100000
set_option maxHeartbeats 2000000 in
theorem eqF_any (A F : Option Addr) (l m : List Fl) (c d : Nat) (w : World) (hl : l.length ≤ 1000000000) (hm : m.length ≤ 1000000000) (hr : Fs.Fls w A l) (hq : Fs.Fls w F m) :
    Calls Tryz.prog 82 #[.slice A l.length c, .slice F m.length d] w fun e w' => e = .returned (.bool (decide (l = m))) ∧ Below w.heap.size w w' := by
  by_cases he : l.length = m.length
  · have i0 : ((l.length : Int) != (m.length : Int)) = false := by rw [he]; simp
    have RD := Lib.hid hr
    have RQ := Lib.hid hq
    have HE := Lib.hid he
    clear hr hq
    go_enter Tryz.func82, Tryz.ntmps82
    go_wp2_with (fail)
    go_loopw [13] (fun i wx => ∃ k : Nat, i = .int .i64 k ∧ k ≤ l.length ∧ Upto l m k ∧ Below w.heap.size w wx) (fun i _ => l.length - (intOf i).toNat)
    case atStart => exact ⟨0, rfl, by omega, fun j _ _ h => by omega, Below.refl _ _⟩
    case round =>
      obtain ⟨k, rfl, hk, hq, hb⟩ := hrel
      have HQ := Lib.hid hq
      clear hq
      by_cases hlt : k < l.length
      · have hltm : k < m.length := by omega
        obtain ⟨ad, rfl, had, c0, c1⟩ := Fs.Fls.at_ RD.out hlt
        obtain ⟨bd, rfl, hbd, d0, d1⟩ := Fs.Fls.at_ RQ.out hltm
        have e0 : ∀ w', Below w.heap.size w w' → w'.cell? (ad.add (k * 2)) = some (.string l[k].p) := fun w' h => (h.cell (by rw [block_of_add]; exact had)).trans c0
        have e1 : ∀ w', Below w.heap.size w w' → w'.cell? ⟨(ad.add (k * 2)).block, (ad.add (k * 2)).off + 1, none⟩ = some (.string l[k].d) := fun w' h => (h.cell (by show (ad.add (k * 2)).block < _; rw [block_of_add]; exact had)).trans c1
        have g0 : ∀ w', Below w.heap.size w w' → w'.cell? (bd.add (k * 2)) = some (.string m[k].p) := fun w' h => (h.cell (by rw [block_of_add]; exact hbd)).trans d0
        have g1 : ∀ w', Below w.heap.size w w' → w'.cell? ⟨(bd.add (k * 2)).block, (bd.add (k * 2)).off + 1, none⟩ = some (.string m[k].d) := fun w' h => (h.cell (by show (bd.add (k * 2)).block < _; rw [block_of_add]; exact hbd)).trans d1
        have hkI : (k : Int) < (l.length : Int) := by omega
        have hkM : (k : Int) < (m.length : Int) := by omega
        have x0 := e0 _ hb
        have x1 := e1 _ hb
        have y0 := g0 _ hb
        have y1 := g1 _ hb
        have NX := Lib.hid (fun h => Upto.next hlt hltm HQ.out h)
        have NE : Hid (l[k] ≠ m[k] → decide (l = m) = false) := Lib.hid fun h => decide_eq_false fun e => h (by subst e; rfl)
        clear c0 c1 d0 d1 e0 e1 g0 g1 he i0
        generalize l[k] = f at *
        generalize m[k] = g at *
        by_cases hp : f.p = g.p
        · by_cases hd : f.d = g.d
          · have F := Lib.hid (NX.out (by cases f; cases g; simp only at hp hd; rw [hp, hd]))
            rw [← hp] at y0
            rw [← hd] at y1
            clear hp hd NE NX
            go_wp2_with (fail)
            go_quiet (fail)
            go_wp2
            go_roundw
            case rel => exact ⟨k + 1, by go_num, by omega, F.out, belowDN hb _⟩
            case measure => simp [intOf]; omega
          · have F := Lib.hid (NE.out (fun e => hd (by rw [e])))
            have s1 := Lg.s_ne hd
            rw [← hp] at y0
            clear hp hd NE NX
            go_wp2_with (fail)
            go_quiet (fail)
            go_wp2
            go_ret
            exact ⟨Lg.ret_bool F.out, belowDN hb _⟩
        · have F := Lib.hid (NE.out (fun e => hp (by rw [e])))
          have s1 := Lg.s_ne hp
          clear hp NE NX
          go_wp2_with (fail)
          go_quiet (fail)
          go_wp2
          go_ret
          exact ⟨Lg.ret_bool F.out, belowDN hb _⟩
      · obtain rfl : k = l.length := by omega
        have F : Hid (decide (l = m) = true) := Lib.hid (decide_eq_true (Upto.all HE.out HQ.out))
        go_wp2_with (fail)
        go_ret
        exact ⟨Lg.ret_bool F.out, hb⟩
  · have i0 : ((l.length : Int) != (m.length : Int)) = true := by
      rw [bne_iff_ne]
      omega
    have F : Hid (decide (l = m) = false) := Lib.hid (decide_eq_false fun e => he (by rw [e]))
    clear he hr hq
    go_enter Tryz.func82, Tryz.ntmps82
    go_wp2_with (fail)
    go_ret
    exact ⟨Lg.ret_bool F.out, Below.refl _ _⟩
theorem rs_ext {r s : Rs} (h0 : r.e = s.e) (h1 : r.at_ = s.at_) (h2 : r.tx = s.tx) (h3 : r.fs = s.fs) : r = s := by cases r; cases s; simp only at h0 h1 h2 h3; rw [h0, h1, h2, h3]
set_option maxHeartbeats 2000000 in
theorem msame_any (r s : Rs) (A F : Option Addr) (c d : Nat) (w : World) (hl : r.fs.length ≤ 1000000000) (hm : s.fs.length ≤ 1000000000) (hr : Fs.Fls w A r.fs) (hq : Fs.Fls w F s.fs) :
    Calls Tryz.prog 83 #[resOf r A c, resOf s F d] w fun e w' => e = .returned (.bool (decide (r = s))) ∧ Below w.heap.size w w' := by
  obtain ⟨W2, eW⟩ : ∃ W2, W2 = (w.alloc (.cells #[.int .i64 r.e, .string r.at_, .string r.tx, .slice A r.fs.length c] 30)).alloc (.cells #[.int .i64 s.e, .string s.at_, .string s.tx, .slice F s.fs.length d] 30) := ⟨_, rfl⟩
  have hb2 : Below w.heap.size w W2 := by rw [eW]; exact ((Below.refl _ _).alloc (Nat.le_refl _) _).alloc (by simp) _
  have EQ := Lib.hid (fun (b : Bool) (hb : b = decide (r.fs = s.fs)) => (hb ▸ eqF_any A F r.fs s.fs c d W2 hl hm ((hr.below hb2).more hb2.size) ((hq.below hb2).more hb2.size) : Calls Tryz.prog 82 #[.slice A r.fs.length c, .slice F s.fs.length d] W2 fun e w' => e = .returned (.bool b) ∧ Below W2.heap.size W2 w'))
  have EX := Lib.hid (@rs_ext r s)
  have NE : Hid (r ≠ s → decide (r = s) = false) := Lib.hid fun h => decide_eq_false h
  have YE : Hid (r = s → decide (r = s) = true) := Lib.hid fun h => decide_eq_true h
  have P0 : Hid (r = s → r.e = s.e ∧ r.at_ = s.at_ ∧ r.tx = s.tx ∧ r.fs = s.fs) := Lib.hid fun h => by subst h; exact ⟨rfl, rfl, rfl, rfl⟩
  clear hr hq
  generalize decide (r = s) = v at *
  unfold resOf
  generalize r.e = a0 at *
  generalize r.at_ = a1 at *
  generalize r.tx = a2 at *
  generalize r.fs = a3 at *
  generalize s.e = b0 at *
  generalize s.at_ = b1 at *
  generalize s.tx = b2 at *
  generalize s.fs = b3 at *
  by_cases h0 : a0 = b0
  · by_cases h1 : a1 = b1
    · by_cases h2 : a2 = b2
      · by_cases h3 : a3 = b3
        · have Q := Lib.hid (EQ.out true (decide_eq_true h3).symm)
          have F := Lib.hid (YE.out (EX.out h0 h1 h2 h3))
          clear EQ EX NE YE P0 h3
          subst h0 h1 h2
          go_enter Tryz.func83, Tryz.ntmps83
          go_wp2_with (go_at_call 82; rw [← eW]; (with_reducible refine (Q.out).mono ?_); rintro e w1 ⟨rfl, hb1⟩)
          go_ret
          exact ⟨Lg.ret_bool F.out, hb2.trans (hb1.mono hb2.size)⟩
        · have Q := Lib.hid (EQ.out false (decide_eq_false h3).symm)
          have F := Lib.hid (NE.out (fun e => h3 (P0.out e).2.2.2))
          clear EQ EX NE YE P0 h3
          subst h0 h1 h2
          go_enter Tryz.func83, Tryz.ntmps83
          go_wp2_with (go_at_call 82; rw [← eW]; (with_reducible refine (Q.out).mono ?_); rintro e w1 ⟨rfl, hb1⟩)
          go_ret
          exact ⟨Lg.ret_bool F.out, hb2.trans (hb1.mono hb2.size)⟩
      · have F := Lib.hid (NE.out (fun e => h2 (P0.out e).2.2.1))
        have g := Lg.s_ne h2
        clear EQ EX NE YE P0 h2
        subst h0 h1
        go_enter Tryz.func83, Tryz.ntmps83
        go_wp2_with (fail)
        rw [← eW]
        go_ret
        exact ⟨Lg.ret_bool F.out, hb2⟩
    · have F := Lib.hid (NE.out (fun e => h1 (P0.out e).2.1))
      have g := Lg.s_ne h1
      clear EQ EX NE YE P0 h1
      subst h0
      go_enter Tryz.func83, Tryz.ntmps83
      go_wp2_with (fail)
      rw [← eW]
      go_ret
      exact ⟨Lg.ret_bool F.out, hb2⟩
  · have F := Lib.hid (NE.out (fun e => h0 (P0.out e).1))
    have g : (a0 == b0) = false := by simpa using h0
    clear EQ EX NE YE P0 h0
    go_enter Tryz.func83, Tryz.ntmps83
    go_wp2_with (fail)
    rw [← eW]
    go_ret
    exact ⟨Lg.ret_bool F.out, hb2⟩
theorem op_ext {x y : Op} (h0 : x.n = y.n) (h1 : x.go = y.go) (h2 : x.st = y.st) (h3 : x.gr = y.gr) (h4 : x.sn = y.sn) (h5 : x.r = y.r) : x = y := by cases x; cases y; simp only at h0 h1 h2 h3 h4 h5; rw [h0, h1, h2, h3, h4, h5]
theorem bytes_eq {l m : List Tg} (h1 : l.length ≤ 20) (h2 : ∀ t ∈ l, t.Ok) (k1 : m.length ≤ 20) (k2 : ∀ t ∈ m, t.Ok) (h : l ≠ m) : bs (Pk.list (l.map Tg.b)) ≠ bs (Pk.list (m.map Tg.b)) := fun e => h ((graph_inj h1 h2 k1 k2).1 e)
theorem at_put {W1 : World} {b : Nat} {cs : Array Value} {T : TypeId} (h : W1.heap[b]? = some (.cells cs T (0, 0))) (j : Nat) {u : Value} (hu : cs[j]? = some u) : ∀ w', Below W1.heap.size W1 w' → w'.cell? ⟨b, j, none⟩ = some u := fun w' hb => (cell_heap (heap_below hb (Lg.lt_heap h) h) j).trans hu
set_option maxHeartbeats 8000000 in
theorem osame1_any (x y : Op) (Ag : Option Addr) (cg : Nat) (Af : Option Addr) (cf : Nat) (Ar : Option Addr) (cr : Nat) (Eg : Option Addr) (eg : Nat) (Ef : Option Addr) (ef : Nat) (Er : Option Addr) (er : Nat) (w : World) (ht : Tab w) (hx : OkO x) (hy : OkO y) (hp : Parts w x Ag cg Af cf Ar cr) (hq : Parts w y Eg eg Ef ef Er er) {v : Bool} (hv : v = decide (x = y)) :
    Calls Tryz.prog 80 #[valOf x Ag cg Af cf Ar cr, valOf y Eg eg Ef ef Er er] w fun e w' => e = .returned (.bool v) ∧ Below w.heap.size w w' := by
  obtain ⟨W1, eW⟩ : ∃ W1, W1 = (w.alloc (.cells #[.string x.n, .slice Ag x.gr.length cg, .slice Af x.sn.length cf, .string x.go, .int .i64 x.st, .int .i64 x.r.e, .string x.r.at_, .string x.r.tx, .slice Ar x.r.fs.length cr] 32)).alloc (.cells #[.string y.n, .slice Eg y.gr.length eg, .slice Ef y.sn.length ef, .string y.go, .int .i64 y.st, .int .i64 y.r.e, .string y.r.at_, .string y.r.tx, .slice Er y.r.fs.length er] 32) := ⟨_, rfl⟩
  have hb1 : Below w.heap.size w W1 := by rw [eW]; exact ((Below.refl _ _).alloc (Nat.le_refl _) _).alloc (by simp) _
  have k0 : W1.heap[w.heap.size]? = some (.cells #[.string x.n, .slice Ag x.gr.length cg, .slice Af x.sn.length cf, .string x.go, .int .i64 x.st, .int .i64 x.r.e, .string x.r.at_, .string x.r.tx, .slice Ar x.r.fs.length cr] 32 (0, 0)) := by rw [eW]; exact Lg.heap_two
  have k1 : W1.heap[w.heap.size + 1]? = some (.cells #[.string y.n, .slice Eg y.gr.length eg, .slice Ef y.sn.length ef, .string y.go, .int .i64 y.st, .int .i64 y.r.e, .string y.r.at_, .string y.r.tx, .slice Er y.r.fs.length er] 32 (0, 0)) := by rw [eW]; exact heap_alloc2_new w _ _
  have BW : Hid (∀ W, Below W1.heap.size W1 W → Below w.heap.size w W) := Lib.hid fun W hW => hb1.trans (hW.mono hb1.size)
  have d0 := at_put k0 0 rfl
  have d1 := at_put k0 1 rfl
  have d2 := at_put k0 2 rfl
  have d3 := at_put k0 3 rfl
  have d4 := at_put k0 4 rfl
  have d5 := at_put k0 5 rfl
  have d6 := at_put k0 6 rfl
  have d7 := at_put k0 7 rfl
  have d8 := at_put k0 8 rfl
  have e0 := at_put k1 0 rfl
  have e1 := at_put k1 1 rfl
  have e2 := at_put k1 2 rfl
  have e3 := at_put k1 3 rfl
  have e4 := at_put k1 4 rfl
  have e5 := at_put k1 5 rfl
  have e6 := at_put k1 6 rfl
  have e7 := at_put k1 7 rfl
  have e8 := at_put k1 8 rfl
  have KG : Hid (∀ W, Below W1.heap.size W1 W → Calls Tryz.prog 81 #[.slice Ag x.gr.length cg] W fun e w' => e = .returned (.string (bs (Pk.list (x.gr.map Tg.b)))) ∧ Below W.heap.size W w') := Lib.hid fun W hW => kgraph_any Ag x.gr cg hx.gl hx.g W (ht.on (BW.out _ hW)) (hp.below (BW.out _ hW)).g
  have KH : Hid (∀ W, Below W1.heap.size W1 W → Calls Tryz.prog 81 #[.slice Eg y.gr.length eg] W fun e w' => e = .returned (.string (bs (Pk.list (y.gr.map Tg.b)))) ∧ Below W.heap.size W w') := Lib.hid fun W hW => kgraph_any Eg y.gr eg hy.gl hy.g W (ht.on (BW.out _ hW)) (hq.below (BW.out _ hW)).g
  have EQ : Hid (∀ b : Bool, b = decide (x.sn = y.sn) → ∀ W, Below W1.heap.size W1 W → Calls Tryz.prog 82 #[.slice Af x.sn.length cf, .slice Ef y.sn.length ef] W fun e w' => e = .returned (.bool b) ∧ Below W.heap.size W w') := Lib.hid fun b hb W hW => by
    rw [hb]; exact eqF_any Af Ef x.sn y.sn cf ef W (by have := hx.fl; omega) (by have := hy.fl; omega) (hp.below (BW.out _ hW)).f (hq.below (BW.out _ hW)).f
  have MS : Hid (∀ b : Bool, b = decide (x.r = y.r) → ∀ W, Below W1.heap.size W1 W → Calls Tryz.prog 83 #[.agg #[.int .i64 x.r.e, .string x.r.at_, .string x.r.tx, .slice Ar x.r.fs.length cr], .agg #[.int .i64 y.r.e, .string y.r.at_, .string y.r.tx, .slice Er y.r.fs.length er]] W fun e w' => e = .returned (.bool b) ∧ Below W.heap.size W w') := Lib.hid fun b hb W hW => by
    rw [hb]; exact msame_any x.r y.r Ar Er cr er W (by have := hx.rl; omega) (by have := hy.rl; omega) (hp.below (BW.out _ hW)).r (hq.below (BW.out _ hW)).r
  have BE : Hid (x.gr ≠ y.gr → bs (Pk.list (x.gr.map Tg.b)) ≠ bs (Pk.list (y.gr.map Tg.b))) := Lib.hid (bytes_eq hx.gl hx.g hy.gl hy.g)
  have BQ : Hid (x.gr = y.gr → bs (Pk.list (x.gr.map Tg.b)) = bs (Pk.list (y.gr.map Tg.b))) := Lib.hid (fun h => by rw [h])
  have EX := Lib.hid (@op_ext x y)
  have YE : Hid (x = y → v = true) := Lib.hid fun h => by rw [hv]; exact decide_eq_true h
  have NE : Hid (x ≠ y → v = false) := Lib.hid fun h => by rw [hv]; exact decide_eq_false h
  clear hv hp hq hx hy ht k0 k1 hb1
  generalize bs (Pk.list (x.gr.map Tg.b)) = gx at *
  generalize bs (Pk.list (y.gr.map Tg.b)) = gy at *
  unfold valOf
  by_cases h0 : x.n = y.n
  · by_cases h1 : x.go = y.go
    · by_cases h2 : x.st = y.st
      · by_cases h3 : x.gr = y.gr
        · by_cases h4 : x.sn = y.sn
          · by_cases h5 : x.r = y.r
            · have F := Lib.hid (YE.out (EX.out h0 h1 h2 h3 h4 h5))
              have f0 : (x.n.toList == y.n.toList) = true := by rw [h0]; simp
              have f1 : (x.go.toList == y.go.toList) = true := by rw [h1]; simp
              have f2 : (x.st == y.st) = true := by rw [h2]; simp
              have f3 : (gx.toList == gy.toList) = true := by rw [BQ.out h3]; simp
              have E1 := Lib.hid (EQ.out true (decide_eq_true h4).symm)
              have M1 := Lib.hid (MS.out true (decide_eq_true h5).symm)
              clear YE NE EX EQ MS BE BQ h0 h1 h2 h3 h4 h5
              go_enter Tryz.func80, Tryz.ntmps80
              go_wp2_with (fail)
              rw [← eW]
              clear eW
              refine wp_region_cls (C := fun w' => Below W1.heap.size W1 w') (by kernel_rfl) (by kernel_rfl) (Below.refl _ _).drew ?_
              repeat (first | go_big_quiet_skip | quiet_step (first | (intro _; rfl) | (intro hss; simp only [d0 _ hss, d1 _ hss, d2 _ hss, d3 _ hss, d4 _ hss, d5 _ hss, d6 _ hss, d7 _ hss, d8 _ hss, e0 _ hss, e1 _ hss, e2 _ hss, e3 _ hss, e4 _ hss, e5 _ hss, e6 _ hss, e7 _ hss, e8 _ hss, Result.andThen]; first | exact ⟨rfl, rfl⟩ | exact ⟨trivial, rfl⟩ | exact rfl) | (intro hss; go_at_call 81; first | ((with_reducible refine (KG.out _ hss).mono ?_); rintro e w4 ⟨rfl, hb4⟩; exact ⟨rfl, hss.trans (hb4.mono hss.size)⟩) | ((with_reducible refine (KH.out _ hss).mono ?_); rintro e w4 ⟨rfl, hb4⟩; exact ⟨rfl, hss.trans (hb4.mono hss.size)⟩)) | (intro hss; go_at_call 82; (with_reducible refine (E1.out _ hss).mono ?_); rintro e w4 ⟨rfl, hb4⟩; exact ⟨rfl, hss.trans (hb4.mono hss.size)⟩) | (intro hss; go_at_call 83; (with_reducible refine (M1.out _ hss).mono ?_); rintro e w4 ⟨rfl, hb4⟩; exact ⟨rfl, hss.trans (hb4.mono hss.size)⟩) | (fail)))
              refine wpQuiet_nil ?_
              intro w2 hb2
              go_wp2
              go_ret
              exact ⟨Lg.ret_bool F.out, BW.out _ hb2⟩
            · have F := Lib.hid (NE.out (fun e => h5 (by rw [e])))
              have f0 : (x.n.toList == y.n.toList) = true := by rw [h0]; simp
              have f1 : (x.go.toList == y.go.toList) = true := by rw [h1]; simp
              have f2 : (x.st == y.st) = true := by rw [h2]; simp
              have f3 : (gx.toList == gy.toList) = true := by rw [BQ.out h3]; simp
              have E1 := Lib.hid (EQ.out true (decide_eq_true h4).symm)
              have M1 := Lib.hid (MS.out false (decide_eq_false h5).symm)
              clear YE NE EX EQ MS BE BQ h0 h1 h2 h3 h4 h5
              go_enter Tryz.func80, Tryz.ntmps80
              go_wp2_with (fail)
              rw [← eW]
              clear eW
              refine wp_region_cls (C := fun w' => Below W1.heap.size W1 w') (by kernel_rfl) (by kernel_rfl) (Below.refl _ _).drew ?_
              repeat (first | go_big_quiet_skip | quiet_step (first | (intro _; rfl) | (intro hss; simp only [d0 _ hss, d1 _ hss, d2 _ hss, d3 _ hss, d4 _ hss, d5 _ hss, d6 _ hss, d7 _ hss, d8 _ hss, e0 _ hss, e1 _ hss, e2 _ hss, e3 _ hss, e4 _ hss, e5 _ hss, e6 _ hss, e7 _ hss, e8 _ hss, Result.andThen]; first | exact ⟨rfl, rfl⟩ | exact ⟨trivial, rfl⟩ | exact rfl) | (intro hss; go_at_call 81; first | ((with_reducible refine (KG.out _ hss).mono ?_); rintro e w4 ⟨rfl, hb4⟩; exact ⟨rfl, hss.trans (hb4.mono hss.size)⟩) | ((with_reducible refine (KH.out _ hss).mono ?_); rintro e w4 ⟨rfl, hb4⟩; exact ⟨rfl, hss.trans (hb4.mono hss.size)⟩)) | (intro hss; go_at_call 82; (with_reducible refine (E1.out _ hss).mono ?_); rintro e w4 ⟨rfl, hb4⟩; exact ⟨rfl, hss.trans (hb4.mono hss.size)⟩) | (intro hss; go_at_call 83; (with_reducible refine (M1.out _ hss).mono ?_); rintro e w4 ⟨rfl, hb4⟩; exact ⟨rfl, hss.trans (hb4.mono hss.size)⟩) | (fail)))
              refine wpQuiet_nil ?_
              intro w2 hb2
              go_wp2
              go_ret
              exact ⟨Lg.ret_bool F.out, BW.out _ hb2⟩
          · have F := Lib.hid (NE.out (fun e => h4 (by rw [e])))
            have f0 : (x.n.toList == y.n.toList) = true := by rw [h0]; simp
            have f1 : (x.go.toList == y.go.toList) = true := by rw [h1]; simp
            have f2 : (x.st == y.st) = true := by rw [h2]; simp
            have f3 : (gx.toList == gy.toList) = true := by rw [BQ.out h3]; simp
            have E1 := Lib.hid (EQ.out false (decide_eq_false h4).symm)
            clear YE NE EX EQ MS BE BQ h0 h1 h2 h3 h4
            go_enter Tryz.func80, Tryz.ntmps80
            go_wp2_with (fail)
            rw [← eW]
            clear eW
            refine wp_region_cls (C := fun w' => Below W1.heap.size W1 w') (by kernel_rfl) (by kernel_rfl) (Below.refl _ _).drew ?_
            repeat (first | go_big_quiet_skip | quiet_step (first | (intro _; rfl) | (intro hss; simp only [d0 _ hss, d1 _ hss, d2 _ hss, d3 _ hss, d4 _ hss, e0 _ hss, e1 _ hss, e2 _ hss, e3 _ hss, e4 _ hss, Result.andThen]; first | exact ⟨rfl, rfl⟩ | exact ⟨trivial, rfl⟩ | exact rfl) | (intro hss; go_at_call 81; first | ((with_reducible refine (KG.out _ hss).mono ?_); rintro e w4 ⟨rfl, hb4⟩; exact ⟨rfl, hss.trans (hb4.mono hss.size)⟩) | ((with_reducible refine (KH.out _ hss).mono ?_); rintro e w4 ⟨rfl, hb4⟩; exact ⟨rfl, hss.trans (hb4.mono hss.size)⟩)) | (intro hss; go_at_call 82; (with_reducible refine (E1.out _ hss).mono ?_); rintro e w4 ⟨rfl, hb4⟩; exact ⟨rfl, hss.trans (hb4.mono hss.size)⟩) | (fail)))
            refine wpQuiet_nil ?_
            intro w2 hb2
            go_wp2
            go_ret
            exact ⟨Lg.ret_bool F.out, BW.out _ hb2⟩
        · have F := Lib.hid (NE.out (fun e => h3 (by rw [e])))
          have f0 : (x.n.toList == y.n.toList) = true := by rw [h0]; simp
          have f1 : (x.go.toList == y.go.toList) = true := by rw [h1]; simp
          have f2 : (x.st == y.st) = true := by rw [h2]; simp
          have f3 := Lg.s_ne (BE.out h3)
          clear YE NE EX EQ MS BE BQ h0 h1 h2 h3
          go_enter Tryz.func80, Tryz.ntmps80
          go_wp2_with (fail)
          rw [← eW]
          clear eW
          refine wp_region_cls (C := fun w' => Below W1.heap.size W1 w') (by kernel_rfl) (by kernel_rfl) (Below.refl _ _).drew ?_
          repeat (first | go_big_quiet_skip | quiet_step (first | (intro _; rfl) | (intro hss; simp only [d0 _ hss, d1 _ hss, d3 _ hss, d4 _ hss, e0 _ hss, e1 _ hss, e3 _ hss, e4 _ hss, Result.andThen]; first | exact ⟨rfl, rfl⟩ | exact ⟨trivial, rfl⟩ | exact rfl) | (intro hss; go_at_call 81; first | ((with_reducible refine (KG.out _ hss).mono ?_); rintro e w4 ⟨rfl, hb4⟩; exact ⟨rfl, hss.trans (hb4.mono hss.size)⟩) | ((with_reducible refine (KH.out _ hss).mono ?_); rintro e w4 ⟨rfl, hb4⟩; exact ⟨rfl, hss.trans (hb4.mono hss.size)⟩)) | (fail)))
          refine wpQuiet_nil ?_
          intro w2 hb2
          go_wp2
          go_ret
          exact ⟨Lg.ret_bool F.out, BW.out _ hb2⟩
      · have F := Lib.hid (NE.out (fun e => h2 (by rw [e])))
        have f0 : (x.n.toList == y.n.toList) = true := by rw [h0]; simp
        have f1 : (x.go.toList == y.go.toList) = true := by rw [h1]; simp
        have f2 : (x.st == y.st) = false := by simpa using h2
        clear YE NE EX EQ MS BE BQ h0 h1 h2
        go_enter Tryz.func80, Tryz.ntmps80
        go_wp2_with (fail)
        rw [← eW]
        clear eW
        refine wp_region_cls (C := fun w' => Below W1.heap.size W1 w') (by kernel_rfl) (by kernel_rfl) (Below.refl _ _).drew ?_
        repeat (first | go_big_quiet_skip | quiet_step (first | (intro _; rfl) | (intro hss; simp only [d0 _ hss, d3 _ hss, d4 _ hss, e0 _ hss, e3 _ hss, e4 _ hss, Result.andThen]; first | exact ⟨rfl, rfl⟩ | exact ⟨trivial, rfl⟩ | exact rfl) | (fail)))
        refine wpQuiet_nil ?_
        intro w2 hb2
        go_wp2
        go_ret
        exact ⟨Lg.ret_bool F.out, BW.out _ hb2⟩
    · have F := Lib.hid (NE.out (fun e => h1 (by rw [e])))
      have f0 : (x.n.toList == y.n.toList) = true := by rw [h0]; simp
      have f1 := Lg.s_ne h1
      clear YE NE EX EQ MS BE BQ h0 h1
      go_enter Tryz.func80, Tryz.ntmps80
      go_wp2_with (fail)
      rw [← eW]
      clear eW
      refine wp_region_cls (C := fun w' => Below W1.heap.size W1 w') (by kernel_rfl) (by kernel_rfl) (Below.refl _ _).drew ?_
      repeat (first | go_big_quiet_skip | quiet_step (first | (intro _; rfl) | (intro hss; simp only [d0 _ hss, d3 _ hss, e0 _ hss, e3 _ hss, Result.andThen]; first | exact ⟨rfl, rfl⟩ | exact ⟨trivial, rfl⟩ | exact rfl) | (fail)))
      refine wpQuiet_nil ?_
      intro w2 hb2
      go_wp2
      go_ret
      exact ⟨Lg.ret_bool F.out, BW.out _ hb2⟩
  · have F := Lib.hid (NE.out (fun e => h0 (by rw [e])))
    have f0 := Lg.s_ne h0
    clear YE NE EX EQ MS BE BQ h0
    go_enter Tryz.func80, Tryz.ntmps80
    go_wp2_with (fail)
    rw [← eW]
    clear eW
    refine wp_region_cls (C := fun w' => Below W1.heap.size W1 w') (by kernel_rfl) (by kernel_rfl) (Below.refl _ _).drew ?_
    repeat (first | go_big_quiet_skip | quiet_step (first | (intro _; rfl) | (intro hss; simp only [d0 _ hss, e0 _ hss, Result.andThen]; first | exact ⟨rfl, rfl⟩ | exact ⟨trivial, rfl⟩ | exact rfl) | (fail)))
    refine wpQuiet_nil ?_
    intro w2 hb2
    go_wp2
    go_ret
    exact ⟨Lg.ret_bool F.out, BW.out _ hb2⟩
end Go.Proofs.YtmlaolmaopjhbaaGreatDoor.Ops
/- OpSame2, what a claim needs of it (prune.py). -/
namespace Go.Proofs.YtmlaolmaopjhbaaGreatDoor.Ops
open Go.RowKit
set_option linter.unusedVariables false
set_option maxRecDepth 100000
set_option maxHeartbeats 8000000 in
theorem equalO_any (A F : Option Addr) (l m : List Op) (c d : Nat) (w : World) (ht : Tab w) (hl : l.length ≤ 1000000000) (hm : m.length ≤ 1000000000) (hx : ∀ x ∈ l, OkO x) (hy : ∀ x ∈ m, OkO x) (hr : Ops w A l) (hq : Ops w F m) {v : Bool} (hv : v = decide (l = m)) :
    Calls Tryz.prog 79 #[.slice A l.length c, .slice F m.length d, .func (.func 80) #[] #[]] w fun e w' => e = .returned (.bool v) ∧ Below w.heap.size w w' := by
  have YES : Hid (l.length = m.length → Upto l m l.length → v = true) := Lib.hid fun h h1 => by rw [hv]; exact decide_eq_true (h1.all h)
  have NE : Hid (l ≠ m → v = false) := Lib.hid fun h => by rw [hv]; exact decide_eq_false h
  have HR := Lib.hid hr
  have HQ := Lib.hid hq
  have HX := Lib.hid hx
  have HY := Lib.hid hy
  have TB : Hid (∀ W, Below w.heap.size w W → Tab W) := Lib.hid fun W hW => ht.on hW
  clear hv hr hq hx hy ht
  by_cases he : l.length = m.length
  · have i0 : ((l.length : Int) != (m.length : Int)) = false := by rw [he]; simp
    have HE := Lib.hid he
    go_enter Tryz.func79, Tryz.ntmps79
    go_wp2_with (fail)
    go_loopw [17] (fun i wx => ∃ k : Nat, i = .int .i64 k ∧ k ≤ l.length ∧ Upto l m k ∧ Below w.heap.size w wx) (fun i _ => l.length - (intOf i).toNat)
    case atStart => exact ⟨0, rfl, by omega, Upto.zero _ _, Below.refl _ _⟩
    case round =>
      obtain ⟨k, rfl, hk, hup, hbx⟩ := hrel
      have UP := Lib.hid hup
      clear hup
      by_cases hlt : k < l.length
      · have hltm : k < m.length := by omega
        obtain ⟨ad, Ag, cg, Af, cf, Ar, cr, rfl, had, hps, c0, c1, c2, c3, c4, c5, c6, c7, c8⟩ := (HR.out.below hbx).nine_at hlt
        obtain ⟨bd, Eg, eg, Ef, ef, Er, er, rfl, hbd, hqs, b0, b1, b2, b3, b4, b5, b6, b7, b8⟩ := (HQ.out.below hbx).nine_at hltm
        have hkI : (k : Int) < (l.length : Int) := by omega
        have hkM : (k : Int) < (m.length : Int) := by omega
        have hk9 : (bd.add (k * 9)).block < wr.heap.size := by rw [block_of_add]; exact hbd
        have NX := Lib.hid (fun h => Upto.next hlt hltm UP.out h)
        have NN := Lib.hid (fun h => NE.out (Upto.ne hlt hltm h))
        obtain ⟨W2, eW⟩ : ∃ W2, W2 = (wr.alloc (.cells #[.string l[k].n, .slice Ag l[k].gr.length cg, .slice Af l[k].sn.length cf, .string l[k].go, .int .i64 l[k].st, .int .i64 l[k].r.e, .string l[k].r.at_, .string l[k].r.tx, .slice Ar l[k].r.fs.length cr] 32)).alloc (.cells #[.string m[k].n, .slice Eg m[k].gr.length eg, .slice Ef m[k].sn.length ef, .string m[k].go, .int .i64 m[k].st, .int .i64 m[k].r.e, .string m[k].r.at_, .string m[k].r.tx, .slice Er m[k].r.fs.length er] 32) := ⟨_, rfl⟩
        have hbw : Below wr.heap.size wr W2 := by rw [eW]; exact ((Below.refl _ _).alloc (Nat.le_refl _) _).alloc (by simp) _
        have B2 := Lib.hid (hbx.trans (hbw.mono hbx.size))
        have SM := Lib.hid (fun (b : Bool) (hb : b = decide (l[k] = m[k])) => osame1_any l[k] m[k] Ag cg Af cf Ar cr Eg eg Ef ef Er er W2 (TB.out _ B2.out) (HX.out _ (List.getElem_mem hlt)) (HY.out _ (List.getElem_mem hltm)) (hps.below hbw) (hqs.below hbw) hb)
        unfold valOf at SM
        have a0 : ∀ o, (wr.alloc o).cell? (bd.add (k * 9)) = some (.string m[k].n) := fun o => (World.cell?_alloc_lt wr o _ hk9).trans b0
        have a1 : ∀ o, (wr.alloc o).cell? ⟨(bd.add (k * 9)).block, (bd.add (k * 9)).off + 1, none⟩ = some (.slice Eg m[k].gr.length eg) := fun o => (World.cell?_alloc_lt wr o ⟨(bd.add (k * 9)).block, (bd.add (k * 9)).off + 1, none⟩ hk9).trans b1
        have a2 : ∀ o, (wr.alloc o).cell? ⟨(bd.add (k * 9)).block, (bd.add (k * 9)).off + 2, none⟩ = some (.slice Ef m[k].sn.length ef) := fun o => (World.cell?_alloc_lt wr o ⟨(bd.add (k * 9)).block, (bd.add (k * 9)).off + 2, none⟩ hk9).trans b2
        have a3 : ∀ o, (wr.alloc o).cell? ⟨(bd.add (k * 9)).block, (bd.add (k * 9)).off + 3, none⟩ = some (.string m[k].go) := fun o => (World.cell?_alloc_lt wr o ⟨(bd.add (k * 9)).block, (bd.add (k * 9)).off + 3, none⟩ hk9).trans b3
        have a4 : ∀ o, (wr.alloc o).cell? ⟨(bd.add (k * 9)).block, (bd.add (k * 9)).off + 4, none⟩ = some (.int .i64 m[k].st) := fun o => (World.cell?_alloc_lt wr o ⟨(bd.add (k * 9)).block, (bd.add (k * 9)).off + 4, none⟩ hk9).trans b4
        have a5 : ∀ o, (wr.alloc o).cell? ⟨(bd.add (k * 9)).block, (bd.add (k * 9)).off + 5, none⟩ = some (.int .i64 m[k].r.e) := fun o => (World.cell?_alloc_lt wr o ⟨(bd.add (k * 9)).block, (bd.add (k * 9)).off + 5, none⟩ hk9).trans b5
        have a6 : ∀ o, (wr.alloc o).cell? ⟨(bd.add (k * 9)).block, (bd.add (k * 9)).off + 6, none⟩ = some (.string m[k].r.at_) := fun o => (World.cell?_alloc_lt wr o ⟨(bd.add (k * 9)).block, (bd.add (k * 9)).off + 6, none⟩ hk9).trans b6
        have a7 : ∀ o, (wr.alloc o).cell? ⟨(bd.add (k * 9)).block, (bd.add (k * 9)).off + 7, none⟩ = some (.string m[k].r.tx) := fun o => (World.cell?_alloc_lt wr o ⟨(bd.add (k * 9)).block, (bd.add (k * 9)).off + 7, none⟩ hk9).trans b7
        have a8 : ∀ o, (wr.alloc o).cell? ⟨(bd.add (k * 9)).block, (bd.add (k * 9)).off + 8, none⟩ = some (.slice Er m[k].r.fs.length er) := fun o => (World.cell?_alloc_lt wr o ⟨(bd.add (k * 9)).block, (bd.add (k * 9)).off + 8, none⟩ hk9).trans b8
        clear hps hqs he i0 hbw
        generalize l[k] = x at *
        generalize m[k] = y at *
        by_cases h : x = y
        · have S1 := Lib.hid (SM.out true (decide_eq_true h).symm)
          have F := Lib.hid (NX.out h)
          clear SM NX NN h
          go_wp2_with (go_at_call 80; rw [← eW]; clear eW; (with_reducible refine (S1.out).mono ?_); rintro e w1 ⟨rfl, hb1⟩)
          go_roundw
          case rel => exact ⟨k + 1, by go_num, by omega, F.out, B2.out.trans (hb1.mono B2.out.size)⟩
          case measure => simp [intOf]; omega
        · have S1 := Lib.hid (SM.out false (decide_eq_false h).symm)
          have F := Lib.hid (NN.out h)
          clear SM NX NN h
          go_wp2_with (go_at_call 80; rw [← eW]; clear eW; (with_reducible refine (S1.out).mono ?_); rintro e w1 ⟨rfl, hb1⟩)
          go_ret
          exact ⟨Lg.ret_bool F.out, B2.out.trans (hb1.mono B2.out.size)⟩
      · obtain rfl : k = l.length := by omega
        have F := Lib.hid (YES.out HE.out UP.out)
        go_wp2_with (fail)
        go_ret
        exact ⟨Lg.ret_bool F.out, hbx⟩
  · have i0 : ((l.length : Int) != (m.length : Int)) = true := by rw [bne_iff_ne]; omega
    have F := Lib.hid (NE.out (fun e => he (by rw [e])))
    go_enter Tryz.func79, Tryz.ntmps79
    go_wp2_with (fail)
    go_ret
    exact ⟨Lg.ret_bool F.out, Below.refl _ _⟩
theorem osame_any (A F : Option Addr) (l m : List Op) (c d : Nat) (w : World) (ht : Tab w) (hl : l.length ≤ 1000000000) (hm : m.length ≤ 1000000000) (hx : ∀ x ∈ l, OkO x) (hy : ∀ x ∈ m, OkO x) (hr : Ops w A l) (hq : Ops w F m) {v : Bool} (hv : v = decide (l = m)) :
    Calls Tryz.prog 30 #[.slice A l.length c, .slice F m.length d] w fun e w' => e = .returned (.bool v) ∧ Below w.heap.size w w' := by
  have EQ := Lib.hid (equalO_any A F l m c d w ht hl hm hx hy hr hq hv)
  clear ht hx hy hr hq hv
  go_enter Tryz.func30, Tryz.ntmps30
  go_wp2_with (go_at_call 79; (with_reducible refine (EQ.out).mono ?_); rintro e w1 ⟨rfl, hb1⟩)
  go_ret
  exact ⟨rfl, hb1⟩
end Go.Proofs.YtmlaolmaopjhbaaGreatDoor.Ops
