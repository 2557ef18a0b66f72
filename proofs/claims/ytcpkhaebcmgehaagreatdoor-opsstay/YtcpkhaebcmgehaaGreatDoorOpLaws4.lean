/- The walk of OpsStay; printed by mkoplaws4.py. -/
import Derived.Test.YtcpkhaebcmgehaaGreatDoorMa32
namespace Go.Proofs.YtcpkhaebcmgehaaGreatDoor.Ops
open Go.RowKit
set_option linter.unusedVariables false
set_option maxRecDepth 100000
theorem ten {w : World} {g : Nat} {a0 a1 a2 a3 a4 a5 a6 a7 a8 a9 : Value} {T : TypeId} (h : w.heap[g]? = some (.cells #[a0, a1, a2, a3, a4, a5, a6, a7, a8, a9] T (0, 0))) :
    w.cell? ⟨g, 0, none⟩ = some a0 ∧ w.cell? ⟨g, 1, none⟩ = some a1 ∧ w.cell? ⟨g, 2, none⟩ = some a2 ∧ w.cell? ⟨g, 3, none⟩ = some a3 ∧ w.cell? ⟨g, 4, none⟩ = some a4 ∧ w.cell? ⟨g, 5, none⟩ = some a5 ∧ w.cell? ⟨g, 6, none⟩ = some a6 ∧ w.cell? ⟨g, 7, none⟩ = some a7 ∧ w.cell? ⟨g, 8, none⟩ = some a8 ∧ w.cell? ⟨g, 9, none⟩ = some a9 :=
  ⟨cell_of_row w g 0 _ _ _ h, cell_of_row w g 1 _ _ _ h, cell_of_row w g 2 _ _ _ h, cell_of_row w g 3 _ _ _ h, cell_of_row w g 4 _ _ _ h, cell_of_row w g 5 _ _ _ h, cell_of_row w g 6 _ _ _ h, cell_of_row w g 7 _ _ _ h, cell_of_row w g 8 _ _ _ h, cell_of_row w g 9 _ _ _ h⟩
/-- two rows of one operation each, the same -/
theorem osame_one {wB : World} {x : Op} {Og : Option Addr} {og : Nat} {Of : Option Addr} {of : Nat} {Or : Option Addr} {or_ : Nat} {Qg : Option Addr} {qg : Nat} {Qf : Option Addr} {qf : Nat} {Qr : Option Addr} {qr : Nat} (hE : Lg.Env wB) (hx : OkO x) (hp : Parts wB x Og og Of of Or or_) (hq : Parts wB x Qg qg Qf qf Qr qr) :
    Calls Tryz.prog 26 #[.slice (some ⟨wB.heap.size, 0, none⟩) 1 1, .slice (some ⟨wB.heap.size + 1, 0, none⟩) 1 1] ((wB.alloc (.cells #[.string x.n, .slice Og x.gr.length og, .slice Of x.sn.length of, .string x.go, .int .i64 x.st, .int .i64 x.r.e, .string x.r.at_, .string x.r.tx, .slice Or x.r.fs.length or_] 38)).alloc (.cells #[.string x.n, .slice Qg x.gr.length qg, .slice Qf x.sn.length qf, .string x.go, .int .i64 x.st, .int .i64 x.r.e, .string x.r.at_, .string x.r.tx, .slice Qr x.r.fs.length qr] 38)) fun e w' => e = .returned (.bool true) ∧ Below wB.heap.size wB w' := by
  have hb : Below wB.heap.size wB ((wB.alloc (.cells #[.string x.n, .slice Og x.gr.length og, .slice Of x.sn.length of, .string x.go, .int .i64 x.st, .int .i64 x.r.e, .string x.r.at_, .string x.r.tx, .slice Or x.r.fs.length or_] 38)).alloc (.cells #[.string x.n, .slice Qg x.gr.length qg, .slice Qf x.sn.length qf, .string x.go, .int .i64 x.st, .int .i64 x.r.e, .string x.r.at_, .string x.r.tx, .slice Qr x.r.fs.length qr] 38)) := ((Below.refl _ _).alloc (Nat.le_refl _) _).alloc (by simp) _
  have hm : ∀ y ∈ [x], OkO y := fun y hy => by rw [List.mem_singleton.1 hy]; exact hx
  refine (osame_any _ _ [x] [x] 1 1 _ (hE.below hb).2.1 (by simp) (by simp) hm hm (ops_blk Lg.heap_two (hp.below hb)) (ops_blk (heap_alloc2_new wB _ _) (hq.below hb)) (v := true) (by simp)).mono ?_
  rintro e w' ⟨h1, h2⟩
  exact ⟨h1, hb.trans (h2.mono hb.size)⟩
set_option maxHeartbeats 16000000 in
theorem stay_walk (A : Option Addr) (es : List Ev) (c : Nat) (w : World) (hE : Lg.Env w) (hr : Evs w A es) (hm : es.length ≤ maxLen) (hz : ∀ e ∈ es, FitO e.x ∧ -9223372036854775808 ≤ e.k ∧ e.k ≤ 9223372036854775807) :
    Calls Tryz.prog 8 #[.slice A es.length c] w (Yes w) := by
  have AW : Hid (∀ W, Below w.heap.size w W → Calls Tryz.prog 20 #[] W fun e w' => e = .returned (.bool true) ∧ Below W.heap.size W w') := Lib.hid fun W hW => awake_any W (hE.below hW)
  have EN := Lib.hid (fun W (h : Below w.heap.size w W) => hE.below h)
  have HR := Lib.hid hr
  have HZ := Lib.hid hz
  unfold maxLen at hm
  clear hr hz hE
  go_enter Tryz.func8, Tryz.ntmps8
  go_wp2_with (fail)
  go_loopw [3, 4] (fun v i wx => ∃ (k : Nat) (l : List Op) (B : Option Addr) (d : Nat), i = .int .i64 k ∧ k ≤ es.length ∧ v = .slice B l.length d ∧ l.length ≤ d ∧ Ops wx B l ∧ Made l ∧ (∀ y ∈ l, OkO y) ∧ Below w.heap.size w wx) (fun _ i _ => es.length - (intOf i).toNat)
  case atStart => exact ⟨0, [], none, 0, rfl, by omega, rfl, Nat.le_refl _, Ops.none_, Made.nil, (fun y hy => by cases hy), Below.refl _ _⟩
  case round =>
    obtain ⟨k, l, B, d, rfl, hk, rfl, hld, hol, hml, hkl, hbx⟩ := hrel
    have HO := Lib.hid hol
    have HM := Lib.hid hml
    have HK := Lib.hid hkl
    have HB := Lib.hid hbx
    have hn16 := hml.len
    clear hol hml hkl hbx
    by_cases h1 : k < es.length
    · have hkI : (k : Int) < (es.length : Int) := by omega
      have hkd : decide ((k : Int) < (es.length : Int)) = true := decide_eq_true hkI
      by_cases h2 : k < 60
      · have h60 : decide ((k : Int) < 60) = true := decide_eq_true (by omega)
        obtain ⟨ad, Ag, cg, Af, cf, Ar, cr, rfl, had, hps, c0, c1, c2, c3, c4, c5, c6, c7, c8, c9⟩ := (HR.out.below HB.out).ten_at h1
        have hzz := (HZ.out _ (List.getElem_mem h1)).1
        generalize es[k] = ev at *
        obtain ⟨W1, eW⟩ : ∃ W1, W1 = wr.alloc (.cells #[.int .i64 ev.k, .string ev.x.n, .slice Ag ev.x.gr.length cg, .slice Af ev.x.sn.length cf, .string ev.x.go, .int .i64 ev.x.st, .int .i64 ev.x.r.e, .string ev.x.r.at_, .string ev.x.r.tx, .slice Ar ev.x.r.fs.length cr] 40) := ⟨_, rfl⟩
        have hb1 : Below wr.heap.size wr W1 := by rw [eW]; exact (Below.refl _ _).alloc (Nat.le_refl _) _
        have k1 : W1.heap[wr.heap.size]? = some (.cells #[.int .i64 ev.k, .string ev.x.n, .slice Ag ev.x.gr.length cg, .slice Af ev.x.sn.length cf, .string ev.x.go, .int .i64 ev.x.st, .int .i64 ev.x.r.e, .string ev.x.r.at_, .string ev.x.r.tx, .slice Ar ev.x.r.fs.length cr] 40 (0, 0)) := by rw [eW]; exact heap_alloc_new wr _
        have KE : Hid (∀ W, Below W1.heap.size W1 W → W.heap[wr.heap.size]? = some (.cells #[.int .i64 ev.k, .string ev.x.n, .slice Ag ev.x.gr.length cg, .slice Af ev.x.sn.length cf, .string ev.x.go, .int .i64 ev.x.st, .int .i64 ev.x.r.e, .string ev.x.r.at_, .string ev.x.r.tx, .slice Ar ev.x.r.fs.length cr] 40 (0, 0))) := Lib.hid fun W hW => (hW.block _ (Lg.lt_heap k1)).trans k1
        have BW : Hid (∀ W, Below W1.heap.size W1 W → Below wr.heap.size wr W) := Lib.hid fun W hW => hb1.trans (hW.mono hb1.size)
        have BB : Hid (∀ W, Below W1.heap.size W1 W → Below w.heap.size w W) := Lib.hid fun W hW => HB.out.trans ((BW.out _ hW).mono HB.out.size)
        have hsz1 : W1.heap.size = wr.heap.size + 1 := by rw [eW]; simp
        have FX : Hid (∀ b : Bool, (b = true ↔ OkO ev.x) → Calls Tryz.prog 19 #[.slice (some ⟨wr.heap.size + 1, 0, none⟩) 1 1] (W1.alloc (.cells #[.string ev.x.n, .slice Ag ev.x.gr.length cg, .slice Af ev.x.sn.length cf, .string ev.x.go, .int .i64 ev.x.st, .int .i64 ev.x.r.e, .string ev.x.r.at_, .string ev.x.r.tx, .slice Ar ev.x.r.fs.length cr] 38)) fun e w' => e = .returned (.bool b) ∧ Below W1.heap.size W1 w') := Lib.hid fun b hb => by
          have h := few_new hps hzz (BW.out _ (Below.refl _ _)) hb
          rw [show (some ⟨wr.heap.size + 1, 0, none⟩ : Option Addr) = some ⟨W1.heap.size, 0, none⟩ by rw [hsz1]]
          exact h
        obtain ⟨m, f, hs⟩ : ∃ m f, apply wrongV orderB l ev = (m, f) := ⟨_, _, rfl⟩
        obtain ⟨q, hq⟩ : ∃ q, m.length = q := ⟨_, rfl⟩
        have AP : Hid (OkO ev.x → ∀ W, Below W1.heap.size W1 W → Calls Tryz.prog 21 #[.slice B l.length d, .agg #[.int .i64 ev.k, .string ev.x.n, .slice Ag ev.x.gr.length cg, .slice Af ev.x.sn.length cf, .string ev.x.go, .int .i64 ev.x.st, .int .i64 ev.x.r.e, .string ev.x.r.at_, .string ev.x.r.tx, .slice Ar ev.x.r.fs.length cr]] W (ExSays m q f W)) := Lib.hid fun h W hW => apply_in (EN.out _ (BB.out _ hW)) hs HK.out h (HO.out.below (BW.out _ hW)) rfl hq (by omega) hld (hps.below (BW.out _ hW))
        have KP : Hid (OkO ev.x → (∀ y ∈ m, OkO y)) := Lib.hid fun h => (apply_keeps hs HK.out h).1
        have ST : Hid (f = 0 → Stays l m ev ∧ Made m) := Lib.hid fun h => apply_stays HM.out (h ▸ hs)
        have NG : Hid (f ≠ 0 → q = 0) := Lib.hid fun h => by rw [← hq, apply_fails hs h]; rfl
        unfold ExSays at AP
        clear hs k1 hb1 hps hzz hsz1
        by_cases hf : OkO ev.x
        · have FX1 := Lib.hid (FX.out true (by simp [hf]))
          have AP1 := Lib.hid (AP.out hf)
          have KP1 := Lib.hid (KP.out hf)
          clear FX AP KP hf
          by_cases hz : f = 0
          · subst hz
            have ST1 := Lib.hid (ST.out rfl)
            clear ST NG
            have sl : l.length ≤ q := by have := ST1.out.1.le; omega
            have sl1 : q ≤ l.length + 1 := by have := ST1.out.1.le1; omega
            have sl2 : q ≤ 16 := by have := ST1.out.1.most; omega
            have n1 : decide ((q : Int) < (l.length : Int)) = false := decide_eq_false (by omega)
            have n2 : decide (((l.length : Int) + 1) < (q : Int)) = false := decide_eq_false (by omega)
            have n3 : decide ((16 : Int) < (q : Int)) = false := decide_eq_false (by omega)
            go_wp2_with (first | (go_at_call 19; rw [← eW]; clear eW; (with_reducible refine (FX1.out).mono ?_); rintro e w2 ⟨rfl, b2⟩; obtain ⟨y0, y1, y2, y3, y4, y5, y6, y7, y8, y9⟩ := ten (KE.out _ b2)) | (go_at_call 21; (with_reducible refine (AP1.out _ b2).mono ?_); rintro e w3 ⟨⟨P3, c3, rfl, hc3, ho3⟩, b3'⟩; have b3 := b2.trans (b3'.mono b2.size); have O3 := Lib.hid ho3; clear ho3))
            have nq : decide (q < l.length) = false := decide_eq_false (by omega)
            simp only [nq]
            clear nq
            have SL := Lib.hid (And.intro sl (And.intro sl1 sl2))
            clear n1 n2 n3 sl sl1 sl2
            go_loopw [8] (fun i wx => ∃ j : Nat, i = .int .i64 j ∧ j ≤ l.length ∧ Below w3.heap.size w3 wx) (fun i _ => l.length - (intOf i).toNat)
            case atStart => exact ⟨0, rfl, by omega, Below.refl _ _⟩
            case round =>
              obtain ⟨j, rfl, hj, hb4⟩ := hrel
              have H4 := Lib.hid hb4
              have H3 := Lib.hid ((BW.out _ b3).trans (hb4.mono (BW.out _ b3).size))
              have HW := Lib.hid ((BB.out _ b3).trans (hb4.mono (BB.out _ b3).size))
              have HE1 := Lib.hid (b3.trans (hb4.mono b3.size))
              clear hb4
              by_cases hjl : j < l.length
              · have hjI : (j : Int) < (l.length : Int) := by omega
                have hjq : (j : Int) < (q : Int) := by have := SL.out.1; omega
                have hjm : j < m.length := by have := SL.out.1; omega
                obtain ⟨bd, Xg, xg, Xf, xf, Xr, xr, rfl, hbd, hpx, bp0, bp1, bp2, bp3, bp4, bp5, bp6, bp7, bp8⟩ := (HO.out.below H3.out).nine_at hjl
                obtain ⟨qd, Yg, yg, Yf, yf, Yr, yr, rfl, hqd, hpy, bq0, bq1, bq2, bq3, bq4, bq5, bq6, bq7, bq8⟩ := (O3.out.below H4.out).nine_at hjm
                have hq9 : (qd.add (j * 9)).block < wr.heap.size := by rw [block_of_add]; exact hqd
                have ST2 := Lib.hid (ST1.out.1.each j hjl hjm)
                have OX := Lib.hid (HK.out _ (List.getElem_mem hjl))
                have OY := Lib.hid (KP1.out _ (List.getElem_mem hjm))
                generalize l[j] = x at *
                generalize m[j] = y at *
                obtain ⟨W5, eW5⟩ : ∃ W5, W5 = (wr.alloc (.cells #[.string x.n, .slice Xg x.gr.length xg, .slice Xf x.sn.length xf, .string x.go, .int .i64 x.st, .int .i64 x.r.e, .string x.r.at_, .string x.r.tx, .slice Xr x.r.fs.length xr] 38)).alloc (.cells #[.string y.n, .slice Yg y.gr.length yg, .slice Yf y.sn.length yf, .string y.go, .int .i64 y.st, .int .i64 y.r.e, .string y.r.at_, .string y.r.tx, .slice Yr y.r.fs.length yr] 38) := ⟨_, rfl⟩
                have hb5 : Below wr.heap.size wr W5 := by rw [eW5]; exact ((Below.refl _ _).alloc (Nat.le_refl _) _).alloc (by simp) _
                have B5 := Lib.hid (H4.out.trans (hb5.mono H4.out.size))
                have kx : W5.heap[wr.heap.size]? = some (.cells #[.string x.n, .slice Xg x.gr.length xg, .slice Xf x.sn.length xf, .string x.go, .int .i64 x.st, .int .i64 x.r.e, .string x.r.at_, .string x.r.tx, .slice Xr x.r.fs.length xr] 38 (0, 0)) := by rw [eW5]; exact Lg.heap_two
                have ky : W5.heap[wr.heap.size + 1]? = some (.cells #[.string y.n, .slice Yg y.gr.length yg, .slice Yf y.sn.length yf, .string y.go, .int .i64 y.st, .int .i64 y.r.e, .string y.r.at_, .string y.r.tx, .slice Yr y.r.fs.length yr] 38 (0, 0)) := by rw [eW5]; exact heap_alloc2_new wr _ _
                have ke := KE.out _ (HE1.out.trans (hb5.mono HE1.out.size))
                obtain ⟨x0, x1, x2, x3, x4, x5, x6, x7, x8, _⟩ := nine kx
                obtain ⟨y0, y1, y2, y3, y4, y5, y6, y7, y8, _⟩ := nine ky
                obtain ⟨v0, v1, v2, v3, v4, v5, v6, v7, v8, v9⟩ := ten ke
                have KX5 : Hid (∀ W, Below W5.heap.size W5 W → W.heap[wr.heap.size]? = some (.cells #[.string x.n, .slice Xg x.gr.length xg, .slice Xf x.sn.length xf, .string x.go, .int .i64 x.st, .int .i64 x.r.e, .string x.r.at_, .string x.r.tx, .slice Xr x.r.fs.length xr] 38 (0, 0))) := Lib.hid fun W hW => (hW.block _ (Lg.lt_heap kx)).trans kx
                have KY5 : Hid (∀ W, Below W5.heap.size W5 W → W.heap[wr.heap.size + 1]? = some (.cells #[.string y.n, .slice Yg y.gr.length yg, .slice Yf y.sn.length yf, .string y.go, .int .i64 y.st, .int .i64 y.r.e, .string y.r.at_, .string y.r.tx, .slice Yr y.r.fs.length yr] 38 (0, 0))) := Lib.hid fun W hW => (hW.block _ (Lg.lt_heap ky)).trans ky
                have EV5 := Lib.hid (EN.out _ (HW.out.trans (hb5.mono HW.out.size)))
                have OS : Hid (x = y → Calls Tryz.prog 26 #[.slice (some ⟨W5.heap.size, 0, none⟩) 1 1, .slice (some ⟨W5.heap.size + 1, 0, none⟩) 1 1] ((W5.alloc (.cells #[.string x.n, .slice Xg x.gr.length xg, .slice Xf x.sn.length xf, .string x.go, .int .i64 x.st, .int .i64 x.r.e, .string x.r.at_, .string x.r.tx, .slice Xr x.r.fs.length xr] 38)).alloc (.cells #[.string y.n, .slice Yg y.gr.length yg, .slice Yf y.sn.length yf, .string y.go, .int .i64 y.st, .int .i64 y.r.e, .string y.r.at_, .string y.r.tx, .slice Yr y.r.fs.length yr] 38)) fun e w' => e = .returned (.bool true) ∧ Below W5.heap.size W5 w') := Lib.hid fun h => by subst h; exact osame_one EV5.out OX.out (hpx.below hb5) (hpy.below hb5)
                have MS : Hid (x.r = y.r → ∀ W, Below W5.heap.size W5 W → Calls Tryz.prog 27 #[.agg #[.int .i64 x.r.e, .string x.r.at_, .string x.r.tx, .slice Xr x.r.fs.length xr], .agg #[.int .i64 y.r.e, .string y.r.at_, .string y.r.tx, .slice Yr y.r.fs.length yr]] W fun e w' => e = .returned (.bool true) ∧ Below W.heap.size W w') := Lib.hid fun h W hW => by
                  have h0 := msame_any x.r y.r Xr Yr xr yr W (by have := OX.out.rl; omega) (by have := OY.out.rl; omega) ((hpx.below hb5).below hW).r ((hpy.below hb5).below hW).r
                  rw [show decide (x.r = y.r) = true from decide_eq_true h] at h0
                  exact h0
                have SE : Hid (¬ x.n = ev.x.n → x = y) := Lib.hid ST2.out.same
                have EN3 : Hid (x.st = 3 → y.st = 3 ∧ x.r = y.r) := Lib.hid ST2.out.ended
                have OF4 : Hid (x.st = 4 → y.st = 4) := Lib.hid ST2.out.off
                have e1 : (x.n.toList == y.n.toList) = true := by rw [ST2.out.n]; simp
                have e2 : (x.go.toList == y.go.toList) = true := by rw [ST2.out.go]; simp
                have lt : decide (y.st < x.st) = false := decide_eq_false (by have := ST2.out.up; omega)
                have l5 : wr.heap.size + 1 < W5.heap.size := Lg.lt_heap ky
                clear kx ky ke hpx hpy ST2 hb5 hjm
                have a0 : ∀ o, (wr.alloc o).cell? (qd.add (j * 9)) = some (.string y.n) := fun o => (World.cell?_alloc_lt wr o (qd.add (j * 9)) hq9).trans bq0
                have a1 : ∀ o, (wr.alloc o).cell? ⟨(qd.add (j * 9)).block, (qd.add (j * 9)).off + 1, none⟩ = some (.slice Yg y.gr.length yg) := fun o => (World.cell?_alloc_lt wr o ⟨(qd.add (j * 9)).block, (qd.add (j * 9)).off + 1, none⟩ hq9).trans bq1
                have a2 : ∀ o, (wr.alloc o).cell? ⟨(qd.add (j * 9)).block, (qd.add (j * 9)).off + 2, none⟩ = some (.slice Yf y.sn.length yf) := fun o => (World.cell?_alloc_lt wr o ⟨(qd.add (j * 9)).block, (qd.add (j * 9)).off + 2, none⟩ hq9).trans bq2
                have a3 : ∀ o, (wr.alloc o).cell? ⟨(qd.add (j * 9)).block, (qd.add (j * 9)).off + 3, none⟩ = some (.string y.go) := fun o => (World.cell?_alloc_lt wr o ⟨(qd.add (j * 9)).block, (qd.add (j * 9)).off + 3, none⟩ hq9).trans bq3
                have a4 : ∀ o, (wr.alloc o).cell? ⟨(qd.add (j * 9)).block, (qd.add (j * 9)).off + 4, none⟩ = some (.int .i64 y.st) := fun o => (World.cell?_alloc_lt wr o ⟨(qd.add (j * 9)).block, (qd.add (j * 9)).off + 4, none⟩ hq9).trans bq4
                have a5 : ∀ o, (wr.alloc o).cell? ⟨(qd.add (j * 9)).block, (qd.add (j * 9)).off + 5, none⟩ = some (.int .i64 y.r.e) := fun o => (World.cell?_alloc_lt wr o ⟨(qd.add (j * 9)).block, (qd.add (j * 9)).off + 5, none⟩ hq9).trans bq5
                have a6 : ∀ o, (wr.alloc o).cell? ⟨(qd.add (j * 9)).block, (qd.add (j * 9)).off + 6, none⟩ = some (.string y.r.at_) := fun o => (World.cell?_alloc_lt wr o ⟨(qd.add (j * 9)).block, (qd.add (j * 9)).off + 6, none⟩ hq9).trans bq6
                have a7 : ∀ o, (wr.alloc o).cell? ⟨(qd.add (j * 9)).block, (qd.add (j * 9)).off + 7, none⟩ = some (.string y.r.tx) := fun o => (World.cell?_alloc_lt wr o ⟨(qd.add (j * 9)).block, (qd.add (j * 9)).off + 7, none⟩ hq9).trans bq7
                have a8 : ∀ o, (wr.alloc o).cell? ⟨(qd.add (j * 9)).block, (qd.add (j * 9)).off + 8, none⟩ = some (.slice Yr y.r.fs.length yr) := fun o => (World.cell?_alloc_lt wr o ⟨(qd.add (j * 9)).block, (qd.add (j * 9)).off + 8, none⟩ hq9).trans bq8
                by_cases hn : x.n = ev.x.n
                · by_cases h3 : x.st = 3
                  · have en3 : (x.n.toList == ev.x.n.toList) = true := by rw [hn]; simp
                    have g3 : (x.st == 3) = true := by simpa using h3
                    have q3 : (y.st != 3) = false := by have := (EN3.out h3).1; simp [this]
                    have g4 : (x.st == 4) = false := by simp; omega
                    have MS1 := Lib.hid (MS.out (EN3.out h3).2)
                    clear SE OS MS EN3 OF4 hn h3
                    go_upto_region 19 with (fail)
                    rw [← eW5]
                    clear eW5 bq0 bq1 bq2 bq3 bq4 bq5 bq6 bq7 bq8
                    go_wp2_with (first | (go_at_call 27; (with_reducible refine (MS1.out _ (Below.refl _ _)).mono ?_); rintro e w7 ⟨rfl, b7'⟩; have b7 := (b7'); obtain ⟨x0, x1, x2, x3, x4, x5, x6, x7, x8, _⟩ := nine (KX5.out _ b7); obtain ⟨y0, y1, y2, y3, y4, y5, y6, y7, y8, _⟩ := nine (KY5.out _ b7)))
                    go_roundw
                    case rel => exact ⟨j + 1, by go_num, by omega, B5.out.trans (b7.mono B5.out.size)⟩
                    case measure => simp [intOf]; omega
                  · by_cases h4 : x.st = 4
                    · have en3 : (x.n.toList == ev.x.n.toList) = true := by rw [hn]; simp
                      have g3 : (x.st == 3) = false := by simpa using h3
                      have g4 : (x.st == 4) = true := by simpa using h4
                      have q4 : (y.st != 4) = false := by have := OF4.out h4; simp [this]
                      clear SE OS MS EN3 OF4 hn h3 h4
                      go_upto_region 19 with (fail)
                      rw [← eW5]
                      clear eW5 bq0 bq1 bq2 bq3 bq4 bq5 bq6 bq7 bq8
                      go_wp2_with (fail)
                      go_roundw
                      case rel => exact ⟨j + 1, by go_num, by omega, B5.out⟩
                      case measure => simp [intOf]; omega
                    · have en3 : (x.n.toList == ev.x.n.toList) = true := by rw [hn]; simp
                      have g3 : (x.st == 3) = false := by simpa using h3
                      have g4 : (x.st == 4) = false := by simpa using h4
                      clear SE OS MS EN3 OF4 hn h3 h4
                      go_upto_region 19 with (fail)
                      rw [← eW5]
                      clear eW5 bq0 bq1 bq2 bq3 bq4 bq5 bq6 bq7 bq8
                      go_wp2_with (fail)
                      go_roundw
                      case rel => exact ⟨j + 1, by go_num, by omega, B5.out⟩
                      case measure => simp [intOf]; omega
                · by_cases h3 : x.st = 3
                  · have en3 := Lg.s_ne hn
                    have exy := SE.out hn
                    subst exy
                    have OS1 := Lib.hid (OS.out rfl)
                    have g3 : (x.st == 3) = true := by simpa using h3
                    have q3 : (x.st != 3) = false := by have := (EN3.out h3).1; simp [this]
                    have g4 : (x.st == 4) = false := by simp; omega
                    have MS1 := Lib.hid (MS.out (EN3.out h3).2)
                    clear SE OS MS EN3 OF4 hn h3
                    go_upto_region 19 with (fail)
                    rw [← eW5]
                    clear eW5 bq0 bq1 bq2 bq3 bq4 bq5 bq6 bq7 bq8
                    have A0 : ∀ o, (W5.alloc o).cell? ⟨wr.heap.size + 1, 0, none⟩ = some (.string x.n) := fun o => (World.cell?_alloc_lt W5 o ⟨wr.heap.size + 1, 0, none⟩ l5).trans y0
                    have A1 : ∀ o, (W5.alloc o).cell? ⟨wr.heap.size + 1, 1, none⟩ = some (.slice Yg x.gr.length yg) := fun o => (World.cell?_alloc_lt W5 o ⟨wr.heap.size + 1, 1, none⟩ l5).trans y1
                    have A2 : ∀ o, (W5.alloc o).cell? ⟨wr.heap.size + 1, 2, none⟩ = some (.slice Yf x.sn.length yf) := fun o => (World.cell?_alloc_lt W5 o ⟨wr.heap.size + 1, 2, none⟩ l5).trans y2
                    have A3 : ∀ o, (W5.alloc o).cell? ⟨wr.heap.size + 1, 3, none⟩ = some (.string x.go) := fun o => (World.cell?_alloc_lt W5 o ⟨wr.heap.size + 1, 3, none⟩ l5).trans y3
                    have A4 : ∀ o, (W5.alloc o).cell? ⟨wr.heap.size + 1, 4, none⟩ = some (.int .i64 x.st) := fun o => (World.cell?_alloc_lt W5 o ⟨wr.heap.size + 1, 4, none⟩ l5).trans y4
                    have A5 : ∀ o, (W5.alloc o).cell? ⟨wr.heap.size + 1, 5, none⟩ = some (.int .i64 x.r.e) := fun o => (World.cell?_alloc_lt W5 o ⟨wr.heap.size + 1, 5, none⟩ l5).trans y5
                    have A6 : ∀ o, (W5.alloc o).cell? ⟨wr.heap.size + 1, 6, none⟩ = some (.string x.r.at_) := fun o => (World.cell?_alloc_lt W5 o ⟨wr.heap.size + 1, 6, none⟩ l5).trans y6
                    have A7 : ∀ o, (W5.alloc o).cell? ⟨wr.heap.size + 1, 7, none⟩ = some (.string x.r.tx) := fun o => (World.cell?_alloc_lt W5 o ⟨wr.heap.size + 1, 7, none⟩ l5).trans y7
                    have A8 : ∀ o, (W5.alloc o).cell? ⟨wr.heap.size + 1, 8, none⟩ = some (.slice Yr x.r.fs.length yr) := fun o => (World.cell?_alloc_lt W5 o ⟨wr.heap.size + 1, 8, none⟩ l5).trans y8
                    go_wp2_with (first | (go_at_call 26; (with_reducible refine (OS1.out).mono ?_); rintro e w6 ⟨rfl, b6⟩; obtain ⟨x0, x1, x2, x3, x4, x5, x6, x7, x8, _⟩ := nine (KX5.out _ b6); obtain ⟨y0, y1, y2, y3, y4, y5, y6, y7, y8, _⟩ := nine (KY5.out _ b6)) | (go_at_call 27; (with_reducible refine (MS1.out _ b6).mono ?_); rintro e w7 ⟨rfl, b7'⟩; have b7 := (b6.trans (b7'.mono b6.size)); obtain ⟨x0, x1, x2, x3, x4, x5, x6, x7, x8, _⟩ := nine (KX5.out _ b7); obtain ⟨y0, y1, y2, y3, y4, y5, y6, y7, y8, _⟩ := nine (KY5.out _ b7)))
                    go_roundw
                    case rel => exact ⟨j + 1, by go_num, by omega, B5.out.trans (b7.mono B5.out.size)⟩
                    case measure => simp [intOf]; omega
                  · by_cases h4 : x.st = 4
                    · have en3 := Lg.s_ne hn
                      have exy := SE.out hn
                      subst exy
                      have OS1 := Lib.hid (OS.out rfl)
                      have g3 : (x.st == 3) = false := by simpa using h3
                      have g4 : (x.st == 4) = true := by simpa using h4
                      have q4 : (x.st != 4) = false := by have := OF4.out h4; simp [this]
                      clear SE OS MS EN3 OF4 hn h3 h4
                      go_upto_region 19 with (fail)
                      rw [← eW5]
                      clear eW5 bq0 bq1 bq2 bq3 bq4 bq5 bq6 bq7 bq8
                      have A0 : ∀ o, (W5.alloc o).cell? ⟨wr.heap.size + 1, 0, none⟩ = some (.string x.n) := fun o => (World.cell?_alloc_lt W5 o ⟨wr.heap.size + 1, 0, none⟩ l5).trans y0
                      have A1 : ∀ o, (W5.alloc o).cell? ⟨wr.heap.size + 1, 1, none⟩ = some (.slice Yg x.gr.length yg) := fun o => (World.cell?_alloc_lt W5 o ⟨wr.heap.size + 1, 1, none⟩ l5).trans y1
                      have A2 : ∀ o, (W5.alloc o).cell? ⟨wr.heap.size + 1, 2, none⟩ = some (.slice Yf x.sn.length yf) := fun o => (World.cell?_alloc_lt W5 o ⟨wr.heap.size + 1, 2, none⟩ l5).trans y2
                      have A3 : ∀ o, (W5.alloc o).cell? ⟨wr.heap.size + 1, 3, none⟩ = some (.string x.go) := fun o => (World.cell?_alloc_lt W5 o ⟨wr.heap.size + 1, 3, none⟩ l5).trans y3
                      have A4 : ∀ o, (W5.alloc o).cell? ⟨wr.heap.size + 1, 4, none⟩ = some (.int .i64 x.st) := fun o => (World.cell?_alloc_lt W5 o ⟨wr.heap.size + 1, 4, none⟩ l5).trans y4
                      have A5 : ∀ o, (W5.alloc o).cell? ⟨wr.heap.size + 1, 5, none⟩ = some (.int .i64 x.r.e) := fun o => (World.cell?_alloc_lt W5 o ⟨wr.heap.size + 1, 5, none⟩ l5).trans y5
                      have A6 : ∀ o, (W5.alloc o).cell? ⟨wr.heap.size + 1, 6, none⟩ = some (.string x.r.at_) := fun o => (World.cell?_alloc_lt W5 o ⟨wr.heap.size + 1, 6, none⟩ l5).trans y6
                      have A7 : ∀ o, (W5.alloc o).cell? ⟨wr.heap.size + 1, 7, none⟩ = some (.string x.r.tx) := fun o => (World.cell?_alloc_lt W5 o ⟨wr.heap.size + 1, 7, none⟩ l5).trans y7
                      have A8 : ∀ o, (W5.alloc o).cell? ⟨wr.heap.size + 1, 8, none⟩ = some (.slice Yr x.r.fs.length yr) := fun o => (World.cell?_alloc_lt W5 o ⟨wr.heap.size + 1, 8, none⟩ l5).trans y8
                      go_wp2_with (first | (go_at_call 26; (with_reducible refine (OS1.out).mono ?_); rintro e w6 ⟨rfl, b6⟩; obtain ⟨x0, x1, x2, x3, x4, x5, x6, x7, x8, _⟩ := nine (KX5.out _ b6); obtain ⟨y0, y1, y2, y3, y4, y5, y6, y7, y8, _⟩ := nine (KY5.out _ b6)))
                      go_roundw
                      case rel => exact ⟨j + 1, by go_num, by omega, B5.out.trans (b6.mono B5.out.size)⟩
                      case measure => simp [intOf]; omega
                    · have en3 := Lg.s_ne hn
                      have exy := SE.out hn
                      subst exy
                      have OS1 := Lib.hid (OS.out rfl)
                      have g3 : (x.st == 3) = false := by simpa using h3
                      have g4 : (x.st == 4) = false := by simpa using h4
                      clear SE OS MS EN3 OF4 hn h3 h4
                      go_upto_region 19 with (fail)
                      rw [← eW5]
                      clear eW5 bq0 bq1 bq2 bq3 bq4 bq5 bq6 bq7 bq8
                      have A0 : ∀ o, (W5.alloc o).cell? ⟨wr.heap.size + 1, 0, none⟩ = some (.string x.n) := fun o => (World.cell?_alloc_lt W5 o ⟨wr.heap.size + 1, 0, none⟩ l5).trans y0
                      have A1 : ∀ o, (W5.alloc o).cell? ⟨wr.heap.size + 1, 1, none⟩ = some (.slice Yg x.gr.length yg) := fun o => (World.cell?_alloc_lt W5 o ⟨wr.heap.size + 1, 1, none⟩ l5).trans y1
                      have A2 : ∀ o, (W5.alloc o).cell? ⟨wr.heap.size + 1, 2, none⟩ = some (.slice Yf x.sn.length yf) := fun o => (World.cell?_alloc_lt W5 o ⟨wr.heap.size + 1, 2, none⟩ l5).trans y2
                      have A3 : ∀ o, (W5.alloc o).cell? ⟨wr.heap.size + 1, 3, none⟩ = some (.string x.go) := fun o => (World.cell?_alloc_lt W5 o ⟨wr.heap.size + 1, 3, none⟩ l5).trans y3
                      have A4 : ∀ o, (W5.alloc o).cell? ⟨wr.heap.size + 1, 4, none⟩ = some (.int .i64 x.st) := fun o => (World.cell?_alloc_lt W5 o ⟨wr.heap.size + 1, 4, none⟩ l5).trans y4
                      have A5 : ∀ o, (W5.alloc o).cell? ⟨wr.heap.size + 1, 5, none⟩ = some (.int .i64 x.r.e) := fun o => (World.cell?_alloc_lt W5 o ⟨wr.heap.size + 1, 5, none⟩ l5).trans y5
                      have A6 : ∀ o, (W5.alloc o).cell? ⟨wr.heap.size + 1, 6, none⟩ = some (.string x.r.at_) := fun o => (World.cell?_alloc_lt W5 o ⟨wr.heap.size + 1, 6, none⟩ l5).trans y6
                      have A7 : ∀ o, (W5.alloc o).cell? ⟨wr.heap.size + 1, 7, none⟩ = some (.string x.r.tx) := fun o => (World.cell?_alloc_lt W5 o ⟨wr.heap.size + 1, 7, none⟩ l5).trans y7
                      have A8 : ∀ o, (W5.alloc o).cell? ⟨wr.heap.size + 1, 8, none⟩ = some (.slice Yr x.r.fs.length yr) := fun o => (World.cell?_alloc_lt W5 o ⟨wr.heap.size + 1, 8, none⟩ l5).trans y8
                      go_wp2_with (first | (go_at_call 26; (with_reducible refine (OS1.out).mono ?_); rintro e w6 ⟨rfl, b6⟩; obtain ⟨x0, x1, x2, x3, x4, x5, x6, x7, x8, _⟩ := nine (KX5.out _ b6); obtain ⟨y0, y1, y2, y3, y4, y5, y6, y7, y8, _⟩ := nine (KY5.out _ b6)))
                      go_roundw
                      case rel => exact ⟨j + 1, by go_num, by omega, B5.out.trans (b6.mono B5.out.size)⟩
                      case measure => simp [intOf]; omega
              · obtain rfl : j = l.length := by omega
                obtain ⟨v0, v1, v2, v3, v4, v5, v6, v7, v8, v9⟩ := ten (KE.out _ HE1.out)
                have NEW := Lib.hid ST1.out.1.new
                by_cases hqn : l.length < q
                · have g1 : decide ((l.length : Int) < (q : Int)) = true := decide_eq_true (by omega)
                  have hlI : (l.length : Int) < (q : Int) := by omega
                  have hlm : l.length < m.length := by omega
                  obtain ⟨nk, _, nn, ns⟩ := NEW.out hlm
                  obtain ⟨qd, Yg, yg, Yf, yf, Yr, yr, rfl, hqd, hpy, bq0, bq1, bq2, bq3, bq4, bq5, bq6, bq7, bq8⟩ := (O3.out.below H4.out).nine_at hlm
                  have gk : (ev.k != 1) = false := by simp [nk]
                  have gn : (m[l.length].n.toList == ev.x.n.toList) = true := by rw [nn]; simp
                  have gs : (m[l.length].st != 1) = false := by simp [ns]
                  generalize m[l.length] = y at *
                  clear hpy NEW nk nn ns
                  go_wp2_with (fail)
                  go_quiet (fail)
                  go_wp2_with (fail)
                  go_roundw
                  case rel => exact ⟨k + 1, m, _, c3, by go_num, by omega, by rw [hq], by omega, O3.out.below (belowDN H4.out _), ST1.out.2, KP1.out, belowDN HW.out _⟩
                  case measure => simp [intOf]; omega
                · have g1 : decide ((l.length : Int) < (q : Int)) = false := decide_eq_false (by omega)
                  clear NEW
                  go_wp2_with (fail)
                  go_quiet (fail)
                  go_wp2_with (fail)
                  go_roundw
                  case rel => exact ⟨k + 1, m, _, c3, by go_num, by omega, by rw [hq], by omega, O3.out.below (belowDN H4.out _), ST1.out.2, KP1.out, belowDN HW.out _⟩
                  case measure => simp [intOf]; omega

          · have jf : (f != 0) = true := by simpa using hz
            have hq0 := NG.out hz
            clear ST NG KP1 hz hq
            subst hq0
            go_wp2_with (first | (go_at_call 19; rw [← eW]; clear eW; (with_reducible refine (FX1.out).mono ?_); rintro e w2 ⟨rfl, b2⟩; obtain ⟨y0, y1, y2, y3, y4, y5, y6, y7, y8, y9⟩ := ten (KE.out _ b2)) | (go_at_call 21; (with_reducible refine (AP1.out _ b2).mono ?_); rintro e w3 ⟨⟨P3, c3, rfl, hc3, ho3⟩, b3'⟩; have b3 := b2.trans (b3'.mono b2.size); have O3 := Lib.hid ho3; clear ho3))
            go_roundw
            case rel => exact ⟨k + 1, l, B, d, by go_num, by omega, rfl, hld, HO.out.below (BW.out _ b3), HM.out, HK.out, BB.out _ b3⟩
            case measure => simp [intOf]; omega
        · have FX1 := Lib.hid (FX.out false (by simp [hf]))
          clear FX AP KP ST NG hf
          go_wp2_with (first | (go_at_call 19; rw [← eW]; clear eW; (with_reducible refine (FX1.out).mono ?_); rintro e w2 ⟨rfl, b2⟩; obtain ⟨y0, y1, y2, y3, y4, y5, y6, y7, y8, y9⟩ := ten (KE.out _ b2)) | (go_at_call 20; (with_reducible refine (AW.out _ (BB.out _ b2)).mono ?_); rintro e w9 ⟨rfl, b9⟩))
          go_ret
          exact ⟨rfl, BB.out _ (b2.trans (b9.mono b2.size))⟩
      · have h60 : decide ((k : Int) < 60) = false := decide_eq_false (by omega)
        go_wp2_with (go_at_call 20; (with_reducible refine (AW.out _ HB.out).mono ?_); rintro e w9 ⟨rfl, b9⟩)
        go_ret
        exact ⟨rfl, HB.out.trans (b9.mono HB.out.size)⟩
    · obtain rfl : k = es.length := by omega
      have hkd : decide ((es.length : Int) < (es.length : Int)) = false := decide_eq_false (by omega)
      go_wp2_with (go_at_call 20; (with_reducible refine (AW.out _ HB.out).mono ?_); rintro e w9 ⟨rfl, b9⟩)
      go_ret
      exact ⟨rfl, HB.out.trans (b9.mono HB.out.size)⟩
end Go.Proofs.YtcpkhaebcmgehaaGreatDoor.Ops
