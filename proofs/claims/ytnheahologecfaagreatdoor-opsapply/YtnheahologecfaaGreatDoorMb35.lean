/- Joined by mkmerged.py: FewYes8, Few15, OpEvs, OpIn. -/
import Derived.Test.YtnheahologecfaaGreatDoorMb34
import Derived.Test.YtnheahologecfaaGreatDoorMb30
import Derived.BigQuiet
/- FewYes8, what a claim needs of it (prune.py). -/
namespace Go.Proofs.YtnheahologecfaaGreatDoor.F8
open Go.RowKit
set_option linter.unusedVariables false
set_option maxRecDepth 100000
set_option maxHeartbeats 4000000 in
theorem few_yes (A F : Option Addr) (l : List Tg) (fs : List Fl) (c d : Nat) (w : World) (hl : l.length ≤ 9223372036854775807) (hf : fs.length ≤ 9223372036854775807) (hr : Tgs w w.heap.size A l) (hq : Fls w w.heap.size F fs)
    (hsz : ∀ t ∈ l, t.n.size ≤ maxLen ∧ t.c.size ≤ maxLen ∧ t.ds.length ≤ maxLen ∧ t.ss.length ≤ maxLen) (hfz : ∀ f ∈ fs, f.p.size ≤ maxLen ∧ f.d.size ≤ maxLen) (hP : l.length ≤ 20 ∧ (∀ t ∈ l, t.Ok) ∧ fs.length ≤ 60 ∧ ∀ f ∈ fs, f.Ok) :
    Calls Tryz.prog 37 #[.slice A l.length c, .slice F fs.length d] w fun e w' => e = .returned (.bool true) ∧ w = w' := by
  have HP := Lib.hid hP
  clear hP
  by_cases h1 : l.length ≤ 20
  · by_cases h2 : fs.length ≤ 60
    · have i1 : decide ((20 : Int) < (l.length : Int)) = false := decide_eq_false (by omega)
      have i2 : decide ((60 : Int) < (fs.length : Int)) = false := decide_eq_false (by omega)
      have H1 := Lib.hid h1
      have H2 := Lib.hid h2
      go_enter Tryz.func37, Tryz.ntmps37
      go_wp2_with (fail)
      go_loop [5] (fun i => ∃ k : Nat, i = .int .i64 k ∧ k ≤ fs.length ∧ ∀ j (hj : j < fs.length), j < k → fs[j].Ok) (fun i => fs.length - (intOf i).toNat)
      case atStart => exact ⟨0, rfl, by omega, fun j hj h => by omega⟩
      case round =>
        obtain ⟨k, rfl, hk, hok⟩ := hrel
        have HOK := Lib.hid hok
        clear hok
        by_cases hlt : k < fs.length
        · obtain ⟨ad, rfl, had, hcs⟩ := hq (by omega)
          obtain ⟨c0, c1⟩ := hcs k hlt
          have e1 : w.cell? ⟨(ad.add (k * 2)).block, (ad.add (k * 2)).off + 1, none⟩ = some (.string fs[k].d) := c1
          have hkI : (k : Int) < (fs.length : Int) := by omega
          have hzz := hfz _ (List.getElem_mem hlt)
          unfold maxLen at hzz
          have MU := Lib.hid (fun (h : fs[k].Ok) => mem_upto (Q := Fl.Ok) hlt HOK.out h)
          clear c1 hcs
          have OKf := Lib.hid (HP.out.2.2.2 _ (List.getElem_mem hlt))
          generalize fs[k] = f at *
          by_cases g1 : f.p.size ≤ 200
          · by_cases g2 : f.d.size ≤ 3000
            · have j1 : decide ((200 : Int) < (f.p.size : Int)) = false := decide_eq_false (by omega)
              have j2 : decide ((3000 : Int) < (f.d.size : Int)) = false := decide_eq_false (by omega)
              have G := Lib.hid (⟨g1, g2⟩ : f.Ok)
              go_wp2_with (fail)
              go_round
              case rel => exact ⟨k + 1, by go_num, by omega, MU.out G.out⟩
              case measure => simp [intOf]; omega
            · have j1 : decide ((200 : Int) < (f.p.size : Int)) = false := decide_eq_false (by omega)
              have j2 : decide ((3000 : Int) < (f.d.size : Int)) = true := decide_eq_true (by omega)
              go_wp2_with (fail)
              go_ret
              exact absurd (show False by first | (have := OKx.out; omega) | (have := OKt.out.n; have := OKt.out.c; have := OKt.out.dl; have := OKt.out.sl; omega) | (have := OKf.out.p; have := OKf.out.d; omega) | (have := HP.out.1; have := HP.out.2.2.1; omega)) id
          · have j1 : decide ((200 : Int) < (f.p.size : Int)) = true := decide_eq_true (by omega)
            go_wp2_with (fail)
            go_ret
            exact absurd (show False by first | (have := OKx.out; omega) | (have := OKt.out.n; have := OKt.out.c; have := OKt.out.dl; have := OKt.out.sl; omega) | (have := OKf.out.p; have := OKf.out.d; omega) | (have := HP.out.1; have := HP.out.2.2.1; omega)) id
        · obtain rfl : k = fs.length := by omega
          have FOK := Lib.hid (mem_all HOK.out)
          clear HOK
          go_wp2_with (fail)
          go_loop [6] (fun i => ∃ k : Nat, i = .int .i64 k ∧ k ≤ l.length ∧ ∀ j (hj : j < l.length), j < k → l[j].Ok) (fun i => l.length - (intOf i).toNat)
          case atStart => exact ⟨0, rfl, by omega, fun j hj h => by omega⟩
          case round =>
            obtain ⟨k, rfl, hk, hok⟩ := hrel
            have HOK := Lib.hid hok
            clear hok
            by_cases hlt : k < l.length
            · obtain ⟨ad, rfl, had, hcs⟩ := hr (by omega)
              obtain ⟨Ad, cd, As, cs, c0, c1, c2, c3, hd, hs⟩ := hcs k hlt
              have e1 : w.cell? ⟨(ad.add (k * 4)).block, (ad.add (k * 4)).off + 1, none⟩ = some (.string l[k].c) := c1
              have e2 : w.cell? ⟨(ad.add (k * 4)).block, (ad.add (k * 4)).off + 2, none⟩ = some (.slice Ad l[k].ds.length cd) := c2
              have e3 : w.cell? ⟨(ad.add (k * 4)).block, (ad.add (k * 4)).off + 3, none⟩ = some (.slice As l[k].ss.length cs) := c3
              have hkI : (k : Int) < (l.length : Int) := by omega
              have hzz := hsz _ (List.getElem_mem hlt)
              unfold maxLen at hzz
              have MU := Lib.hid (fun (h : l[k].Ok) => mem_upto (Q := Tg.Ok) hlt HOK.out h)
              clear c1 c2 c3 hcs HOK
              have OKt := Lib.hid (HP.out.2.1 _ (List.getElem_mem hlt))
              generalize l[k] = t at *
              by_cases g1 : t.n.size ≤ 100
              · have j1 : decide ((100 : Int) < (t.n.size : Int)) = false := decide_eq_false (by omega)
                by_cases g2 : t.c.size ≤ 2000
                · have j2 : decide ((2000 : Int) < (t.c.size : Int)) = false := decide_eq_false (by omega)
                  by_cases g3 : t.ds.length ≤ 20
                  · have j3 : decide ((20 : Int) < (t.ds.length : Int)) = false := decide_eq_false (by omega)
                    by_cases g4 : t.ss.length ≤ 40
                    · have j4 : decide ((40 : Int) < (t.ss.length : Int)) = false := decide_eq_false (by omega)
                      go_wp2_with (fail)
                      go_loop [7] (fun i => ∃ q : Nat, i = .int .i64 q ∧ q ≤ t.ds.length ∧ ∀ j (hj : j < t.ds.length), j < q → t.ds[j].size ≤ 100) (fun i => t.ds.length - (intOf i).toNat)
                      case atStart => exact ⟨0, rfl, by omega, fun j hj h => by omega⟩
                      case round =>
                        obtain ⟨q, rfl, hq, hok⟩ := hrel
                        by_cases hqt : q < t.ds.length
                        · obtain ⟨bd, rfl, hbd, hcq⟩ := hd.at_ hqt
                          have hqI : (q : Int) < (t.ds.length : Int) := by omega
                          have MQ := Lib.hid (fun (h : t.ds[q].size ≤ 100) => mem_upto (Q := fun x : ByteArray => x.size ≤ 100) hqt hok h)
                          clear hok
                          have OKx := Lib.hid (OKt.out.d _ (List.getElem_mem hqt))
                          generalize t.ds[q] = x at *
                          by_cases gx : x.size ≤ 100
                          · have jx : ¬ (100 : Int) < (x.size : Int) := by omega
                            have GX := Lib.hid gx
                            go_wp2_with (fail)
                            go_round
                            case rel => exact ⟨q + 1, by go_num, by omega, MQ.out GX.out⟩
                            case measure => simp [intOf]; omega
                          · have jx : (100 : Int) < (x.size : Int) := by omega
                            go_wp2_with (fail)
                            go_ret
                            exact absurd (show False by first | (have := OKx.out; omega) | (have := OKt.out.n; have := OKt.out.c; have := OKt.out.dl; have := OKt.out.sl; omega) | (have := OKf.out.p; have := OKf.out.d; omega) | (have := HP.out.1; have := HP.out.2.2.1; omega)) id
                        · obtain rfl : q = t.ds.length := by omega
                          have DOK := Lib.hid (mem_all (l := t.ds) (Q := fun x : ByteArray => x.size ≤ 100) hok)
                          clear hok
                          go_wp2_with (fail)
                          go_loop [8] (fun i => ∃ q : Nat, i = .int .i64 q ∧ q ≤ t.ss.length ∧ ∀ j (hj : j < t.ss.length), j < q → t.ss[j].size ≤ 100) (fun i => t.ss.length - (intOf i).toNat)
                          case atStart => exact ⟨0, rfl, by omega, fun j hj h => by omega⟩
                          case round =>
                            obtain ⟨q, rfl, hq, hok⟩ := hrel
                            by_cases hqt : q < t.ss.length
                            · obtain ⟨bd, rfl, hbd, hcq⟩ := hs.at_ hqt
                              have hqI : (q : Int) < (t.ss.length : Int) := by omega
                              have MQ := Lib.hid (fun (h : t.ss[q].size ≤ 100) => mem_upto (Q := fun x : ByteArray => x.size ≤ 100) hqt hok h)
                              clear hok
                              have OKx := Lib.hid (OKt.out.s _ (List.getElem_mem hqt))
                              generalize t.ss[q] = x at *
                              by_cases gx : x.size ≤ 100
                              · have jx : ¬ (100 : Int) < (x.size : Int) := by omega
                                have GX := Lib.hid gx
                                go_wp2_with (fail)
                                go_round
                                case rel => exact ⟨q + 1, by go_num, by omega, MQ.out GX.out⟩
                                case measure => simp [intOf]; omega
                              · have jx : (100 : Int) < (x.size : Int) := by omega
                                go_wp2_with (fail)
                                go_ret
                                exact absurd (show False by first | (have := OKx.out; omega) | (have := OKt.out.n; have := OKt.out.c; have := OKt.out.dl; have := OKt.out.sl; omega) | (have := OKf.out.p; have := OKf.out.d; omega) | (have := HP.out.1; have := HP.out.2.2.1; omega)) id
                            · obtain rfl : q = t.ss.length := by omega
                              have G := Lib.hid (⟨g1, g2, g3, g4, DOK.out, mem_all (l := t.ss) (Q := fun x : ByteArray => x.size ≤ 100) hok⟩ : t.Ok)
                              clear hok
                              go_wp2_with (fail)
                              go_round
                              case rel => exact ⟨k + 1, by go_num, by omega, MU.out G.out⟩
                              case measure => simp [intOf]; omega
                    · have j4 : decide ((40 : Int) < (t.ss.length : Int)) = true := decide_eq_true (by omega)
                      go_wp2_with (fail)
                      go_ret
                      exact absurd (show False by first | (have := OKx.out; omega) | (have := OKt.out.n; have := OKt.out.c; have := OKt.out.dl; have := OKt.out.sl; omega) | (have := OKf.out.p; have := OKf.out.d; omega) | (have := HP.out.1; have := HP.out.2.2.1; omega)) id
                  · have j3 : decide ((20 : Int) < (t.ds.length : Int)) = true := decide_eq_true (by omega)
                    go_wp2_with (fail)
                    go_ret
                    exact absurd (show False by first | (have := OKx.out; omega) | (have := OKt.out.n; have := OKt.out.c; have := OKt.out.dl; have := OKt.out.sl; omega) | (have := OKf.out.p; have := OKf.out.d; omega) | (have := HP.out.1; have := HP.out.2.2.1; omega)) id
                · have j2 : decide ((2000 : Int) < (t.c.size : Int)) = true := decide_eq_true (by omega)
                  go_wp2_with (fail)
                  go_ret
                  exact absurd (show False by first | (have := OKx.out; omega) | (have := OKt.out.n; have := OKt.out.c; have := OKt.out.dl; have := OKt.out.sl; omega) | (have := OKf.out.p; have := OKf.out.d; omega) | (have := HP.out.1; have := HP.out.2.2.1; omega)) id
              · have j1 : decide ((100 : Int) < (t.n.size : Int)) = true := decide_eq_true (by omega)
                go_wp2_with (fail)
                go_ret
                exact absurd (show False by first | (have := OKx.out; omega) | (have := OKt.out.n; have := OKt.out.c; have := OKt.out.dl; have := OKt.out.sl; omega) | (have := OKf.out.p; have := OKf.out.d; omega) | (have := HP.out.1; have := HP.out.2.2.1; omega)) id
            · obtain rfl : k = l.length := by omega
              go_wp2_with (fail)
              go_ret
              exact ⟨rfl, rfl⟩
    · have i1 : decide ((20 : Int) < (l.length : Int)) = false := decide_eq_false (by omega)
      have i2 : decide ((60 : Int) < (fs.length : Int)) = true := decide_eq_true (by omega)
      go_enter Tryz.func37, Tryz.ntmps37
      go_wp2_with (fail)
      go_ret
      exact absurd (show False by first | (have := OKx.out; omega) | (have := OKt.out.n; have := OKt.out.c; have := OKt.out.dl; have := OKt.out.sl; omega) | (have := OKf.out.p; have := OKf.out.d; omega) | (have := HP.out.1; have := HP.out.2.2.1; omega)) id
  · have i1 : decide ((20 : Int) < (l.length : Int)) = true := decide_eq_true (by omega)
    go_enter Tryz.func37, Tryz.ntmps37
    go_wp2_with (fail)
    go_ret
    exact absurd (show False by first | (have := OKx.out; omega) | (have := OKt.out.n; have := OKt.out.c; have := OKt.out.dl; have := OKt.out.sl; omega) | (have := OKf.out.p; have := OKf.out.d; omega) | (have := HP.out.1; have := HP.out.2.2.1; omega)) id
def P8 (l : List Tg) (fs : List Fl) : Prop := l.length ≤ 20 ∧ (∀ t ∈ l, t.Ok) ∧ fs.length ≤ 60 ∧ ∀ f ∈ fs, f.Ok
theorem few_is (A F : Option Addr) (l : List Tg) (fs : List Fl) (c d : Nat) (w : World) (hl : l.length ≤ 9223372036854775807) (hf : fs.length ≤ 9223372036854775807) (hr : Tgs w w.heap.size A l) (hq : Fls w w.heap.size F fs)
    (hsz : ∀ t ∈ l, t.n.size ≤ maxLen ∧ t.c.size ≤ maxLen ∧ t.ds.length ≤ maxLen ∧ t.ss.length ≤ maxLen) (hfz : ∀ f ∈ fs, f.p.size ≤ maxLen ∧ f.d.size ≤ maxLen) {b : Bool} (hb : b = true ↔ P8 l fs) :
    Calls Tryz.prog 37 #[.slice A l.length c, .slice F fs.length d] w fun e w' => e = .returned (.bool b) ∧ w = w' := by
  by_cases h : P8 l fs
  · obtain rfl : b = true := hb.2 h
    exact few_yes A F l fs c d w hl hf hr hq hsz hfz h
  · refine (few_any A F l fs c d w hl hf hr hq hsz hfz).mono ?_
    rintro e w' ⟨b', rfl, rfl, h3⟩
    have h4 : b' = false := by cases b'; rfl; exact absurd (h3 rfl) h
    have h5 : b = false := by cases b; rfl; exact absurd (hb.1 rfl) h
    rw [h4, h5]; exact ⟨rfl, rfl⟩
end Go.Proofs.YtnheahologecfaaGreatDoor.F8
/- Few15, what a claim needs of it (prune.py). -/
namespace Go.Proofs.YtnheahologecfaaGreatDoor.Ops
open Go.RowKit
set_option linter.unusedVariables false
set_option maxRecDepth 100000
theorem okO_of {x : Op} (h0 : F8.P8 x.gr x.sn) (h1 : F8.P8 [] x.r.fs) (h2 : x.n.size ≤ 100) (h3 : x.go.size ≤ 100) : OkO x := ⟨h2, h3, h0.1, h0.2.1, h0.2.2.1, h0.2.2.2, h1.2.2.1, h1.2.2.2⟩
theorem OkO.p0 {x : Op} (h : OkO x) : F8.P8 x.gr x.sn := ⟨h.gl, h.g, h.fl, h.f⟩
theorem OkO.p1 {x : Op} (h : OkO x) : F8.P8 [] x.r.fs := ⟨by simp, (fun t ht => by cases ht), h.rl, h.r⟩
set_option maxHeartbeats 4000000 in
theorem few_is (A : Option Addr) (l : List Op) (c : Nat) (w : World) (hl : l.length ≤ maxLen) (hr : Ops w A l) (hz : ∀ x ∈ l, FitO x) {b : Bool} (hb : b = true ↔ FewP l) :
    Calls Tryz.prog 15 #[.slice A l.length c] w fun e w' => e = .returned (.bool b) ∧ Below w.heap.size w w' := by
  have NO : Hid (¬ FewP l → b = false) := Lib.hid fun h => by cases b; rfl; exact absurd (hb.1 rfl) h
  have YES : Hid (FewP l → b = true) := Lib.hid hb.2
  clear hb
  unfold maxLen at hl
  by_cases h1 : l.length ≤ 30
  · have i1 : decide ((30 : Int) < (l.length : Int)) = false := decide_eq_false (by omega)
    have ALL : Hid ((∀ j (hj : j < l.length), j < l.length → OkO l[j]) → b = true) := Lib.hid fun h => YES.out ⟨h1, mem_all h⟩
    have BAD : Hid (∀ j (hj : j < l.length), ¬ OkO l[j] → b = false) := Lib.hid fun j hj h => NO.out fun k => h (k.2 _ (List.getElem_mem hj))
    clear NO YES
    have HR := Lib.hid hr
    have HZ := Lib.hid hz
    clear hr hz
    go_enter Tryz.func15, Tryz.ntmps15
    go_wp2_with (fail)
    go_loopw [3] (fun i wx => ∃ k : Nat, i = .int .i64 k ∧ k ≤ l.length ∧ (∀ j (hj : j < l.length), j < k → OkO l[j]) ∧ Below w.heap.size w wx) (fun i _ => l.length - (intOf i).toNat)
    case atStart => exact ⟨0, rfl, by omega, (fun j hj h => by omega), Below.refl _ _⟩
    case round =>
      obtain ⟨k, rfl, hk, hok, hbx⟩ := hrel
      have HOK := Lib.hid hok
      clear hok
      by_cases hlt : k < l.length
      · have hkI : (k : Int) < (l.length : Int) := by omega
        have hrx := HR.out.below hbx
        obtain ⟨ad, Ag, cg, Af, cf, Ar, cr, rfl, had, hps, c0, c1, c2, c3, c4, c5, c6, c7, c8⟩ := hrx.nine_at hlt
        have hzz := HZ.out _ (List.getElem_mem hlt)
        have z1 := hzz.n
        have z2 := hzz.go
        unfold maxLen at z1 z2
        have FA : Hid (∀ b : Bool, (b = true ↔ F8.P8 l[k].gr l[k].sn) → ∀ W, Below wr.heap.size wr W → Calls Tryz.prog 37 #[.slice Ag l[k].gr.length cg, .slice Af l[k].sn.length cf] W fun e w' => e = .returned (.bool b) ∧ W = w') := Lib.hid fun b hb W hW =>
          F8.few_is Ag Af l[k].gr l[k].sn cg cf W (by have := hzz.gl; unfold maxLen at this; omega) (by have := hzz.fl; unfold maxLen at this; omega) (hps.below hW).g (fls_root (hps.below hW).f) hzz.g hzz.f hb
        have FB : Hid (∀ b : Bool, (b = true ↔ F8.P8 [] l[k].r.fs) → ∀ W, Below wr.heap.size wr W → Calls Tryz.prog 37 #[.slice none 0 0, .slice Ar l[k].r.fs.length cr] W fun e w' => e = .returned (.bool b) ∧ W = w') := Lib.hid fun b hb W hW =>
          F8.few_is none Ar [] l[k].r.fs 0 cr W (by decide) (by have := hzz.rl; unfold maxLen at this; omega) (Tgs.none_ _ _ _) (fls_root (hps.below hW).r) (fun t h => by cases h) hzz.r hb
        have MU : Hid (OkO l[k] → ∀ j (hj : j < l.length), j < k + 1 → OkO l[j]) := Lib.hid fun h => mem_upto hlt HOK.out h
        have BK : Hid (¬ OkO l[k] → b = false) := Lib.hid (BAD.out k hlt)
        have BX : Hid (∀ W, Below wr.heap.size wr W → Below w.heap.size w W) := Lib.hid fun W hW => hbx.trans (hW.mono hbx.size)
        have cat : ∀ (j : Nat) (v : Value), wr.cell? ⟨(ad.add (k * 9)).block, j, none⟩ = some v → ∀ W, Below wr.heap.size wr W → W.cell? ⟨(ad.add (k * 9)).block, j, none⟩ = some v := fun j v h W hW => (hW.cell (by show (ad.add (k * 9)).block < _; rw [block_of_add]; exact had)).trans h
        have d0 : ∀ W, Below wr.heap.size wr W → W.cell? (ad.add (k * 9)) = some (.string l[k].n) := fun W hW => (hW.cell (by rw [block_of_add]; exact had)).trans c0
        have d1 := cat _ _ c1
        have d2 := cat _ _ c2
        have d3 := cat _ _ c3
        have d8 := cat _ _ c8
        clear hps hzz c0 c1 c2 c3 c4 c5 c6 c7 c8 cat hrx
        generalize l[k] = x at *
        have MK := Lib.hid (@okO_of x)
        have R0 := Lib.hid (@OkO.p0 x)
        have R1 := Lib.hid (@OkO.p1 x)
        have R2 := Lib.hid (@OkO.n x)
        have R3 := Lib.hid (@OkO.go x)
        by_cases h0 : F8.P8 x.gr x.sn
        · by_cases h1 : F8.P8 [] x.r.fs
          · by_cases h2 : x.n.size ≤ 100
            · by_cases h3 : x.go.size ≤ 100
              · have F := Lib.hid (MU.out (MK.out h0 h1 h2 h3))
                have T0 := Lib.hid (FA.out true (by simp [h0]))
                have T1 := Lib.hid (FB.out true (by simp [h1]))
                have j2 : (decide ((100 : Int) < (x.n.size : Int))) = false := decide_eq_false (by omega)
                have j3 : (decide ((100 : Int) < (x.go.size : Int))) = false := decide_eq_false (by omega)
                clear FA FB MK MU BK R0 R1 R2 R3 h0 h1 h2 h3
                go_wp2_with (fail)
                refine wp_region_cls (C := fun w' => Below wr.heap.size wr w') (by kernel_rfl) (by kernel_rfl) (Below.refl _ _).drew ?_
                repeat (first | go_big_quiet_skip | quiet_step (first | (intro _; rfl) | (intro hss; simp only [d0 _ hss, d1 _ hss, d2 _ hss, d3 _ hss, d8 _ hss, Result.andThen]; first | exact ⟨rfl, rfl⟩ | exact ⟨trivial, rfl⟩ | exact rfl) | (intro hss; go_at_call 37; (with_reducible refine (T0.out _ hss).mono ?_); rintro e w4 ⟨rfl, rfl⟩; exact ⟨rfl, hss⟩) | (intro hss; go_at_call 37; (with_reducible refine (T1.out _ hss).mono ?_); rintro e w4 ⟨rfl, rfl⟩; exact ⟨rfl, hss⟩) | (intro _; rw [if_neg (by omega)]; exact ⟨rfl, rfl⟩) | (fail)))
                refine wpQuiet_nil ?_
                intro w2 hb2
                go_wp2
                go_roundw
                case rel => exact ⟨k + 1, by go_num, by omega, F.out, BX.out _ hb2⟩
                case measure => simp [intOf]; omega
              · have F := Lib.hid (BK.out (fun h => h3 (R3.out h)))
                have T0 := Lib.hid (FA.out true (by simp [h0]))
                have T1 := Lib.hid (FB.out true (by simp [h1]))
                have j2 : (decide ((100 : Int) < (x.n.size : Int))) = false := decide_eq_false (by omega)
                have j3 : (decide ((100 : Int) < (x.go.size : Int))) = true := decide_eq_true (by omega)
                clear FA FB MK MU BK R0 R1 R2 R3 h0 h1 h2 h3
                go_wp2_with (fail)
                refine wp_region_cls (C := fun w' => Below wr.heap.size wr w') (by kernel_rfl) (by kernel_rfl) (Below.refl _ _).drew ?_
                repeat (first | go_big_quiet_skip | quiet_step (first | (intro _; rfl) | (intro hss; simp only [d0 _ hss, d1 _ hss, d2 _ hss, d3 _ hss, d8 _ hss, Result.andThen]; first | exact ⟨rfl, rfl⟩ | exact ⟨trivial, rfl⟩ | exact rfl) | (intro hss; go_at_call 37; (with_reducible refine (T0.out _ hss).mono ?_); rintro e w4 ⟨rfl, rfl⟩; exact ⟨rfl, hss⟩) | (intro hss; go_at_call 37; (with_reducible refine (T1.out _ hss).mono ?_); rintro e w4 ⟨rfl, rfl⟩; exact ⟨rfl, hss⟩) | (intro _; rw [if_neg (by omega)]; exact ⟨rfl, rfl⟩) | (fail)))
                refine wpQuiet_nil ?_
                intro w2 hb2
                go_wp2
                go_ret
                exact ⟨Lg.ret_bool F.out, BX.out _ hb2⟩
            · have F := Lib.hid (BK.out (fun h => h2 (R2.out h)))
              have T0 := Lib.hid (FA.out true (by simp [h0]))
              have T1 := Lib.hid (FB.out true (by simp [h1]))
              have j2 : (decide ((100 : Int) < (x.n.size : Int))) = true := decide_eq_true (by omega)
              clear FA FB MK MU BK R0 R1 R2 R3 h0 h1 h2
              go_wp2_with (fail)
              refine wp_region_cls (C := fun w' => Below wr.heap.size wr w') (by kernel_rfl) (by kernel_rfl) (Below.refl _ _).drew ?_
              repeat (first | go_big_quiet_skip | quiet_step (first | (intro _; rfl) | (intro hss; simp only [d0 _ hss, d1 _ hss, d2 _ hss, d8 _ hss, Result.andThen]; first | exact ⟨rfl, rfl⟩ | exact ⟨trivial, rfl⟩ | exact rfl) | (intro hss; go_at_call 37; (with_reducible refine (T0.out _ hss).mono ?_); rintro e w4 ⟨rfl, rfl⟩; exact ⟨rfl, hss⟩) | (intro hss; go_at_call 37; (with_reducible refine (T1.out _ hss).mono ?_); rintro e w4 ⟨rfl, rfl⟩; exact ⟨rfl, hss⟩) | (intro _; rw [if_neg (by omega)]; exact ⟨rfl, rfl⟩) | (fail)))
              refine wpQuiet_nil ?_
              intro w2 hb2
              go_wp2
              go_ret
              exact ⟨Lg.ret_bool F.out, BX.out _ hb2⟩
          · have F := Lib.hid (BK.out (fun h => h1 (R1.out h)))
            have T0 := Lib.hid (FA.out true (by simp [h0]))
            have T1 := Lib.hid (FB.out false (by simp [h1]))
            clear FA FB MK MU BK R0 R1 R2 R3 h0 h1
            go_wp2_with (fail)
            refine wp_region_cls (C := fun w' => Below wr.heap.size wr w') (by kernel_rfl) (by kernel_rfl) (Below.refl _ _).drew ?_
            repeat (first | go_big_quiet_skip | quiet_step (first | (intro _; rfl) | (intro hss; simp only [d1 _ hss, d2 _ hss, d8 _ hss, Result.andThen]; first | exact ⟨rfl, rfl⟩ | exact ⟨trivial, rfl⟩ | exact rfl) | (intro hss; go_at_call 37; (with_reducible refine (T0.out _ hss).mono ?_); rintro e w4 ⟨rfl, rfl⟩; exact ⟨rfl, hss⟩) | (intro hss; go_at_call 37; (with_reducible refine (T1.out _ hss).mono ?_); rintro e w4 ⟨rfl, rfl⟩; exact ⟨rfl, hss⟩) | (intro _; rw [if_neg (by omega)]; exact ⟨rfl, rfl⟩) | (fail)))
            refine wpQuiet_nil ?_
            intro w2 hb2
            go_wp2
            go_ret
            exact ⟨Lg.ret_bool F.out, BX.out _ hb2⟩
        · have F := Lib.hid (BK.out (fun h => h0 (R0.out h)))
          have T0 := Lib.hid (FA.out false (by simp [h0]))
          clear FA FB MK MU BK R0 R1 R2 R3 h0
          go_wp2_with (fail)
          refine wp_region_cls (C := fun w' => Below wr.heap.size wr w') (by kernel_rfl) (by kernel_rfl) (Below.refl _ _).drew ?_
          repeat (first | go_big_quiet_skip | quiet_step (first | (intro _; rfl) | (intro hss; simp only [d1 _ hss, d2 _ hss, Result.andThen]; first | exact ⟨rfl, rfl⟩ | exact ⟨trivial, rfl⟩ | exact rfl) | (intro hss; go_at_call 37; (with_reducible refine (T0.out _ hss).mono ?_); rintro e w4 ⟨rfl, rfl⟩; exact ⟨rfl, hss⟩) | (intro _; rw [if_neg (by omega)]; exact ⟨rfl, rfl⟩) | (fail)))
          refine wpQuiet_nil ?_
          intro w2 hb2
          go_wp2
          go_ret
          exact ⟨Lg.ret_bool F.out, BX.out _ hb2⟩
      · obtain rfl : k = l.length := by omega
        have F := Lib.hid (ALL.out HOK.out)
        go_wp2_with (fail)
        go_ret
        exact ⟨Lg.ret_bool F.out, hbx⟩
  · have i1 : decide ((30 : Int) < (l.length : Int)) = true := decide_eq_true (by omega)
    have F := Lib.hid (NO.out (fun h => h1 h.1))
    go_enter Tryz.func15, Tryz.ntmps15
    go_wp2_with (fail)
    go_ret
    exact ⟨Lg.ret_bool F.out, Below.refl _ _⟩
end Go.Proofs.YtnheahologecfaaGreatDoor.Ops
/- OpEvs, what a claim needs of it (prune.py). -/
namespace Go.Proofs.YtnheahologecfaaGreatDoor.Ops
open Go.ChangeShapes Go.WideShapes Go.Deep Go.RowKit Go.ChangeMaps
set_option linter.unusedVariables false
set_option maxRecDepth 100000
def EvAt (w : World) (a : Addr) (e : Ev) : Prop := ∃ Ag cg Af cf Ar cr, Parts w e.x Ag cg Af cf Ar cr ∧ ∀ j u, (Value.int .i64 e.k :: cellsOf e.x Ag cg Af cf Ar cr)[j]? = some u → w.cell? (a.add j) = some u
def Evs (w : World) (A : Option Addr) (l : List Ev) : Prop := 0 < l.length → ∃ ad, A = some ad ∧ ad.block < w.heap.size ∧ ∀ k (hk : k < l.length), EvAt w (ad.add (k * 10)) l[k]
theorem Evs.below {w w' : World} {A : Option Addr} {l : List Ev} (h : Evs w A l) (hb : Below w.heap.size w w') : Evs w' A l := fun h0 => by
  obtain ⟨ad, e, hl, hk⟩ := h h0
  refine ⟨ad, e, by have := hb.size; omega, fun k hk' => ?_⟩
  obtain ⟨Ag, cg, Af, cf, Ar, cr, hp, hc⟩ := hk k hk'
  exact ⟨Ag, cg, Af, cf, Ar, cr, hp.below hb, fun j u hu => (hb.cell (by rw [block_of_add, block_of_add]; exact hl)).trans (hc j u hu)⟩
section
variable {H : Type} {enc : TypeId × Value → H} {W : World}
theorem fO : ∃ fs, Tryz.prog.underlying 29 = some (.struct fs) ∧ ∃ rs, Tryz.prog.underlying 27 = some (.struct rs) ∧ nestFields Tryz.prog 27 fs rs = true ∧ opTypes fs rs 27 = true := ⟨_, Tryz.underlying29, _, Tryz.underlying27, by kernel_rfl, by kernel_rfl⟩
theorem open_ops {r : Reach} {b0 : Nat} {v : Value} {d : DataW H} {p : List MemPlace} (hv : Value.okWide Tryz.prog W r b0 22 v) (h : DataW.Trod enc Tryz.prog W 0 (fun _ => true) true 22 v d p) :
    ∃ A l c, v = .slice A (List.length l) c ∧ Ops W A l ∧ l.length ≤ maxLen ∧ (∀ x ∈ l, FitO x) ∧ l.length ≤ c := by
  obtain ⟨a0, len0, cap0, rfl⟩ := okWide_slice Tryz.underlying22 hv
  obtain ⟨fuel, hf⟩ := h
  obtain ⟨fs, h1, rs, h2, h3, h4⟩ := fO
  exact ops_of Tryz.underlying22 h1 h2 h3 (by kernel_rfl) (by kernel_rfl) h4 hf
theorem event_in {cs : List Value} {fuel : Nat} {y : DataW H × List MemPlace} (h : DataW.trod enc Tryz.prog W 0 (fun _ => true) true fuel 31 cs = some y) :
    ∃ k x Ag cg Af cf Ar cr, cs = .int .i64 k :: cellsOf x Ag cg Af cf Ar cr ∧ Parts W x Ag cg Af cf Ar cr ∧ FitO x ∧ (-9223372036854775808 ≤ k ∧ k ≤ 9223372036854775807) ∧ Caps W Ag x.gr.length := by
  obtain ⟨fs, h1, rs, h2, h3, h4⟩ := fO
  exact open_event Tryz.underlying31 ⟨rfl, rfl⟩ ⟨rfl, rfl⟩ (by kernel_rfl) (by kernel_rfl) h1 h2 h3 (by kernel_rfl) (by kernel_rfl) h4 h
theorem open_ev {r : Reach} {b0 : Nat} {v : Value} {d : DataW H} {p : List MemPlace} (hv : Value.okWide Tryz.prog W r b0 31 v) (h : DataW.Trod enc Tryz.prog W 0 (fun _ => true) true 31 v d p) :
    ∃ k x Ag cg Af cf Ar cr, v = evOf k x Ag cg Af cf Ar cr ∧ Parts W x Ag cg Af cf Ar cr ∧ FitO x ∧ (-9223372036854775808 ≤ k ∧ k ≤ 9223372036854775807) ∧ Caps W Ag x.gr.length := by
  obtain ⟨cs, rfl, _⟩ := okWide_struct Tryz.underlying31 hv
  obtain ⟨fuel, h⟩ := h
  obtain ⟨k, x, Ag, cg, Af, cf, Ar, cr, e, hp, hx, hk⟩ := event_in h
  refine ⟨k, x, Ag, cg, Af, cf, Ar, cr, ?_, hp, hx, hk⟩
  have : cs = (Value.int .i64 k :: cellsOf x Ag cg Af cf Ar cr).toArray := by
    cases cs
    exact congrArg Array.mk e
  rw [this]
  rfl
end
end Go.Proofs.YtnheahologecfaaGreatDoor.Ops
/- OpIn, what a claim needs of it (prune.py). -/
namespace Go.Proofs.YtnheahologecfaaGreatDoor.Ops
open Go.RowKit
set_option linter.unusedVariables false
set_option maxRecDepth 100000
def Yes (w : World) (e : Ending) (w' : World) : Prop := e = .returned (.bool true) ∧ Below w.heap.size w w'
theorem few_at {w W : World} {A : Option Addr} {l : List Op} (c : Nat) (hr : Ops w A l) (hm : l.length ≤ maxLen) (hz : ∀ x ∈ l, FitO x) (hW : Below w.heap.size w W) {b : Bool} (hb : b = true ↔ FewP l) :
    Calls Tryz.prog 15 #[.slice A l.length c] W fun e w' => e = .returned (.bool b) ∧ Below W.heap.size W w' := few_is A l c W hm (hr.below hW) hz hb
theorem few_one {x : Op} : FewP [x] ↔ OkO x := ⟨fun h => h.2 x (List.mem_singleton_self _), fun h => ⟨by simp, fun y hy => by rw [List.mem_singleton.1 hy]; exact h⟩⟩
theorem few_new {w W : World} {x : Op} {Ag : Option Addr} {cg : Nat} {Af : Option Addr} {cf : Nat} {Ar : Option Addr} {cr : Nat} (hp : Parts w x Ag cg Af cf Ar cr) (hz : FitO x) (hW : Below w.heap.size w W) {b : Bool} (hb : b = true ↔ OkO x) :
    Calls Tryz.prog 15 #[.slice (some ⟨W.heap.size, 0, none⟩) 1 1] (W.alloc (.cells #[.string x.n, .slice Ag x.gr.length cg, .slice Af x.sn.length cf, .string x.go, .int .i64 x.st, .int .i64 x.r.e, .string x.r.at_, .string x.r.tx, .slice Ar x.r.fs.length cr] 29)) fun e w' => e = .returned (.bool b) ∧ Below W.heap.size W w' := by
  have ha : Below W.heap.size W (W.alloc (.cells #[.string x.n, .slice Ag x.gr.length cg, .slice Af x.sn.length cf, .string x.go, .int .i64 x.st, .int .i64 x.r.e, .string x.r.at_, .string x.r.tx, .slice Ar x.r.fs.length cr] 29)) := (Below.refl _ _).alloc (Nat.le_refl _) _
  refine (few_is (some ⟨W.heap.size, 0, none⟩) [x] 1 _ (by show 1 ≤ _; unfold maxLen; omega) (ops_blk (heap_alloc_new W _) ((hp.below hW).below ha)) (fun y hy => by rw [List.mem_singleton.1 hy]; exact hz) (hb.trans few_one.symm)).mono ?_
  rintro e w' ⟨h1, h2⟩
  exact ⟨h1, ha.trans (h2.mono ha.size)⟩
theorem apply_in {A : Option Addr} {l m : List Op} {c n q : Nat} {k f : Int} {x : Op} {Ag : Option Addr} {cg : Nat} {Af : Option Addr} {cf : Nat} {Ar : Option Addr} {cr : Nat} {W : World} (hE : Lg.Env W) (h : apply wrongV orderB l ⟨k, x⟩ = (m, f)) (hl : ∀ y ∈ l, OkO y) (hx : OkO x) (hr : Ops W A l) (hn : l.length = n) (hq : m.length = q) (hll : n ≤ 1000) (hlc : n ≤ c) (hp : Parts W x Ag cg Af cf Ar cr) :
    Calls Tryz.prog 17 #[.slice A n c, .agg #[.int .i64 k, .string x.n, .slice Ag x.gr.length cg, .slice Af x.sn.length cf, .string x.go, .int .i64 x.st, .int .i64 x.r.e, .string x.r.at_, .string x.r.tx, .slice Ar x.r.fs.length cr]] W (ExSays m q f W) := by
  subst hn hq
  have := apply_any A l c k x Ag cg Af cf Ar cr W hE hl hx hr hll hlc hp
  rw [h] at this
  exact this
theorem ten {w : World} {g : Nat} {a0 a1 a2 a3 a4 a5 a6 a7 a8 a9 : Value} {T : TypeId} (h : w.heap[g]? = some (.cells #[a0, a1, a2, a3, a4, a5, a6, a7, a8, a9] T (0, 0))) :
    w.cell? ⟨g, 0, none⟩ = some a0 ∧ w.cell? ⟨g, 1, none⟩ = some a1 ∧ w.cell? ⟨g, 2, none⟩ = some a2 ∧ w.cell? ⟨g, 3, none⟩ = some a3 ∧ w.cell? ⟨g, 4, none⟩ = some a4 ∧ w.cell? ⟨g, 5, none⟩ = some a5 ∧ w.cell? ⟨g, 6, none⟩ = some a6 ∧ w.cell? ⟨g, 7, none⟩ = some a7 ∧ w.cell? ⟨g, 8, none⟩ = some a8 ∧ w.cell? ⟨g, 9, none⟩ = some a9 :=
  ⟨cell_of_row w g 0 _ _ _ h, cell_of_row w g 1 _ _ _ h, cell_of_row w g 2 _ _ _ h, cell_of_row w g 3 _ _ _ h, cell_of_row w g 4 _ _ _ h, cell_of_row w g 5 _ _ _ h, cell_of_row w g 6 _ _ _ h, cell_of_row w g 7 _ _ _ h, cell_of_row w g 8 _ _ _ h, cell_of_row w g 9 _ _ _ h⟩
end Go.Proofs.YtnheahologecfaaGreatDoor.Ops
