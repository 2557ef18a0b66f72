/- Joined by mkmerged.py: Few8, FewYes8. -/
import Derived.Test.YtdidnlkilleljaaGreatDoorMf37
/- Few8, what a claim needs of it (prune.py). -/
namespace Go.Proofs.YtdidnlkilleljaaGreatDoor.F8
open Go.RowKit
set_option linter.unusedVariables false
set_option maxRecDepth 100000
def FewSays (l : List Tg) (fs : List Fl) (w : World) (e : Ending) (w' : World) : Prop := ∃ b, e = .returned (.bool b) ∧ w = w' ∧ (b = true → l.length ≤ 20 ∧ (∀ t ∈ l, t.Ok) ∧ fs.length ≤ 60 ∧ ∀ f ∈ fs, f.Ok)
theorem FewSays.no (l : List Tg) (fs : List Fl) (w : World) : FewSays l fs w (.returned (.bool false)) w := ⟨false, rfl, rfl, fun h => by cases h⟩
set_option maxHeartbeats 4000000 in
theorem few_any (A F : Option Addr) (l : List Tg) (fs : List Fl) (c d : Nat) (w : World) (hl : l.length ≤ 9223372036854775807) (hf : fs.length ≤ 9223372036854775807) (hr : Tgs w w.heap.size A l) (hq : Fls w w.heap.size F fs)
    (hsz : ∀ t ∈ l, t.n.size ≤ maxLen ∧ t.c.size ≤ maxLen ∧ t.ds.length ≤ maxLen ∧ t.ss.length ≤ maxLen) (hfz : ∀ f ∈ fs, f.p.size ≤ maxLen ∧ f.d.size ≤ maxLen) :
    Calls Tryz.prog 17 #[.slice A l.length c, .slice F fs.length d] w (FewSays l fs w) := by
  by_cases h1 : l.length ≤ 20
  · by_cases h2 : fs.length ≤ 60
    · have i1 : decide ((20 : Int) < (l.length : Int)) = false := decide_eq_false (by omega)
      have i2 : decide ((60 : Int) < (fs.length : Int)) = false := decide_eq_false (by omega)
      have H1 := Lib.hid h1
      have H2 := Lib.hid h2
      go_enter Tryz.func17, Tryz.ntmps17
      go_wp2_with (fail)
      go_loop [5] (fun i => ∃ k : Nat, i = .int .i64 k ∧ k ≤ fs.length ∧ ∀ j (hj : j < fs.length), j < k → fs[j].Ok) (fun i => fs.length - (intOf i).toNat)
      case atStart => exact ⟨0, rfl, by omega, fun j hj h => by omega⟩
      case round =>
        obtain ⟨k, rfl, hk, hok⟩ := hrel
        have HOK := Lib.hid hok
        clear hok
        by_cases hlt : k < fs.length
        · obtain ⟨ad, rfl, had, hcs⟩ := hq (by omega)
          obtain ⟨c0, c1⟩ := hcs k hlt
          have e1 : w.cell? ⟨(ad.add (k * 2)).block, (ad.add (k * 2)).off + 1, none⟩ = some (.string fs[k].d) := c1
          have hkI : (k : Int) < (fs.length : Int) := by omega
          have hzz := hfz _ (List.getElem_mem hlt)
          unfold maxLen at hzz
          have MU := Lib.hid (fun (h : fs[k].Ok) => mem_upto (Q := Fl.Ok) hlt HOK.out h)
          clear c1 hcs
          generalize fs[k] = f at *
          by_cases g1 : f.p.size ≤ 200
          · by_cases g2 : f.d.size ≤ 3000
            · have j1 : decide ((200 : Int) < (f.p.size : Int)) = false := decide_eq_false (by omega)
              have j2 : decide ((3000 : Int) < (f.d.size : Int)) = false := decide_eq_false (by omega)
              have G := Lib.hid (⟨g1, g2⟩ : f.Ok)
              go_wp2_with (fail)
              go_round
              case rel => exact ⟨k + 1, by go_num, by omega, MU.out G.out⟩
              case measure => simp [intOf]; omega
            · have j1 : decide ((200 : Int) < (f.p.size : Int)) = false := decide_eq_false (by omega)
              have j2 : decide ((3000 : Int) < (f.d.size : Int)) = true := decide_eq_true (by omega)
              go_wp2_with (fail)
              go_ret
              exact FewSays.no l fs w
          · have j1 : decide ((200 : Int) < (f.p.size : Int)) = true := decide_eq_true (by omega)
            go_wp2_with (fail)
            go_ret
            exact FewSays.no l fs w
        · obtain rfl : k = fs.length := by omega
          have FOK := Lib.hid (mem_all HOK.out)
          clear HOK
          go_wp2_with (fail)
          go_loop [6] (fun i => ∃ k : Nat, i = .int .i64 k ∧ k ≤ l.length ∧ ∀ j (hj : j < l.length), j < k → l[j].Ok) (fun i => l.length - (intOf i).toNat)
          case atStart => exact ⟨0, rfl, by omega, fun j hj h => by omega⟩
          case round =>
            obtain ⟨k, rfl, hk, hok⟩ := hrel
            have HOK := Lib.hid hok
            clear hok
            by_cases hlt : k < l.length
            · obtain ⟨ad, rfl, had, hcs⟩ := hr (by omega)
              obtain ⟨Ad, cd, As, cs, c0, c1, c2, c3, hd, hs⟩ := hcs k hlt
              have e1 : w.cell? ⟨(ad.add (k * 4)).block, (ad.add (k * 4)).off + 1, none⟩ = some (.string l[k].c) := c1
              have e2 : w.cell? ⟨(ad.add (k * 4)).block, (ad.add (k * 4)).off + 2, none⟩ = some (.slice Ad l[k].ds.length cd) := c2
              have e3 : w.cell? ⟨(ad.add (k * 4)).block, (ad.add (k * 4)).off + 3, none⟩ = some (.slice As l[k].ss.length cs) := c3
              have hkI : (k : Int) < (l.length : Int) := by omega
              have hzz := hsz _ (List.getElem_mem hlt)
              unfold maxLen at hzz
              have MU := Lib.hid (fun (h : l[k].Ok) => mem_upto (Q := Tg.Ok) hlt HOK.out h)
              clear c1 c2 c3 hcs HOK
              generalize l[k] = t at *
              by_cases g1 : t.n.size ≤ 100
              · have j1 : decide ((100 : Int) < (t.n.size : Int)) = false := decide_eq_false (by omega)
                by_cases g2 : t.c.size ≤ 2000
                · have j2 : decide ((2000 : Int) < (t.c.size : Int)) = false := decide_eq_false (by omega)
                  by_cases g3 : t.ds.length ≤ 20
                  · have j3 : decide ((20 : Int) < (t.ds.length : Int)) = false := decide_eq_false (by omega)
                    by_cases g4 : t.ss.length ≤ 40
                    · have j4 : decide ((40 : Int) < (t.ss.length : Int)) = false := decide_eq_false (by omega)
                      go_wp2_with (fail)
                      go_loop [7] (fun i => ∃ q : Nat, i = .int .i64 q ∧ q ≤ t.ds.length ∧ ∀ j (hj : j < t.ds.length), j < q → t.ds[j].size ≤ 100) (fun i => t.ds.length - (intOf i).toNat)
                      case atStart => exact ⟨0, rfl, by omega, fun j hj h => by omega⟩
                      case round =>
                        obtain ⟨q, rfl, hq, hok⟩ := hrel
                        by_cases hqt : q < t.ds.length
                        · obtain ⟨bd, rfl, hbd, hcq⟩ := hd.at_ hqt
                          have hqI : (q : Int) < (t.ds.length : Int) := by omega
                          have MQ := Lib.hid (fun (h : t.ds[q].size ≤ 100) => mem_upto (Q := fun x : ByteArray => x.size ≤ 100) hqt hok h)
                          clear hok
                          generalize t.ds[q] = x at *
                          by_cases gx : x.size ≤ 100
                          · have jx : ¬ (100 : Int) < (x.size : Int) := by omega
                            have GX := Lib.hid gx
                            go_wp2_with (fail)
                            go_round
                            case rel => exact ⟨q + 1, by go_num, by omega, MQ.out GX.out⟩
                            case measure => simp [intOf]; omega
                          · have jx : (100 : Int) < (x.size : Int) := by omega
                            go_wp2_with (fail)
                            go_ret
                            exact FewSays.no l fs w
                        · obtain rfl : q = t.ds.length := by omega
                          have DOK := Lib.hid (mem_all (l := t.ds) (Q := fun x : ByteArray => x.size ≤ 100) hok)
                          clear hok
                          go_wp2_with (fail)
                          go_loop [8] (fun i => ∃ q : Nat, i = .int .i64 q ∧ q ≤ t.ss.length ∧ ∀ j (hj : j < t.ss.length), j < q → t.ss[j].size ≤ 100) (fun i => t.ss.length - (intOf i).toNat)
                          case atStart => exact ⟨0, rfl, by omega, fun j hj h => by omega⟩
                          case round =>
                            obtain ⟨q, rfl, hq, hok⟩ := hrel
                            by_cases hqt : q < t.ss.length
                            · obtain ⟨bd, rfl, hbd, hcq⟩ := hs.at_ hqt
                              have hqI : (q : Int) < (t.ss.length : Int) := by omega
                              have MQ := Lib.hid (fun (h : t.ss[q].size ≤ 100) => mem_upto (Q := fun x : ByteArray => x.size ≤ 100) hqt hok h)
                              clear hok
                              generalize t.ss[q] = x at *
                              by_cases gx : x.size ≤ 100
                              · have jx : ¬ (100 : Int) < (x.size : Int) := by omega
                                have GX := Lib.hid gx
                                go_wp2_with (fail)
                                go_round
                                case rel => exact ⟨q + 1, by go_num, by omega, MQ.out GX.out⟩
                                case measure => simp [intOf]; omega
                              · have jx : (100 : Int) < (x.size : Int) := by omega
                                go_wp2_with (fail)
                                go_ret
                                exact FewSays.no l fs w
                            · obtain rfl : q = t.ss.length := by omega
                              have G := Lib.hid (⟨g1, g2, g3, g4, DOK.out, mem_all (l := t.ss) (Q := fun x : ByteArray => x.size ≤ 100) hok⟩ : t.Ok)
                              clear hok
                              go_wp2_with (fail)
                              go_round
                              case rel => exact ⟨k + 1, by go_num, by omega, MU.out G.out⟩
                              case measure => simp [intOf]; omega
                    · have j4 : decide ((40 : Int) < (t.ss.length : Int)) = true := decide_eq_true (by omega)
                      go_wp2_with (fail)
                      go_ret
                      exact FewSays.no l fs w
                  · have j3 : decide ((20 : Int) < (t.ds.length : Int)) = true := decide_eq_true (by omega)
                    go_wp2_with (fail)
                    go_ret
                    exact FewSays.no l fs w
                · have j2 : decide ((2000 : Int) < (t.c.size : Int)) = true := decide_eq_true (by omega)
                  go_wp2_with (fail)
                  go_ret
                  exact FewSays.no l fs w
              · have j1 : decide ((100 : Int) < (t.n.size : Int)) = true := decide_eq_true (by omega)
                go_wp2_with (fail)
                go_ret
                exact FewSays.no l fs w
            · obtain rfl : k = l.length := by omega
              go_wp2_with (fail)
              go_ret
              exact ⟨true, rfl, rfl, fun _ => ⟨H1.out, mem_all HOK.out, H2.out, FOK.out⟩⟩
    · have i1 : decide ((20 : Int) < (l.length : Int)) = false := decide_eq_false (by omega)
      have i2 : decide ((60 : Int) < (fs.length : Int)) = true := decide_eq_true (by omega)
      go_enter Tryz.func17, Tryz.ntmps17
      go_wp2_with (fail)
      go_ret
      exact FewSays.no l fs w
  · have i1 : decide ((20 : Int) < (l.length : Int)) = true := decide_eq_true (by omega)
    go_enter Tryz.func17, Tryz.ntmps17
    go_wp2_with (fail)
    go_ret
    exact FewSays.no l fs w
end Go.Proofs.YtdidnlkilleljaaGreatDoor.F8
/- FewYes8, what a claim needs of it (prune.py). -/
namespace Go.Proofs.YtdidnlkilleljaaGreatDoor.F8
open Go.RowKit
set_option linter.unusedVariables false
set_option maxRecDepth 100000
set_option maxHeartbeats 4000000 in
theorem few_yes (A F : Option Addr) (l : List Tg) (fs : List Fl) (c d : Nat) (w : World) (hl : l.length ≤ 9223372036854775807) (hf : fs.length ≤ 9223372036854775807) (hr : Tgs w w.heap.size A l) (hq : Fls w w.heap.size F fs)
    (hsz : ∀ t ∈ l, t.n.size ≤ maxLen ∧ t.c.size ≤ maxLen ∧ t.ds.length ≤ maxLen ∧ t.ss.length ≤ maxLen) (hfz : ∀ f ∈ fs, f.p.size ≤ maxLen ∧ f.d.size ≤ maxLen) (hP : l.length ≤ 20 ∧ (∀ t ∈ l, t.Ok) ∧ fs.length ≤ 60 ∧ ∀ f ∈ fs, f.Ok) :
    Calls Tryz.prog 17 #[.slice A l.length c, .slice F fs.length d] w fun e w' => e = .returned (.bool true) ∧ w = w' := by
  have HP := Lib.hid hP
  clear hP
  by_cases h1 : l.length ≤ 20
  · by_cases h2 : fs.length ≤ 60
    · have i1 : decide ((20 : Int) < (l.length : Int)) = false := decide_eq_false (by omega)
      have i2 : decide ((60 : Int) < (fs.length : Int)) = false := decide_eq_false (by omega)
      have H1 := Lib.hid h1
      have H2 := Lib.hid h2
      go_enter Tryz.func17, Tryz.ntmps17
      go_wp2_with (fail)
      go_loop [5] (fun i => ∃ k : Nat, i = .int .i64 k ∧ k ≤ fs.length ∧ ∀ j (hj : j < fs.length), j < k → fs[j].Ok) (fun i => fs.length - (intOf i).toNat)
      case atStart => exact ⟨0, rfl, by omega, fun j hj h => by omega⟩
      case round =>
        obtain ⟨k, rfl, hk, hok⟩ := hrel
        have HOK := Lib.hid hok
        clear hok
        by_cases hlt : k < fs.length
        · obtain ⟨ad, rfl, had, hcs⟩ := hq (by omega)
          obtain ⟨c0, c1⟩ := hcs k hlt
          have e1 : w.cell? ⟨(ad.add (k * 2)).block, (ad.add (k * 2)).off + 1, none⟩ = some (.string fs[k].d) := c1
          have hkI : (k : Int) < (fs.length : Int) := by omega
          have hzz := hfz _ (List.getElem_mem hlt)
          unfold maxLen at hzz
          have MU := Lib.hid (fun (h : fs[k].Ok) => mem_upto (Q := Fl.Ok) hlt HOK.out h)
          clear c1 hcs
          have OKf := Lib.hid (HP.out.2.2.2 _ (List.getElem_mem hlt))
          generalize fs[k] = f at *
          by_cases g1 : f.p.size ≤ 200
          · by_cases g2 : f.d.size ≤ 3000
            · have j1 : decide ((200 : Int) < (f.p.size : Int)) = false := decide_eq_false (by omega)
              have j2 : decide ((3000 : Int) < (f.d.size : Int)) = false := decide_eq_false (by omega)
              have G := Lib.hid (⟨g1, g2⟩ : f.Ok)
              go_wp2_with (fail)
              go_round
              case rel => exact ⟨k + 1, by go_num, by omega, MU.out G.out⟩
              case measure => simp [intOf]; omega
            · have j1 : decide ((200 : Int) < (f.p.size : Int)) = false := decide_eq_false (by omega)
              have j2 : decide ((3000 : Int) < (f.d.size : Int)) = true := decide_eq_true (by omega)
              go_wp2_with (fail)
              go_ret
              exact absurd (show False by first | (have := OKx.out; omega) | (have := OKt.out.n; have := OKt.out.c; have := OKt.out.dl; have := OKt.out.sl; omega) | (have := OKf.out.p; have := OKf.out.d; omega) | (have := HP.out.1; have := HP.out.2.2.1; omega)) id
          · have j1 : decide ((200 : Int) < (f.p.size : Int)) = true := decide_eq_true (by omega)
            go_wp2_with (fail)
            go_ret
            exact absurd (show False by first | (have := OKx.out; omega) | (have := OKt.out.n; have := OKt.out.c; have := OKt.out.dl; have := OKt.out.sl; omega) | (have := OKf.out.p; have := OKf.out.d; omega) | (have := HP.out.1; have := HP.out.2.2.1; omega)) id
        · obtain rfl : k = fs.length := by omega
          have FOK := Lib.hid (mem_all HOK.out)
          clear HOK
          go_wp2_with (fail)
          go_loop [6] (fun i => ∃ k : Nat, i = .int .i64 k ∧ k ≤ l.length ∧ ∀ j (hj : j < l.length), j < k → l[j].Ok) (fun i => l.length - (intOf i).toNat)
          case atStart => exact ⟨0, rfl, by omega, fun j hj h => by omega⟩
          case round =>
            obtain ⟨k, rfl, hk, hok⟩ := hrel
            have HOK := Lib.hid hok
            clear hok
            by_cases hlt : k < l.length
            · obtain ⟨ad, rfl, had, hcs⟩ := hr (by omega)
              obtain ⟨Ad, cd, As, cs, c0, c1, c2, c3, hd, hs⟩ := hcs k hlt
              have e1 : w.cell? ⟨(ad.add (k * 4)).block, (ad.add (k * 4)).off + 1, none⟩ = some (.string l[k].c) := c1
              have e2 : w.cell? ⟨(ad.add (k * 4)).block, (ad.add (k * 4)).off + 2, none⟩ = some (.slice Ad l[k].ds.length cd) := c2
              have e3 : w.cell? ⟨(ad.add (k * 4)).block, (ad.add (k * 4)).off + 3, none⟩ = some (.slice As l[k].ss.length cs) := c3
              have hkI : (k : Int) < (l.length : Int) := by omega
              have hzz := hsz _ (List.getElem_mem hlt)
              unfold maxLen at hzz
              have MU := Lib.hid (fun (h : l[k].Ok) => mem_upto (Q := Tg.Ok) hlt HOK.out h)
              clear c1 c2 c3 hcs HOK
              have OKt := Lib.hid (HP.out.2.1 _ (List.getElem_mem hlt))
              generalize l[k] = t at *
              by_cases g1 : t.n.size ≤ 100
              · have j1 : decide ((100 : Int) < (t.n.size : Int)) = false := decide_eq_false (by omega)
                by_cases g2 : t.c.size ≤ 2000
                · have j2 : decide ((2000 : Int) < (t.c.size : Int)) = false := decide_eq_false (by omega)
                  by_cases g3 : t.ds.length ≤ 20
                  · have j3 : decide ((20 : Int) < (t.ds.length : Int)) = false := decide_eq_false (by omega)
                    by_cases g4 : t.ss.length ≤ 40
                    · have j4 : decide ((40 : Int) < (t.ss.length : Int)) = false := decide_eq_false (by omega)
                      go_wp2_with (fail)
                      go_loop [7] (fun i => ∃ q : Nat, i = .int .i64 q ∧ q ≤ t.ds.length ∧ ∀ j (hj : j < t.ds.length), j < q → t.ds[j].size ≤ 100) (fun i => t.ds.length - (intOf i).toNat)
                      case atStart => exact ⟨0, rfl, by omega, fun j hj h => by omega⟩
                      case round =>
                        obtain ⟨q, rfl, hq, hok⟩ := hrel
                        by_cases hqt : q < t.ds.length
                        · obtain ⟨bd, rfl, hbd, hcq⟩ := hd.at_ hqt
                          have hqI : (q : Int) < (t.ds.length : Int) := by omega
                          have MQ := Lib.hid (fun (h : t.ds[q].size ≤ 100) => mem_upto (Q := fun x : ByteArray => x.size ≤ 100) hqt hok h)
                          clear hok
                          have OKx := Lib.hid (OKt.out.d _ (List.getElem_mem hqt))
                          generalize t.ds[q] = x at *
                          by_cases gx : x.size ≤ 100
                          · have jx : ¬ (100 : Int) < (x.size : Int) := by omega
                            have GX := Lib.hid gx
                            go_wp2_with (fail)
                            go_round
                            case rel => exact ⟨q + 1, by go_num, by omega, MQ.out GX.out⟩
                            case measure => simp [intOf]; omega
                          · have jx : (100 : Int) < (x.size : Int) := by omega
                            go_wp2_with (fail)
                            go_ret
                            exact absurd (show False by first | (have := OKx.out; omega) | (have := OKt.out.n; have := OKt.out.c; have := OKt.out.dl; have := OKt.out.sl; omega) | (have := OKf.out.p; have := OKf.out.d; omega) | (have := HP.out.1; have := HP.out.2.2.1; omega)) id
                        · obtain rfl : q = t.ds.length := by omega
                          have DOK := Lib.hid (mem_all (l := t.ds) (Q := fun x : ByteArray => x.size ≤ 100) hok)
                          clear hok
                          go_wp2_with (fail)
                          go_loop [8] (fun i => ∃ q : Nat, i = .int .i64 q ∧ q ≤ t.ss.length ∧ ∀ j (hj : j < t.ss.length), j < q → t.ss[j].size ≤ 100) (fun i => t.ss.length - (intOf i).toNat)
                          case atStart => exact ⟨0, rfl, by omega, fun j hj h => by omega⟩
                          case round =>
                            obtain ⟨q, rfl, hq, hok⟩ := hrel
                            by_cases hqt : q < t.ss.length
                            · obtain ⟨bd, rfl, hbd, hcq⟩ := hs.at_ hqt
                              have hqI : (q : Int) < (t.ss.length : Int) := by omega
                              have MQ := Lib.hid (fun (h : t.ss[q].size ≤ 100) => mem_upto (Q := fun x : ByteArray => x.size ≤ 100) hqt hok h)
                              clear hok
                              have OKx := Lib.hid (OKt.out.s _ (List.getElem_mem hqt))
                              generalize t.ss[q] = x at *
                              by_cases gx : x.size ≤ 100
                              · have jx : ¬ (100 : Int) < (x.size : Int) := by omega
                                have GX := Lib.hid gx
                                go_wp2_with (fail)
                                go_round
                                case rel => exact ⟨q + 1, by go_num, by omega, MQ.out GX.out⟩
                                case measure => simp [intOf]; omega
                              · have jx : (100 : Int) < (x.size : Int) := by omega
                                go_wp2_with (fail)
                                go_ret
                                exact absurd (show False by first | (have := OKx.out; omega) | (have := OKt.out.n; have := OKt.out.c; have := OKt.out.dl; have := OKt.out.sl; omega) | (have := OKf.out.p; have := OKf.out.d; omega) | (have := HP.out.1; have := HP.out.2.2.1; omega)) id
                            · obtain rfl : q = t.ss.length := by omega
                              have G := Lib.hid (⟨g1, g2, g3, g4, DOK.out, mem_all (l := t.ss) (Q := fun x : ByteArray => x.size ≤ 100) hok⟩ : t.Ok)
                              clear hok
                              go_wp2_with (fail)
                              go_round
                              case rel => exact ⟨k + 1, by go_num, by omega, MU.out G.out⟩
                              case measure => simp [intOf]; omega
                    · have j4 : decide ((40 : Int) < (t.ss.length : Int)) = true := decide_eq_true (by omega)
                      go_wp2_with (fail)
                      go_ret
                      exact absurd (show False by first | (have := OKx.out; omega) | (have := OKt.out.n; have := OKt.out.c; have := OKt.out.dl; have := OKt.out.sl; omega) | (have := OKf.out.p; have := OKf.out.d; omega) | (have := HP.out.1; have := HP.out.2.2.1; omega)) id
                  · have j3 : decide ((20 : Int) < (t.ds.length : Int)) = true := decide_eq_true (by omega)
                    go_wp2_with (fail)
                    go_ret
                    exact absurd (show False by first | (have := OKx.out; omega) | (have := OKt.out.n; have := OKt.out.c; have := OKt.out.dl; have := OKt.out.sl; omega) | (have := OKf.out.p; have := OKf.out.d; omega) | (have := HP.out.1; have := HP.out.2.2.1; omega)) id
                · have j2 : decide ((2000 : Int) < (t.c.size : Int)) = true := decide_eq_true (by omega)
                  go_wp2_with (fail)
                  go_ret
                  exact absurd (show False by first | (have := OKx.out; omega) | (have := OKt.out.n; have := OKt.out.c; have := OKt.out.dl; have := OKt.out.sl; omega) | (have := OKf.out.p; have := OKf.out.d; omega) | (have := HP.out.1; have := HP.out.2.2.1; omega)) id
              · have j1 : decide ((100 : Int) < (t.n.size : Int)) = true := decide_eq_true (by omega)
                go_wp2_with (fail)
                go_ret
                exact absurd (show False by first | (have := OKx.out; omega) | (have := OKt.out.n; have := OKt.out.c; have := OKt.out.dl; have := OKt.out.sl; omega) | (have := OKf.out.p; have := OKf.out.d; omega) | (have := HP.out.1; have := HP.out.2.2.1; omega)) id
            · obtain rfl : k = l.length := by omega
              go_wp2_with (fail)
              go_ret
              exact ⟨rfl, rfl⟩
    · have i1 : decide ((20 : Int) < (l.length : Int)) = false := decide_eq_false (by omega)
      have i2 : decide ((60 : Int) < (fs.length : Int)) = true := decide_eq_true (by omega)
      go_enter Tryz.func17, Tryz.ntmps17
      go_wp2_with (fail)
      go_ret
      exact absurd (show False by first | (have := OKx.out; omega) | (have := OKt.out.n; have := OKt.out.c; have := OKt.out.dl; have := OKt.out.sl; omega) | (have := OKf.out.p; have := OKf.out.d; omega) | (have := HP.out.1; have := HP.out.2.2.1; omega)) id
  · have i1 : decide ((20 : Int) < (l.length : Int)) = true := decide_eq_true (by omega)
    go_enter Tryz.func17, Tryz.ntmps17
    go_wp2_with (fail)
    go_ret
    exact absurd (show False by first | (have := OKx.out; omega) | (have := OKt.out.n; have := OKt.out.c; have := OKt.out.dl; have := OKt.out.sl; omega) | (have := OKf.out.p; have := OKf.out.d; omega) | (have := HP.out.1; have := HP.out.2.2.1; omega)) id
def P8 (l : List Tg) (fs : List Fl) : Prop := l.length ≤ 20 ∧ (∀ t ∈ l, t.Ok) ∧ fs.length ≤ 60 ∧ ∀ f ∈ fs, f.Ok
theorem few_is (A F : Option Addr) (l : List Tg) (fs : List Fl) (c d : Nat) (w : World) (hl : l.length ≤ 9223372036854775807) (hf : fs.length ≤ 9223372036854775807) (hr : Tgs w w.heap.size A l) (hq : Fls w w.heap.size F fs)
    (hsz : ∀ t ∈ l, t.n.size ≤ maxLen ∧ t.c.size ≤ maxLen ∧ t.ds.length ≤ maxLen ∧ t.ss.length ≤ maxLen) (hfz : ∀ f ∈ fs, f.p.size ≤ maxLen ∧ f.d.size ≤ maxLen) {b : Bool} (hb : b = true ↔ P8 l fs) :
    Calls Tryz.prog 17 #[.slice A l.length c, .slice F fs.length d] w fun e w' => e = .returned (.bool b) ∧ w = w' := by
  by_cases h : P8 l fs
  · obtain rfl : b = true := hb.2 h
    exact few_yes A F l fs c d w hl hf hr hq hsz hfz h
  · refine (few_any A F l fs c d w hl hf hr hq hsz hfz).mono ?_
    rintro e w' ⟨b', rfl, rfl, h3⟩
    have h4 : b' = false := by cases b'; rfl; exact absurd (h3 rfl) h
    have h5 : b = false := by cases b; rfl; exact absurd (hb.1 rfl) h
    rw [h4, h5]; exact ⟨rfl, rfl⟩
end Go.Proofs.YtdidnlkilleljaaGreatDoor.F8
