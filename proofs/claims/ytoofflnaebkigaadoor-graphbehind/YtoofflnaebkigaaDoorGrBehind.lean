/- The walk of GraphBehind. -/
import Derived.Test.YtoofflnaebkigaaDoorGrFinds
namespace Go.Proofs.YtoofflnaebkigaaDoor.Gr
open Go.RowKit
open Lg (Strs tl)
set_option linter.unusedVariables false
set_option maxRecDepth 100000
theorem ord_le (l : List Tg) : (ordF l).length ≤ l.length := by
  have := order_le l
  unfold ordF
  split <;> simp <;> omega
set_option maxHeartbeats 4000000 in
theorem behind_walk (A : Option Addr) (l : List Tg) (c : Nat) (w : World) (hE : Lg.Env w) (hr : Came w A l c) :
    Calls Tryd.prog 7 #[.slice A l.length c] w fun e w' => e = .returned (.bool true) ∧ Below w.heap.size w w' := by
  have AW := Lib.hid awake_any
  have EV := Lib.hid (fun W (h : Below w.heap.size w W) => hE.below h)
  have FW := Lib.hid (few_any A l c w hr.big hr.at_ hr.fit)
  have HR := Lib.hid hr
  clear hE hr
  go_enter Tryd.func7, Tryd.ntmps7
  go_wp2_with (fail)
  refine (FW.out).mono ?_
  rintro e w' ⟨b, rfl, rfl, hb⟩
  cases b
  · clear hb
    go_wp2_with (go_at_call 12; (with_reducible refine (AW.out _ (EV.out _ (Below.refl _ _))).mono ?_); rintro e w1 ⟨rfl, b1⟩)
    go_ret
    exact ⟨rfl, b1⟩
  obtain ⟨h1, h2⟩ := hb rfl
  have FT := fun t ht => (h2 t ht).fits
  have PO := Lib.hid (porder_any A l c w (EV.out _ (Below.refl _ _)) HR.out.at_ (by omega) HR.out.len FT)
  have PC : Hid (∀ W, Below w.heap.size w W → Calls Tryd.prog 10 #[.slice A l.length c] W fun e w' => e = .returned (.int .i64 (checkF l)) ∧ Below W.heap.size W w') := Lib.hid fun W hW => pcheck_any A l c W (EV.out _ hW) (HR.out.at_.below hW) (by omega) HR.out.len FT
  have PB : Hid (∀ x W, Below w.heap.size w W → Calls Tryd.prog 18 #[.slice A l.length c, .string x] W (ListSays (below l x) W)) := Lib.hid fun x W hW => below_any A l c x W (HR.out.at_.below hW) (by omega) FT
  have BL : Hid (∀ x, (below l x).length ≤ 1000000000) := Lib.hid fun x => by have := below_le l x; omega
  have OL := ord_le l
  have FTH := Lib.hid FT
  clear hb h2 FT
  unfold OrderSays at PO
  by_cases he : checkF l = 0
  · have BH := Lib.hid (behind (nameE := nameF) (pathE := pathF) (parseE := parseF) he)
    have OE := Lib.hid (ordF_ok he)
    have NL : Hid ((ordF l).length = l.length) := Lib.hid (by rw [OE.out]; exact BH.out.1)
    have gl : (((ordF l).length : Int) != (l.length : Int)) = false := by rw [NL.out]; simp
    rw [he] at PO PC
    clear he
    go_wp2_with (first
      | (go_at_call 13; (with_reducible refine (PO.out).mono ?_); rintro e w1 ⟨⟨A1, c1, rfl, hs1⟩, hb1⟩; have C1 := Lib.hid (PC.out _ hb1); have S1 := Lib.hid hs1; clear hs1)
      | (go_at_call 10; (with_reducible refine (C1.out).mono ?_); rintro e w2 ⟨rfl, hb2'⟩; have hb2 := hb1.trans (hb2'.mono hb1.size); have S2 := Lib.hid (S1.out.below hb2'); clear S1))
    have HB2 := Lib.hid hb2
    have PL : Hid (∀ s W, Below w2.heap.size w2 W → Calls Tryd.prog 20 #[.slice A1 (ordF l).length c1, .string s] W fun e w' => e = .returned (.int .i64 (place (ordF l) s)) ∧ W = w') := Lib.hid fun s W hW => place_any A1 (ordF l) c1 s W (S2.out.below hW) (by omega)
    go_loopw [5] (fun i wx => ∃ k : Nat, i = .int .i64 k ∧ k ≤ l.length ∧ Below w2.heap.size w2 wx) (fun i _ => l.length - (intOf i).toNat)
    case atStart => exact ⟨0, rfl, by omega, Below.refl _ _⟩
    case round =>
      obtain ⟨k, rfl, hk, hb⟩ := hrel
      have HB := Lib.hid hb
      have hbw := HB2.out.trans (hb.mono HB2.out.size)
      have HBW := Lib.hid hbw
      by_cases hlt : k < l.length
      · have hkI : (k : Int) < (l.length : Int) := by omega
        obtain ⟨ad, rfl, had, hcs⟩ := HR.out.at_.below hbw (by omega)
        obtain ⟨Ad, cd, As, cs, c0, c1', c2', c3', hd, hs⟩ := hcs k hlt
        have CT : Hid (∀ V, Below wr.heap.size wr V → V.cell? (ad.add (k * 4)) = some (.string l[k].n) ∧ V.cell? ⟨(ad.add (k * 4)).block, (ad.add (k * 4)).off + 2, none⟩ = some (.slice Ad l[k].ds.length cd)) := Lib.hid fun V hV => by
          have h3 : V.cell? ((ad.add (k * 4)).add 2) = wr.cell? ((ad.add (k * 4)).add 2) := hV.cell (by rw [block_of_add, block_of_add]; exact had)
          exact ⟨(hV.cell (by rw [block_of_add]; exact had)).trans c0, h3.trans c2'⟩
        obtain ⟨q1, q2, q3, q4⟩ := BH.out.2 l[k] (List.getElem_mem hlt)
        rw [← OE.out] at q1 q3 q4
        have Q3 := Lib.hid q3
        have Q4 := Lib.hid q4
        have hdl := (FTH.out _ (List.getElem_mem hlt)).dl
        have HD := Lib.hid hd
        have BB := Lib.hid (PB.out l[k].n wr hbw)
        have P0 := Lib.hid (PL.out l[k].n wr hb)
        have BLk := BL.out l[k].n
        clear hcs c1' c2' c3' hd hs q3 q4
        generalize l[k] = t at *
        unfold ListSays at BB
        have PM : Hid (∀ A2 c2 s W, Strs W A2 (below l t.n) → Calls Tryd.prog 20 #[.slice A2 (below l t.n).length c2, .string s] W fun e w' => e = .returned (.int .i64 (place (below l t.n) s)) ∧ W = w') := Lib.hid fun A2 c2 s W hW => place_any A2 (below l t.n) c2 s W hW BLk
        generalize below l t.n = m at *
        generalize hp0 : place (ordF l) t.n = p0 at *
        generalize hp1 : place m t.n = p1 at *
        have HP1 := Lib.hid hp1
        clear hp0 hp1
        go_wp2_with (first
          | (go_at_call 20; (with_reducible refine (P0.out).mono ?_); rintro e w' ⟨rfl, rfl⟩; clear P0)
          | (go_at_call 18; (with_reducible refine (BB.out).mono ?_); rintro e w5 ⟨⟨A5, c5, rfl, _, hs5⟩, hb5⟩; have S5 := Lib.hid hs5; have P1 := Lib.hid (PM.out A5 c5 t.n w5 hs5); rw [HP1.out] at P1; obtain ⟨n5, d5⟩ := CT.out _ hb5; clear hs5)
          | (go_at_call 20; (with_reducible refine (P1.out).mono ?_); rintro e w' ⟨rfl, rfl⟩; clear P1))
        have HB5 := Lib.hid (HB.out.trans (hb5.mono HB.out.size))
        go_loop [8] (fun i => ∃ q : Nat, i = .int .i64 q ∧ q ≤ t.ds.length) (fun i => t.ds.length - (intOf i).toNat)
        case atStart => exact ⟨0, rfl, by omega⟩
        case round =>
          obtain ⟨q, rfl, hq⟩ := hrel
          by_cases hqt : q < t.ds.length
          · have hqI : (q : Int) < (t.ds.length : Int) := by omega
            obtain ⟨bd, rfl, _, hc⟩ := (HD.out.below hb5).at_ hqt
            obtain ⟨u1, u2⟩ := Q3.out t.ds[q] (List.getElem_mem hqt)
            have P2 := Lib.hid (PL.out t.ds[q] w5 HB5.out)
            have P3 := Lib.hid (PM.out A5 c5 t.ds[q] w5 S5.out)
            generalize t.ds[q] = d at *
            generalize place (ordF l) d = p2 at *
            generalize place m d = p3 at *
            have v1 : ¬ p0 ≤ p2 := by omega
            have v2 : ¬ p3 < 0 := by omega
            go_wp2_with (first
              | (go_at_call 20; (with_reducible refine (P2.out).mono ?_); rintro e w' ⟨rfl, rfl⟩; clear P2)
              | (go_at_call 20; (with_reducible refine (P3.out).mono ?_); rintro e w' ⟨rfl, rfl⟩; clear P3))
            go_round
            case rel => exact ⟨q + 1, by go_num, by omega⟩
            case measure => simp [intOf]; omega
          · obtain rfl : q = t.ds.length := by omega
            go_wp2_with (fail)
            go_loop [9] (fun i => ∃ q : Nat, i = .int .i64 q ∧ q ≤ m.length) (fun i => m.length - (intOf i).toNat)
            case atStart => exact ⟨0, rfl, by omega⟩
            case round =>
              obtain ⟨q, rfl, hq⟩ := hrel
              by_cases hqt : q < m.length
              · have hqI : (q : Int) < (m.length : Int) := by omega
                obtain ⟨bd, rfl, _, hc⟩ := S5.out.at_ hqt
                obtain ⟨u1, u2⟩ := Q4.out m[q] (List.getElem_mem hqt)
                have P2 := Lib.hid (PL.out m[q] w5 HB5.out)
                generalize m[q] = d at *
                generalize place (ordF l) d = p2 at *
                have v1 : ¬ p0 ≤ p2 := by omega
                go_wp2_with (go_at_call 20; (with_reducible refine (P2.out).mono ?_); rintro e w' ⟨rfl, rfl⟩)
                go_round
                case rel => exact ⟨q + 1, by go_num, by omega⟩
                case measure => simp [intOf]; omega
              · obtain rfl : q = m.length := by omega
                go_wp2_with (fail)
                go_roundw
                case rel => exact ⟨k + 1, by go_num, by omega, HB5.out⟩
                case measure => simp [intOf]; omega
      · obtain rfl : k = l.length := by omega
        have E2 := EV.out _ hbw
        go_wp2_with (go_at_call 12; (with_reducible refine (AW.out _ E2).mono ?_); rintro e w8 ⟨rfl, b8⟩)
        go_ret
        exact ⟨rfl, HBW.out.trans (b8.mono HBW.out.size)⟩
  · have OE := Lib.hid (ordF_no he)
    rw [OE.out] at PO
    have ge : (checkF l != 0) = true := by simpa using he
    clear BL PB FTH OL OE
    generalize checkF l = E at *
    clear he
    go_wp2_with (first
      | (go_at_call 13; (with_reducible refine (PO.out).mono ?_); rintro e w1 ⟨⟨A1, c1, rfl, hs1⟩, hb1⟩; have C1 := Lib.hid (PC.out _ hb1); clear hs1)
      | (go_at_call 10; (with_reducible refine (C1.out).mono ?_); rintro e w2 ⟨rfl, hb2'⟩; have hb2 := hb1.trans (hb2'.mono hb1.size); have E2 := EV.out _ hb2)
      | (go_at_call 12; (with_reducible refine (AW.out _ E2).mono ?_); rintro e w8 ⟨rfl, b8⟩))
    go_ret
    exact ⟨rfl, hb2.trans (b8.mono hb2.size)⟩
end Go.Proofs.YtoofflnaebkigaaDoor.Gr
