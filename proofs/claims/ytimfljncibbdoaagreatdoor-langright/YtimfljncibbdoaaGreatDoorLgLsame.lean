/- The contract of lang.same, at any two lists of steps. -/
import Derived.Test.YtimfljncibbdoaaGreatDoorLgSmall
import Derived.Test.YtimfljncibbdoaaGreatDoorLgStepB
namespace Go.Proofs.YtimfljncibbdoaaGreatDoor.Lg
open Go.RowKit
set_option linter.unusedVariables false
set_option maxRecDepth 100000
theorem dn_below (w : World) (q : Nat) : Below w.heap.size w (w.drewN q) := ⟨rfl, rfl, rfl, Nat.le_refl _, fun _ _ => rfl⟩
theorem txt_ne {u v : B} (h : u ≠ v) : (bs u).toList ≠ (bs v).toList := fun e => h (by rw [Lib.toList_data, Lib.toList_data] at e; exact e)
set_option maxHeartbeats 4000000 in
/-- slices.Equal of texts -/
theorem equal_texts (la lb : List B) (A F : Option Addr) (n m c d : Nat) (w : World) (ok ok' : Nat → Prop) (ha : Lies w ok 1 A n (strV la)) (hn : n = la.length) (hb : Lies w ok' 1 F m (strV lb)) (hm : m = lb.length) (hl : la.length ≤ 4000000) :
    Calls Tryz.prog 27 #[.slice A n c, .slice F m d] w fun e w' => e = .returned (.bool (decide (la = lb))) ∧ Below w.heap.size w w' := by
  subst hn hm
  by_cases hlen : la.length = lb.length
  · have TA := Lib.hid (fun j (hj : j < la.length) => ha.text rfl hj)
    have TB := Lib.hid (fun j (hj : j < lb.length) => hb.text rfl hj)
    have g0 : ((la.length : Int) != (lb.length : Int)) = false := by simp [hlen]
    have HLEN := Lib.hid hlen
    clear ha hb hlen
    go_enter Tryz.func27, Tryz.ntmps27
    go_wp2_with (fail)
    go_loopw [13] (fun i wx => ∃ j q : Nat, i = .int .i64 j ∧ j ≤ la.length ∧ wx = w.drewN q ∧ ∀ p (h1 : p < la.length) (h2 : p < lb.length), p < j → la[p] = lb[p]) (fun i _ => la.length - (intOf i).toNat)
    case atStart => exact ⟨0, 0, rfl, by omega, rfl, fun p _ _ h => absurd h (by omega)⟩
    case round =>
      obtain ⟨j, q, rfl, hj, rfl, hall⟩ := hrel
      have HALL := Lib.hid hall
      clear hall
      by_cases hjl : j < la.length
      · have hjI : (j : Int) < (la.length : Int) := by omega
        have hjl2 : j < lb.length := by rw [← HLEN.out]; exact hjl
        have hjI2 : (j : Int) < (lb.length : Int) := by omega
        obtain ⟨a', rfl, ta⟩ := TA.out j hjl
        obtain ⟨b', rfl, tb⟩ := TB.out j hjl2
        by_cases he : la[j] = lb[j]
        · have NX : Hid (∀ p (h1 : p < la.length) (h2 : p < lb.length), p < j + 1 → la[p] = lb[p]) := Lib.hid (fun p h1 h2 hp => by
            rcases Nat.lt_or_ge p j with h | h
            · exact HALL.out p h1 h2 h
            · obtain rfl : p = j := by omega
              exact he)
          rw [← he] at tb
          clear he
          generalize la[j] = u at *
          have g5 : ((bs u).toList != (bs u).toList) = false := by simp
          go_wp2_with (fail)
          go_quiet (fail)
          go_wp2
          go_roundw
          case rel => exact ⟨j + 1, _, by go_num, by omega, by first | rfl | exact World.drewN_drewN _ _ _, NX.out⟩
          case measure => simp [intOf]; omega
        · have F : Hid (decide (la = lb) = false) := Lib.hid (decide_eq_false (fun e => he (by subst e; rfl)))
          have h1 := txt_ne he
          generalize la[j] = u at *
          generalize lb[j] = v at *
          have g5 : ((bs u).toList == (bs v).toList) = false := beq_eq_false_iff_ne.2 h1
          have g6 : (!((bs u).toList == (bs v).toList)) = true := by rw [g5]; rfl
          clear he
          go_wp2_with (fail)
          go_quiet (fail)
          go_wp2
          go_ret
          exact ⟨ret_bool F.out, by rw [World.drewN_drewN]; exact dn_below w _⟩
      · obtain rfl : j = la.length := by omega
        have F : Hid (decide (la = lb) = true) := Lib.hid (decide_eq_true (list_eq HLEN.out (fun k h1 h2 h => HALL.out k h1 h2 h)))
        go_wp2_with (fail)
        go_ret
        exact ⟨ret_bool F.out, dn_below w q⟩
  · have g0 : ((la.length : Int) != (lb.length : Int)) = true := by simp; omega
    have F : Hid (decide (la = lb) = false) := Lib.hid (decide_eq_false (fun e => hlen (by rw [e])))
    clear ha hb hlen
    go_enter Tryz.func27, Tryz.ntmps27
    go_wp2_with (fail)
    go_ret
    exact ⟨ret_bool F.out, Below.refl _ _⟩
set_option maxHeartbeats 4000000 in
/-- the closure of lang.same -/
theorem same1_any (x y : Stp) (A' B' F' G' : Option Addr) (ka ca kb cb kf cf kg cg : Nat) (w : World) (ok ok' : Nat → Prop) (ha : Lies w ok 1 A' ka (strV x.args)) (hka : ka = x.args.length) (hf : Lies w ok' 1 F' kf (strV y.args)) (hkf : kf = y.args.length) (hl : x.args.length ≤ 4000000)
    (hs : ∀ W, Below w.heap.size w W → Calls Tryz.prog 11 #[.slice B' kb cb, .slice G' kg cg] W fun e w' => e = .returned (.bool (sameL x.block y.block)) ∧ Below W.heap.size W w') :
    Calls Tryz.prog 26 #[.agg #[.int .i64 x.op, .slice A' ka ca, .int .i64 x.n, .slice B' kb cb], .agg #[.int .i64 y.op, .slice F' kf cf, .int .i64 y.n, .slice G' kg cg]] w fun e w' => e = .returned (.bool (sameS x y)) ∧ Below w.heap.size w w' := by
  subst hka hkf
  have EQ := Lib.hid (fun W (h : Below w.heap.size w W) => equal_texts x.args y.args A' F' _ _ ca cf W ok ok' (ha.lbelow (by omega) h) rfl (hf.lbelow (by omega) h) rfl hl)
  have SM := Lib.hid hs
  clear ha hf hs
  have hbw : Below w.heap.size w ((w.alloc (.cells #[.int .i64 x.op, .slice A' x.args.length ca, .int .i64 x.n, .slice B' kb cb] 37)).alloc (.cells #[.int .i64 y.op, .slice F' y.args.length cf, .int .i64 y.n, .slice G' kg cg] 37)) := ((Below.refl _ _).alloc (Nat.le_refl _) _).alloc (by simp) _
  have HZ0 : Hid (w.heap.size < ((w.alloc (.cells #[.int .i64 x.op, .slice A' x.args.length ca, .int .i64 x.n, .slice B' kb cb] 37)).alloc (.cells #[.int .i64 y.op, .slice F' y.args.length cf, .int .i64 y.n, .slice G' kg cg] 37)).heap.size) := Lib.hid (by simp; omega)
  have HZ1 : Hid (w.heap.size + 1 < ((w.alloc (.cells #[.int .i64 x.op, .slice A' x.args.length ca, .int .i64 x.n, .slice B' kb cb] 37)).alloc (.cells #[.int .i64 y.op, .slice F' y.args.length cf, .int .i64 y.n, .slice G' kg cg] 37)).heap.size) := Lib.hid (by simp)
  by_cases h1 : x.op = y.op
  · by_cases h2 : x.n = y.n
    · by_cases h3 : x.args = y.args
      · have F : Hid (sameS x y = sameL x.block y.block) := Lib.hid (by simp [sameS, h1, h2, h3])
        have d3 : decide (x.args = y.args) = true := decide_eq_true h3
        have g1 : (x.op == y.op) = true := by simp [h1]
        have g2 : (x.n == y.n) = true := by simp [h2]
        have EQ2 : Hid (∀ W, Below w.heap.size w W → Calls Tryz.prog 27 #[.slice A' x.args.length ca, .slice F' y.args.length cf] W fun e w' => e = .returned (.bool true) ∧ Below W.heap.size W w') := Lib.hid (fun W h => by rw [← d3]; exact EQ.out W h)
        clear h1 h2 h3 d3 EQ
        go_enter Tryz.func26, Tryz.ntmps26
        go_wp2_with (first
          | (go_at_call 27; (with_reducible refine (EQ2.out _ hbw).mono ?_); rintro e w3 ⟨rfl, hb3⟩; have hbw3 := hbw.trans (hb3.mono hbw.size); have hx3 := four ((hb3.block w.heap.size HZ0.out).trans heap_two); have hy3 := four ((hb3.block (w.heap.size + 1) HZ1.out).trans (heap_alloc2_new w _ _)); obtain ⟨_, _, _, x3, _, _, _, _⟩ := hx3; obtain ⟨_, _, _, y3, _, _, _, _⟩ := hy3)
          | (go_at_call 11; (with_reducible refine (SM.out _ hbw3).mono ?_); rintro e w4 ⟨rfl, hb4⟩))
        go_ret
        exact ⟨ret_bool F.out, hbw3.trans (hb4.mono hbw3.size)⟩
      · have F : Hid (sameS x y = false) := Lib.hid (by simp [sameS, h3])
        have d3 : decide (x.args = y.args) = false := decide_eq_false h3
        have g1 : (x.op == y.op) = true := by simp [h1]
        have g2 : (x.n == y.n) = true := by simp [h2]
        have EQ2 : Hid (∀ W, Below w.heap.size w W → Calls Tryz.prog 27 #[.slice A' x.args.length ca, .slice F' y.args.length cf] W fun e w' => e = .returned (.bool false) ∧ Below W.heap.size W w') := Lib.hid (fun W h => by rw [← d3]; exact EQ.out W h)
        clear h1 h2 h3 d3 EQ
        go_enter Tryz.func26, Tryz.ntmps26
        go_wp2_with (go_at_call 27; (with_reducible refine (EQ2.out _ hbw).mono ?_); rintro e w3 ⟨rfl, hb3⟩; have hbw3 := hbw.trans (hb3.mono hbw.size))
        go_ret
        exact ⟨ret_bool F.out, hbw3⟩
    · have F : Hid (sameS x y = false) := Lib.hid (by simp [sameS, h2])
      have g1 : (x.op == y.op) = true := by simp [h1]
      have g2 : (x.n == y.n) = false := by simp [h2]
      clear h1 h2
      go_enter Tryz.func26, Tryz.ntmps26
      go_wp2_with (fail)
      go_ret
      exact ⟨ret_bool F.out, hbw⟩
  · have F : Hid (sameS x y = false) := Lib.hid (by simp [sameS, h1])
    have g1 : (x.op == y.op) = false := by simp [h1]
    clear h1
    go_enter Tryz.func26, Tryz.ntmps26
    go_wp2_with (fail)
    go_ret
    exact ⟨ret_bool F.out, hbw⟩
set_option maxHeartbeats 4000000 in
theorem lsame_any : ∀ (K : Nat) (la lb : List Stp), weight la ≤ K → weight la ≤ 4000000 → wide la ≤ 4000000 → ∀ (A F : Option Addr) (n m c d : Nat) (w : World) (ok ok' : Nat → Prop), StepsAt w ok A n la → StepsAt w ok' F m lb →
    Calls Tryz.prog 11 #[.slice A n c, .slice F m d] w fun e w' => e = .returned (.bool (sameL la lb)) ∧ Below w.heap.size w w' := by
  intro K
  induction K using Nat.strongRecOn with
  | ind K ih =>
    intro la lb hK hW hA A F n m c d w ok ok' hr hq
    obtain rfl : n = la.length := hr.1
    obtain rfl : m = lb.length := hq.1
    have hln := len_weight la
    have EF : Hid (Calls Tryz.prog 25 #[.slice A la.length c, .slice F lb.length d, .func (.func 26) #[] #[]] w fun e w' => e = .returned (.bool (sameL la lb)) ∧ Below w.heap.size w w') := by
      refine Lib.hid ?_
      by_cases hlen : la.length = lb.length
      · have g0 : ((la.length : Int) != (lb.length : Int)) = false := by simp [hlen]
        have HLEN := Lib.hid hlen
        have HR := Lib.hid hr
        have HQ := Lib.hid hq
        clear hlen hr hq
        go_enter Tryz.func25, Tryz.ntmps25
        go_wp2_with (fail)
        go_loopw [17] (fun i wr => ∃ k : Nat, i = .int .i64 k ∧ k ≤ la.length ∧ Below w.heap.size w wr ∧ ∀ j (h1 : j < la.length) (h2 : j < lb.length), j < k → sameS la[j] lb[j] = true) (fun i _ => la.length - (intOf i).toNat)
        case atStart => exact ⟨0, rfl, by omega, Below.refl _ _, fun p _ _ h => absurd h (by omega)⟩
        case round =>
          obtain ⟨k, rfl, hk, hb, hall⟩ := hrel
          rename World => wr
          have HALL := Lib.hid hall
          clear hall
          by_cases hlt : k < la.length
          · have hkI : (k : Int) < (la.length : Int) := by omega
            have hlt2 : k < lb.length := by rw [← HLEN.out]; exact hlt
            have hkI2 : (k : Int) < (lb.length : Int) := by omega
            obtain ⟨ad, A', ka, ca, B', kb, cb, rfl, a0, a1, a2, a3, a4, _, a5, _, a6⟩ := HR.out.at_ hlt
            obtain ⟨bd, F', kf, cf, G', kg, cg, rfl, b0, b1, b2, b3, b4, _, b5, _, b6⟩ := HQ.out.at_ hlt2
            have hwb := weight_at hlt
            have hab := wide_at hlt
            have NX : Hid (sameS la[k] lb[k] = true → ∀ j (h1 : j < la.length) (h2 : j < lb.length), j < k + 1 → sameS la[j] lb[j] = true) := Lib.hid (fun hs j h1 h2 hp => by
              rcases Nat.lt_or_ge j k with h | h
              · exact HALL.out j h1 h2 h
              · obtain rfl : j = k := by omega
                exact hs)
            have BAD := Lib.hid (fun h => same_bad hlt hlt2 h)
            have HS1 := Lib.hid (fun W (h : Below w.heap.size w W) => same1_any la[k] lb[k] A' B' F' G' ka ca kb cb kf cf kg cg W ok ok' (a5.lbelow (by omega) h) a4 (b5.lbelow (by omega) h) b4 (by omega) (fun W' h' => ih (weight la[k].block) (by omega) la[k].block lb[k].block (Nat.le_refl _) (by omega) (by omega) B' G' kb kg cb cg W' ok ok' (a6.below (h.trans (h'.mono h.size))) (b6.below (h.trans (h'.mono h.size)))))
            generalize la[k] = x at *
            generalize lb[k] = y at *
            subst a4 b4
            have hba : Below w.heap.size w (wr.alloc (.cells #[.int .i64 x.op, .slice A' x.args.length ca, .int .i64 x.n, .slice B' kb cb] 37)) := hb.alloc hb.size _
            have hbb : Below w.heap.size w ((wr.alloc (.cells #[.int .i64 x.op, .slice A' x.args.length ca, .int .i64 x.n, .slice B' kb cb] 37)).alloc (.cells #[.int .i64 y.op, .slice F' y.args.length cf, .int .i64 y.n, .slice G' kg cg] 37)) := hba.alloc hba.size _
            have A0 := cell_on a0 hb
            have A1 : wr.cell? ⟨(ad.add (k * 4)).block, (ad.add (k * 4)).off + 1, none⟩ = some (.slice A' x.args.length ca) := by rw [← add_of_add] at a1; exact cell_on a1 hb
            have A2 : wr.cell? ⟨(ad.add (k * 4)).block, (ad.add (k * 4)).off + 2, none⟩ = some (.int .i64 x.n) := by rw [← add_of_add] at a2; exact cell_on a2 hb
            have A3 : wr.cell? ⟨(ad.add (k * 4)).block, (ad.add (k * 4)).off + 3, none⟩ = some (.slice B' kb cb) := by rw [← add_of_add] at a3; exact cell_on a3 hb
            have B0 := cell_on b0 hba
            have B1 : (wr.alloc (.cells #[.int .i64 x.op, .slice A' x.args.length ca, .int .i64 x.n, .slice B' kb cb] 37)).cell? ⟨(bd.add (k * 4)).block, (bd.add (k * 4)).off + 1, none⟩ = some (.slice F' y.args.length cf) := by rw [← add_of_add] at b1; exact cell_on b1 hba
            have B2 : (wr.alloc (.cells #[.int .i64 x.op, .slice A' x.args.length ca, .int .i64 x.n, .slice B' kb cb] 37)).cell? ⟨(bd.add (k * 4)).block, (bd.add (k * 4)).off + 2, none⟩ = some (.int .i64 y.n) := by rw [← add_of_add] at b2; exact cell_on b2 hba
            have B3 : (wr.alloc (.cells #[.int .i64 x.op, .slice A' x.args.length ca, .int .i64 x.n, .slice B' kb cb] 37)).cell? ⟨(bd.add (k * 4)).block, (bd.add (k * 4)).off + 3, none⟩ = some (.slice G' kg cg) := by rw [← add_of_add] at b3; exact cell_on b3 hba
            have CL := Lib.hid (HS1.out _ hbb)
            clear a0 a1 a2 a3 a5 a6 b0 b1 b2 b3 b5 b6 HS1 HR HQ ih hwb hab hba
            cases hsv : sameS x y
            · rw [hsv] at CL
              have FF := Lib.hid (BAD.out hsv)
              clear hsv NX BAD
              go_wp2_with (go_at_call 26; (with_reducible refine (CL.out).mono ?_); rintro e w3 ⟨rfl, hb3⟩)
              go_ret
              exact ⟨ret_bool FF.out, hbb.trans (hb3.mono hbb.size)⟩
            · rw [hsv] at CL
              have FF := Lib.hid (NX.out hsv)
              clear hsv NX BAD
              go_wp2_with (go_at_call 26; (with_reducible refine (CL.out).mono ?_); rintro e w3 ⟨rfl, hb3⟩)
              go_roundw
              case rel => exact ⟨k + 1, by go_num, by omega, hbb.trans (hb3.mono hbb.size), FF.out⟩
              case measure => simp [intOf]; omega
          · obtain rfl : k = la.length := by omega
            have FF := Lib.hid (same_all HLEN.out (fun k h1 h2 h => HALL.out k h1 h2 h))
            go_wp2_with (fail)
            go_ret
            exact ⟨ret_bool FF.out, hb⟩
      · have g0 : ((la.length : Int) != (lb.length : Int)) = true := by simp; omega
        have FF : Hid (sameL la lb = false) := Lib.hid (sameL_len hlen)
        clear hlen hr hq ih
        go_enter Tryz.func25, Tryz.ntmps25
        go_wp2_with (fail)
        go_ret
        exact ⟨ret_bool FF.out, Below.refl _ _⟩
    clear hr hq ih
    go_enter Tryz.func11, Tryz.ntmps11
    go_wp2_with (go_at_call 25; (with_reducible refine (EF.out).mono ?_); rintro e w3 ⟨rfl, hb3⟩)
    go_ret
    exact ⟨rfl, hb3⟩
end Go.Proofs.YtimfljncibbdoaaGreatDoor.Lg
