/- Joined by mkmerged.py: LgSame. -/
import Derived.Test.YtdidnlkilleljaaGreatDoorMg09
/- LgSame, what a claim needs of it (prune.py). -/
namespace Go.Proofs.YtdidnlkilleljaaGreatDoor.Lg
open Go.RowKit
set_option linter.unusedVariables false
set_option maxRecDepth 100000
set_option maxHeartbeats 20000000 in
theorem same_any : ∀ (K : Nat) (la lb : List Stp) (hK : weight la ≤ K) (hW : weight la ≤ 1000000) (hA : wide la ≤ 1000000) (A F : Option Addr) (n m c d : Nat) (w : World) (ok ok' : Nat → Prop) (hr : StepsAt w ok A n la) (hq : StepsAt w ok' F m lb),
    Calls Tryz.prog 70 #[.slice A n c, .slice F m d] w fun e w' => e = .returned (.bool (sameL la lb)) ∧ ∃ q, w' = w.drewN q := by
  intro K
  induction K using Nat.strongRecOn with
  | ind K ih =>
    intro la lb hK hW hA A F n m c d w ok ok' hr hq
    obtain rfl : n = la.length := hr.1
    obtain rfl : m = lb.length := hq.1
    have hln := len_weight la
    by_cases hl : la.length = lb.length
    · have i0 : ((la.length : Int) != (lb.length : Int)) = false := by rw [hl]; simp
      have HL := Lib.hid hl
      clear hl
      go_enter Tryz.func70, Tryz.ntmps70
      go_wp2_with (fail)
      go_loopw [5] (fun i wx => ∃ k q : Nat, i = .int .i64 k ∧ k ≤ la.length ∧ wx = w.drewN q ∧ ∀ j (h1 : j < la.length) (h2 : j < lb.length), j < k → sameS la[j] lb[j] = true) (fun i _ => la.length - (intOf i).toNat)
      case atStart => exact ⟨0, 0, rfl, by omega, rfl, fun j _ _ h => absurd h (by omega)⟩
      case round =>
        obtain ⟨k, q, rfl, hk, rfl, hall⟩ := hrel
        have HALL := Lib.hid hall
        clear hall
        by_cases hlt : k < la.length
        · have hlt2 : k < lb.length := by have := HL.out; omega
          have hkI : (k : Int) < (la.length : Int) := by omega
          have hkI2 : (k : Int) < (lb.length : Int) := by omega
          obtain ⟨ad, A', ka, ca, B', kb, cb, rfl, a0, a1, a2, a3, a4, _, a5, _, a6⟩ := hr.at_ hlt
          obtain ⟨bd, E', ke, ce, F', kf, cf, rfl, b0, b1, b2, b3, b4, _, b5, _, b6⟩ := hq.at_ hlt2
          have hwb := weight_at hlt
          have hab := wide_at hlt
          have NXT : Hid (sameS la[k] lb[k] = true → ∀ j (h1 : j < la.length) (h2 : j < lb.length), j < k + 1 → sameS la[j] lb[j] = true) := Lib.hid (fun hs j h1 h2 h3 => by
            by_cases e : j = k
            · subst e; exact hs
            · exact HALL.out j h1 h2 (by omega))
          have BAD : Hid (sameS la[k] lb[k] = false → sameL la lb = false) := Lib.hid (fun h => same_bad hlt hlt2 h)
          have IH := Lib.hid (fun m => ih (weight la[k].block) (by omega) la[k].block lb[k].block (Nat.le_refl _) (by omega) (by omega) B' F' kb kf cb cf (w.drewN m) ok ok' (a6.dn m) (b6.dn m))
          have W1 : Hid (la[k].args.length ≤ 1000000) := Lib.hid (by omega)
          generalize la[k] = x at *
          generalize lb[k] = y at *
          have A1 : w.cell? ⟨(ad.add (k * 4)).block, (ad.add (k * 4)).off + 1, none⟩ = some (.slice A' ka ca) := by rw [← add_of_add] at a1; exact a1
          have A2 : w.cell? ⟨(ad.add (k * 4)).block, (ad.add (k * 4)).off + 2, none⟩ = some (.int .i64 x.n) := by rw [← add_of_add] at a2; exact a2
          have A3 : w.cell? ⟨(ad.add (k * 4)).block, (ad.add (k * 4)).off + 3, none⟩ = some (.slice B' kb cb) := by rw [← add_of_add] at a3; exact a3
          have B1 : w.cell? ⟨(bd.add (k * 4)).block, (bd.add (k * 4)).off + 1, none⟩ = some (.slice E' ke ce) := by rw [← add_of_add] at b1; exact b1
          have B2 : w.cell? ⟨(bd.add (k * 4)).block, (bd.add (k * 4)).off + 2, none⟩ = some (.int .i64 y.n) := by rw [← add_of_add] at b2; exact b2
          have B3 : w.cell? ⟨(bd.add (k * 4)).block, (bd.add (k * 4)).off + 3, none⟩ = some (.slice F' kf cf) := by rw [← add_of_add] at b3; exact b3
          have TA := Lib.hid (fun j (hj : j < x.args.length) => a5.text a4 hj)
          have TB := Lib.hid (fun j (hj : j < y.args.length) => b5.text b4 hj)
          clear a1 a2 a3 b1 b2 b3 a5 a6 b5 b6 hr hq ih
          subst a4 b4
          by_cases c1 : x.op = y.op
          · have g1 : (x.op != y.op) = false := by rw [c1]; simp
            have g1b : (x.op == y.op) = true := by rw [c1]; simp
            by_cases c2 : x.n = y.n
            · have g2 : (x.n != y.n) = false := by rw [c2]; simp
              have g2b : (x.n == y.n) = true := by rw [c2]; simp
              by_cases c3 : x.args.length = y.args.length
              · have g3 : ((x.args.length : Int) != (y.args.length : Int)) = false := by rw [c3]; simp
                have g3b : (x.args.length == y.args.length) = true := by rw [c3]; simp
                have g3c : ((x.args.length : Int) == (y.args.length : Int)) = true := by rw [c3]; simp
                have g3e : (x.args.length != y.args.length) = false := by rw [c3]; simp
                have C1 := Lib.hid c1
                have C2 := Lib.hid c2
                have C3 := Lib.hid c3
                clear c1 c2 c3
                cases c4 : sameL x.block y.block
                · have F := Lib.hid (BAD.out (by simp [sameS, c4]))
                  rw [c4] at IH
                  clear c4
                  go_wp2_with (fail)
                  refine wp_region_cls (C := fun w' => ∃ m, w' = w.drewN m) (by kernel_rfl) (by kernel_rfl) ⟨q + 1, rfl⟩ ?_
                  repeat (with_reducible refine wpQuiet_step (fun K hK => ?_); have HK := Lib.hid hK; clear hK; go_simp; first | (with_reducible refine HK.out _ ?_; clear HK K) | (apply Exists.intro; with_reducible refine ⟨fun _ => ?_, HK.out _ ?_⟩; (with_reducible exact Calls.quiet_of (IH.out _)); clear HK K))
                  refine wpQuiet_nil ?_
                  rintro w2 ⟨m, rfl⟩
                  go_wp2
                  go_ret
                  exact ⟨ret_bool F.out, m, rfl⟩
                · have S1 : Hid (x.args = y.args → sameS x y = true) := Lib.hid (fun h => sameS_of C1.out C2.out h c4)
                  rw [c4] at IH
                  clear c4
                  go_wp2_with (fail)
                  refine wp_region_cls (C := fun w' => ∃ m, w' = w.drewN m) (by kernel_rfl) (by kernel_rfl) ⟨q + 1, rfl⟩ ?_
                  repeat (with_reducible refine wpQuiet_step (fun K hK => ?_); have HK := Lib.hid hK; clear hK; go_simp; first | (with_reducible refine HK.out _ ?_; clear HK K) | (apply Exists.intro; with_reducible refine ⟨fun _ => ?_, HK.out _ ?_⟩; (with_reducible exact Calls.quiet_of (IH.out _)); clear HK K))
                  refine wpQuiet_nil ?_
                  rintro w2 ⟨m, rfl⟩
                  go_wp2
                  go_loopw [6] (fun i wx => ∃ j q : Nat, i = .int .i64 j ∧ j ≤ x.args.length ∧ wx = w.drewN q ∧ ∀ p (h1 : p < x.args.length) (h2 : p < y.args.length), p < j → x.args[p] = y.args[p]) (fun i _ => x.args.length - (intOf i).toNat)
                  case atStart => exact ⟨0, m, rfl, by omega, rfl, fun j _ _ h => absurd h (by omega)⟩
                  case round =>
                    obtain ⟨j, q2, rfl, hj, rfl, hpre⟩ := hrel
                    have PRE := Lib.hid hpre
                    clear hpre
                    by_cases hjl : j < x.args.length
                    · have hjl2 : j < y.args.length := by have := C3.out; omega
                      have hjI : (j : Int) < (x.args.length : Int) := by omega
                      have hjI2 : (j : Int) < (y.args.length : Int) := by omega
                      have hj6 : j ≤ 1000000 := by have := W1.out; omega
                      obtain ⟨a', rfl, ta⟩ := TA.out j hjl
                      obtain ⟨b', rfl, tb⟩ := TB.out j hjl2
                      have PN : Hid (x.args[j] = y.args[j] → ∀ p (h1 : p < x.args.length) (h2 : p < y.args.length), p < j + 1 → x.args[p] = y.args[p]) := Lib.hid (fun hs p h1 h2 h3 => by
                        by_cases e : p = j
                        · subst e; exact hs
                        · exact PRE.out p h1 h2 (by omega))
                      have PB : Hid (x.args[j] ≠ y.args[j] → sameL la lb = false) := Lib.hid (fun h => BAD.out (args_bad hjl hjl2 h))
                      generalize x.args[j] = u at *
                      generalize y.args[j] = v at *
                      by_cases cu : u = v
                      · subst cu
                        have PN1 := Lib.hid (PN.out rfl)
                        have g5 : ((bs u).toList != (bs u).toList) = false := by simp
                        clear PN PB
                        go_wp2_with (fail)
                        go_quiet (fail)
                        go_wp2
                        go_roundw
                        case rel => exact ⟨j + 1, _, by go_num, by omega, by first | rfl | exact World.drewN_drewN _ _ _, PN1.out⟩
                        case measure => simp [intOf]; omega
                      · have F := Lib.hid (PB.out cu)
                        have g5 := s_ne (a := bs u) (b := bs v) (fun e => cu (bs_inj e))
                        have g6 : ((bs u).toList != (bs v).toList) = true := by rw [bne, g5]; rfl
                        clear PN PB cu
                        go_wp2_with (fail)
                        go_quiet (fail)
                        go_wp2
                        go_ret
                        exact ⟨ret_bool F.out, _, by first | rfl | exact World.drewN_drewN _ _ _⟩
                    · obtain rfl : j = x.args.length := by omega
                      have S2 := Lib.hid (NXT.out (S1.out (list_eq C3.out (fun p h1 h2 h3 => PRE.out p h1 h2 h3))))
                      go_wp2_with (fail)
                      go_roundw
                      case rel => exact ⟨k + 1, q2, by go_num, by omega, rfl, S2.out⟩
                      case measure => simp [intOf]; omega
              · have g3 : ((x.args.length : Int) != (y.args.length : Int)) = true := by simp; omega
                have g3b : (x.args.length == y.args.length) = false := by simp [c3]
                have g3c : ((x.args.length : Int) == (y.args.length : Int)) = false := by simp; omega
                have g3d : ¬ x.args.length = y.args.length := c3
                have g3e : (x.args.length != y.args.length) = true := by simp [c3]
                have F := Lib.hid (BAD.out (by
                  have : x.args ≠ y.args := fun e => c3 (by rw [e])
                  simp [sameS, this]))
                clear c1 c2 c3 IH NXT BAD HALL HL W1 TA TB
                go_wp2_with (fail)
                refine wp_region_cls (C := fun w' => ∃ m, w' = w.drewN m) (by kernel_rfl) (by kernel_rfl) ⟨q + 1, rfl⟩ ?_
                repeat (with_reducible refine wpQuiet_step (fun K hK => ?_); have HK := Lib.hid hK; clear hK; go_simp; with_reducible refine HK.out _ ?_; clear HK K)
                refine wpQuiet_nil ?_
                rintro w2 ⟨m, rfl⟩
                go_wp2
                go_ret
                exact ⟨ret_bool F.out, m, rfl⟩
            · have g2 : (x.n != y.n) = true := by simp [c2]
              have g2b : (x.n == y.n) = false := by simp [c2]
              have F := Lib.hid (BAD.out (by simp [sameS, c2]))
              clear c1 c2 IH NXT BAD HALL HL W1 TA TB
              go_wp2_with (fail)
              refine wp_region_cls (C := fun w' => ∃ m, w' = w.drewN m) (by kernel_rfl) (by kernel_rfl) ⟨q + 1, rfl⟩ ?_
              repeat (with_reducible refine wpQuiet_step (fun K hK => ?_); have HK := Lib.hid hK; clear hK; go_simp; with_reducible refine HK.out _ ?_; clear HK K)
              refine wpQuiet_nil ?_
              rintro w2 ⟨m, rfl⟩
              go_wp2
              go_ret
              exact ⟨ret_bool F.out, m, rfl⟩
          · have g1 : (x.op != y.op) = true := by simp [c1]
            have g1b : (x.op == y.op) = false := by simp [c1]
            have F := Lib.hid (BAD.out (by simp [sameS, c1]))
            clear c1 IH NXT BAD HALL HL W1 TA TB
            go_wp2_with (fail)
            refine wp_region_cls (C := fun w' => ∃ m, w' = w.drewN m) (by kernel_rfl) (by kernel_rfl) ⟨q + 1, rfl⟩ ?_
            repeat (with_reducible refine wpQuiet_step (fun K hK => ?_); have HK := Lib.hid hK; clear hK; go_simp; with_reducible refine HK.out _ ?_; clear HK K)
            refine wpQuiet_nil ?_
            rintro w2 ⟨m, rfl⟩
            go_wp2
            go_ret
            exact ⟨ret_bool F.out, m, rfl⟩
        · obtain rfl : k = la.length := by omega
          have FIN : Hid (sameL la lb = true) := Lib.hid (same_all HL.out (fun j h1 h2 h3 => HALL.out j h1 h2 h3))
          go_wp2_with (fail)
          go_ret
          exact ⟨ret_bool FIN.out, q, rfl⟩
    · have i0 : ((la.length : Int) != (lb.length : Int)) = true := by simp; omega
      have FIN := Lib.hid (sameL_len hl)
      clear hl
      go_enter Tryz.func70, Tryz.ntmps70
      go_wp2_with (fail)
      go_ret
      exact ⟨ret_bool FIN.out, 0, rfl⟩
end Go.Proofs.YtdidnlkilleljaaGreatDoor.Lg
