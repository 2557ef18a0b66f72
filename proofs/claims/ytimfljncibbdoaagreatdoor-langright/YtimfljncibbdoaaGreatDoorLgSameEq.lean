/- The contract of the reference's Same at two lists that are the same: it answers true. -/
import Derived.Test.YtimfljncibbdoaaGreatDoorLgSameB
namespace Go.Proofs.YtimfljncibbdoaaGreatDoor.Lg
open Go.RowKit
set_option linter.unusedVariables false
set_option maxRecDepth 100000
set_option maxHeartbeats 4000000 in
theorem same_eq : ∀ (K : Nat) (la : List Stp) (hK : weight la ≤ K) (hW : weight la ≤ 1000000) (hA : wide la ≤ 1000000) (A F : Option Addr) (n m c d : Nat) (w : World) (ok ok' : Nat → Prop) (hr : StepsAt w ok A n la) (hq : StepsAt w ok' F m la),
    Calls Tryz.prog 14 #[.slice A n c, .slice F m d] w fun e w' => e = .returned (.bool true) ∧ ∃ q, w' = w.drewN q := by
  intro K
  induction K using Nat.strongRecOn with
  | ind K ih =>
    intro la hK hW hA A F n m c d w ok ok' hr hq
    obtain rfl : n = la.length := hr.1
    obtain rfl : m = la.length := hq.1
    have hln := len_weight la
    have i0 : ((la.length : Int) != (la.length : Int)) = false := by simp
    go_enter Tryz.func14, Tryz.ntmps14
    go_wp2_with (fail)
    go_loopw [5] (fun i wx => ∃ k q : Nat, i = .int .i64 k ∧ k ≤ la.length ∧ wx = w.drewN q) (fun i _ => la.length - (intOf i).toNat)
    case atStart => exact ⟨0, 0, rfl, by omega, rfl⟩
    case round =>
      obtain ⟨k, q, rfl, hk, rfl⟩ := hrel
      by_cases hlt : k < la.length
      · have hkI : (k : Int) < (la.length : Int) := by omega
        obtain ⟨ad, A', ka, ca, B', kb, cb, rfl, a0, a1, a2, a3, a4, _, a5, _, a6⟩ := hr.at_ hlt
        obtain ⟨bd, E', ke, ce, F', kf, cf, rfl, b0, b1, b2, b3, b4, _, b5, _, b6⟩ := hq.at_ hlt
        have hwb := weight_at hlt
        have hab := wide_at hlt
        have IH := Lib.hid (fun m => ih (weight la[k].block) (by omega) la[k].block (Nat.le_refl _) (by omega) (by omega) B' F' kb kf cb cf (w.drewN m) ok ok' (a6.dn m) (b6.dn m))
        have W1 : Hid (la[k].args.length ≤ 1000000) := Lib.hid (by omega)
        generalize la[k] = x at *
        have A1 : w.cell? ⟨(ad.add (k * 4)).block, (ad.add (k * 4)).off + 1, none⟩ = some (.slice A' ka ca) := by rw [← add_of_add] at a1; exact a1
        have A2 : w.cell? ⟨(ad.add (k * 4)).block, (ad.add (k * 4)).off + 2, none⟩ = some (.int .i64 x.n) := by rw [← add_of_add] at a2; exact a2
        have A3 : w.cell? ⟨(ad.add (k * 4)).block, (ad.add (k * 4)).off + 3, none⟩ = some (.slice B' kb cb) := by rw [← add_of_add] at a3; exact a3
        have B1 : w.cell? ⟨(bd.add (k * 4)).block, (bd.add (k * 4)).off + 1, none⟩ = some (.slice E' ke ce) := by rw [← add_of_add] at b1; exact b1
        have B2 : w.cell? ⟨(bd.add (k * 4)).block, (bd.add (k * 4)).off + 2, none⟩ = some (.int .i64 x.n) := by rw [← add_of_add] at b2; exact b2
        have B3 : w.cell? ⟨(bd.add (k * 4)).block, (bd.add (k * 4)).off + 3, none⟩ = some (.slice F' kf cf) := by rw [← add_of_add] at b3; exact b3
        have TA := Lib.hid (fun j (hj : j < x.args.length) => a5.text a4 hj)
        have TB := Lib.hid (fun j (hj : j < x.args.length) => b5.text b4 hj)
        clear a1 a2 a3 b1 b2 b3 a5 a6 b5 b6 hr hq ih
        subst a4 b4
        have g1 : (x.op != x.op) = false := by simp
        have g2 : (x.n != x.n) = false := by simp
        have g3 : ((x.args.length : Int) != (x.args.length : Int)) = false := by simp
        go_wp2_with (fail)
        refine wp_region_cls (C := fun w' => ∃ m, w' = w.drewN m) (by kernel_rfl) (by kernel_rfl) ⟨q + 1, rfl⟩ ?_
        repeat (quiet_step (first | (with_reducible exact Calls.quiet_of (IH.out _)) | (fail)))
        refine wpQuiet_nil ?_
        rintro w2 ⟨m, rfl⟩
        go_wp2
        go_loopw [6] (fun i wx => ∃ j q : Nat, i = .int .i64 j ∧ j ≤ x.args.length ∧ wx = w.drewN q) (fun i _ => x.args.length - (intOf i).toNat)
        case atStart => exact ⟨0, m, rfl, by omega, rfl⟩
        case round =>
          obtain ⟨j, q2, rfl, hj, rfl⟩ := hrel
          by_cases hjl : j < x.args.length
          · have hjI : (j : Int) < (x.args.length : Int) := by omega
            have hj6 : j ≤ 1000000 := by have := W1.out; omega
            obtain ⟨a', rfl, ta⟩ := TA.out j hjl
            obtain ⟨b', rfl, tb⟩ := TB.out j hjl
            generalize x.args[j] = u at *
            have g5 : ((bs u).toList != (bs u).toList) = false := by simp
            go_wp2_with (fail)
            go_quiet (fail)
            go_wp2
            go_roundw
            case rel => exact ⟨j + 1, _, by go_num, by omega, by first | rfl | exact World.drewN_drewN _ _ _⟩
            case measure => simp [intOf]; omega
          · obtain rfl : j = x.args.length := by omega
            go_wp2_with (fail)
            go_roundw
            case rel => exact ⟨k + 1, q2, by go_num, by omega, rfl⟩
            case measure => simp [intOf]; omega
      · obtain rfl : k = la.length := by omega
        go_wp2_with (fail)
        go_ret
        exact ⟨rfl, q, rfl⟩
end Go.Proofs.YtimfljncibbdoaaGreatDoor.Lg
