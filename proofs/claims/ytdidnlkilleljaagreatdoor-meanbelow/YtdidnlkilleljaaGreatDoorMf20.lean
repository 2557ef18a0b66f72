/- Joined by mkmerged.py: MnEqual. -/
import Derived.Test.YtdidnlkilleljaaGreatDoorMf19
import Derived.BigQuiet
/- MnEqual, what a claim needs of it (prune.py). -/
namespace Go.Proofs.YtdidnlkilleljaaGreatDoor.Mn
open Go.RowKit
open Fs
set_option linter.unusedVariables false
set_option maxRecDepth 100000
set_option maxHeartbeats 2000000 in
theorem equalF_any (A F : Option Addr) (l m : List Fl) (c d : Nat) (w : World) (hl : l.length ≤ 1000000000) (hm : m.length ≤ 1000000000) (hr : Fls w A l) (hq : Fls w F m) :
    Calls Tryz.prog 36 #[.slice A l.length c, .slice F m.length d] w fun e w' => e = .returned (.bool (decide (l = m))) ∧ Below w.heap.size w w' := by
  by_cases he : l.length = m.length
  · have i0 : ((l.length : Int) != (m.length : Int)) = false := by rw [he]; simp
    have RD := Lib.hid hr
    have RQ := Lib.hid hq
    have HE := Lib.hid he
    clear hr hq
    go_enter Tryz.func36, Tryz.ntmps36
    go_wp2_with (fail)
    go_loopw [13] (fun i wx => ∃ k : Nat, i = .int .i64 k ∧ k ≤ l.length ∧ EqTo l m k ∧ Below w.heap.size w wx) (fun i _ => l.length - (intOf i).toNat)
    case atStart => exact ⟨0, rfl, by omega, fun j _ _ h => by omega, Below.refl _ _⟩
    case round =>
      obtain ⟨k, rfl, hk, hq, hb⟩ := hrel
      have HQ := Lib.hid hq
      clear hq
      by_cases hlt : k < l.length
      · have hltm : k < m.length := by omega
        obtain ⟨ad, rfl, had, c0, c1⟩ := Fls.at_ RD.out hlt
        obtain ⟨bd, rfl, hbd, d0, d1⟩ := Fls.at_ RQ.out hltm
        have e0 : ∀ w', Below w.heap.size w w' → w'.cell? (ad.add (k * 2)) = some (.string l[k].p) := fun w' h => (h.cell (by rw [block_of_add]; exact had)).trans c0
        have e1 : ∀ w', Below w.heap.size w w' → w'.cell? ⟨(ad.add (k * 2)).block, (ad.add (k * 2)).off + 1, none⟩ = some (.string l[k].d) := fun w' h => (h.cell (by show (ad.add (k * 2)).block < _; rw [block_of_add]; exact had)).trans c1
        have g0 : ∀ w', Below w.heap.size w w' → w'.cell? (bd.add (k * 2)) = some (.string m[k].p) := fun w' h => (h.cell (by rw [block_of_add]; exact hbd)).trans d0
        have g1 : ∀ w', Below w.heap.size w w' → w'.cell? ⟨(bd.add (k * 2)).block, (bd.add (k * 2)).off + 1, none⟩ = some (.string m[k].d) := fun w' h => (h.cell (by show (bd.add (k * 2)).block < _; rw [block_of_add]; exact hbd)).trans d1
        have hkI : (k : Int) < (l.length : Int) := by omega
        have hkM : (k : Int) < (m.length : Int) := by omega
        have x0 := e0 _ hb
        have x1 := e1 _ hb
        have y0 := g0 _ hb
        have y1 := g1 _ hb
        have NX := Lib.hid (fun h => EqTo.next hlt hltm HQ.out h)
        have NE : Hid (l[k] ≠ m[k] → decide (l = m) = false) := Lib.hid fun h => decide_eq_false fun e => h (by subst e; rfl)
        clear c0 c1 d0 d1 e0 e1 g0 g1 he i0
        generalize l[k] = f at *
        generalize m[k] = g at *
        by_cases hp : f.p = g.p
        · by_cases hd : f.d = g.d
          · have F := Lib.hid (NX.out (by cases f; cases g; simp only at hp hd; rw [hp, hd]))
            rw [← hp] at y0
            rw [← hd] at y1
            clear hp hd NE NX
            go_wp2_with (fail)
            go_quiet (fail)
            go_wp2
            go_roundw
            case rel => exact ⟨k + 1, by go_num, by omega, F.out, bdn hb _⟩
            case measure => simp [intOf]; omega
          · have F := Lib.hid (NE.out (fun e => hd (by rw [e])))
            have s1 := Lg.s_ne hd
            rw [← hp] at y0
            clear hp hd NE NX
            go_wp2_with (fail)
            go_quiet (fail)
            go_wp2
            go_ret
            exact ⟨Lg.ret_bool F.out, bdn hb _⟩
        · have F := Lib.hid (NE.out (fun e => hp (by rw [e])))
          have s1 := Lg.s_ne hp
          clear hp NE NX
          go_wp2_with (fail)
          go_quiet (fail)
          go_wp2
          go_ret
          exact ⟨Lg.ret_bool F.out, bdn hb _⟩
      · obtain rfl : k = l.length := by omega
        have F : Hid (decide (l = m) = true) := Lib.hid (decide_eq_true (EqTo.all HE.out HQ.out))
        go_wp2_with (fail)
        go_ret
        exact ⟨Lg.ret_bool F.out, hb⟩
  · have i0 : ((l.length : Int) != (m.length : Int)) = true := by
      rw [bne_iff_ne]
      omega
    have F : Hid (decide (l = m) = false) := Lib.hid (decide_eq_false fun e => he (by rw [e]))
    clear he hr hq
    go_enter Tryz.func36, Tryz.ntmps36
    go_wp2_with (fail)
    go_ret
    exact ⟨Lg.ret_bool F.out, Below.refl _ _⟩
end Go.Proofs.YtdidnlkilleljaaGreatDoor.Mn
