/- Joined by mkmerged.py: SameG2. -/
import Derived.Test.YtcpkhaebcmgehaaGreatDoorMa01
import Derived.Test.YtcpkhaebcmgehaaGreatDoorMa15
import Derived.Deep.Draws
import Derived.BigQuiet
import Derived.Test.YtcpkhaebcmgehaaGreatDoorMa02
/- The contract of the reference's Same of any two lists of targets, and of texts. -/
namespace Go.Proofs.YtcpkhaebcmgehaaGreatDoor.Ops
open Go.RowKit
set_option linter.unusedVariables false
set_option maxRecDepth 100000
def Upto {α : Type} (l m : List α) (k : Nat) : Prop := ∀ j (hj : j < l.length) (hm : j < m.length), j < k → l[j] = m[j]
theorem Upto.zero {α : Type} (l m : List α) : Upto l m 0 := fun j _ _ h => by omega
theorem Upto.next {α : Type} {l m : List α} {k : Nat} (hk : k < l.length) (hm : k < m.length) (h : Upto l m k) (h1 : l[k] = m[k]) : Upto l m (k + 1) := fun j hj hjm hjk => by
  rcases Nat.lt_or_ge j k with h2 | h2
  · exact h j hj hjm h2
  · obtain rfl : j = k := by omega
    exact h1
theorem Upto.all {α : Type} {l m : List α} (he : l.length = m.length) (h : Upto l m l.length) : l = m := List.ext_getElem he fun j hj hm => h j hj hm hj
theorem Upto.ne {α : Type} {l m : List α} {k : Nat} (hk : k < l.length) (hm : k < m.length) (h : l[k] ≠ m[k]) : l ≠ m := fun e => h (by subst e; rfl)
theorem belowDN {B : Nat} {w w' : World} (h : Below B w w') (n : Nat) : Below B w (w'.drewN n) := ⟨h.os, h.tape, h.output, h.size, h.block⟩
set_option maxHeartbeats 2000000 in
theorem texts2_any (A F : Option Addr) (l m : List ByteArray) (c d B B' : Nat) (w : World) (hl : l.length ≤ 9223372036854775807) (hm : m.length ≤ 9223372036854775807) (hr : Strs w B A l) (hq : Strs w B' F m) {b : Bool} (hb : b = decide (l = m)) :
    Calls Tryz.prog 97 #[.slice A l.length c, .slice F m.length d] w fun e w' => e = .returned (.bool b) ∧ ∃ n, w' = w.drewN n := by
  have YES : Hid (l.length = m.length → Upto l m l.length → b = true) := Lib.hid fun h h1 => by rw [hb]; exact decide_eq_true (h1.all h)
  have NE : Hid (l ≠ m → b = false) := Lib.hid fun h => by rw [hb]; exact decide_eq_false h
  clear hb
  by_cases he : l.length = m.length
  · have i0 : ((l.length : Int) != (m.length : Int)) = false := by rw [he]; simp
    have HE := Lib.hid he
    go_enter Tryz.func97, Tryz.ntmps97
    go_wp2_with (fail)
    go_loopw [5] (fun i wx => ∃ k n : Nat, i = .int .i64 k ∧ k ≤ l.length ∧ Upto l m k ∧ wx = w.drewN n) (fun i _ => l.length - (intOf i).toNat)
    case atStart => exact ⟨0, 0, rfl, by omega, Upto.zero _ _, rfl⟩
    case round =>
      obtain ⟨k, n, rfl, hk, hup, rfl⟩ := hrel
      have UP := Lib.hid hup
      clear hup
      by_cases hlt : k < l.length
      · have hltm : k < m.length := by omega
        obtain ⟨ad, rfl, _, hc⟩ := hr.at_ hlt
        obtain ⟨bd, rfl, _, hd⟩ := hq.at_ hltm
        have hkI : (k : Int) < (l.length : Int) := by omega
        have hkM : (k : Int) < (m.length : Int) := by omega
        have NX := Lib.hid (fun h => Upto.next hlt hltm UP.out h)
        have NN := Lib.hid (fun h => NE.out (Upto.ne hlt hltm h))
        clear hr hq he i0
        generalize l[k] = f at *
        generalize m[k] = g at *
        by_cases hfg : f = g
        · have F := Lib.hid (NX.out hfg)
          subst hfg
          clear NX NN
          go_wp2_with (fail)
          go_quiet (fail)
          go_wp2
          go_roundw
          case rel => exact ⟨k + 1, _, by go_num, by omega, F.out, by first | rfl | exact World.drewN_drewN _ _ _⟩
          case measure => simp [intOf]; omega
        · have F := Lib.hid (NN.out hfg)
          have s1 := Lg.s_ne hfg
          clear NX NN hfg
          go_wp2_with (fail)
          go_quiet (fail)
          go_wp2
          go_ret
          exact ⟨Lg.ret_bool F.out, _, by first | rfl | exact World.drewN_drewN _ _ _⟩
      · obtain rfl : k = l.length := by omega
        have F := Lib.hid (YES.out HE.out UP.out)
        go_wp2_with (fail)
        go_ret
        exact ⟨Lg.ret_bool F.out, n, rfl⟩
  · have i0 : ((l.length : Int) != (m.length : Int)) = true := by rw [bne_iff_ne]; omega
    have F := Lib.hid (NE.out (fun e => he (by rw [e])))
    go_enter Tryz.func97, Tryz.ntmps97
    go_wp2_with (fail)
    go_ret
    exact ⟨Lg.ret_bool F.out, 0, rfl⟩
theorem strs_dn {w : World} {B : Nat} {A : Option Addr} {l : List ByteArray} (h : Strs w B A l) (n : Nat) : Strs (w.drewN n) B A l := h.below (belowDN (Below.refl _ _) n)
set_option maxHeartbeats 4000000 in
theorem sameG2_any (A F : Option Addr) (l m : List Tg) (c d B B' : Nat) (w : World) (hl : l.length ≤ 9223372036854775807) (hm : m.length ≤ 9223372036854775807) (hz : ∀ t ∈ l, t.ds.length ≤ 9223372036854775807 ∧ t.ss.length ≤ 9223372036854775807) (hzm : ∀ t ∈ m, t.ds.length ≤ 9223372036854775807 ∧ t.ss.length ≤ 9223372036854775807)
    (hr : Tgs w B A l) (hq : Tgs w B' F m) {b : Bool} (hb : b = decide (l = m)) :
    Calls Tryz.prog 55 #[.slice A l.length c, .slice F m.length d] w fun e w' => e = .returned (.bool b) ∧ ∃ n, w' = w.drewN n := by
  have YES : Hid (l.length = m.length → Upto l m l.length → b = true) := Lib.hid fun h h1 => by rw [hb]; exact decide_eq_true (h1.all h)
  have NE : Hid (l ≠ m → b = false) := Lib.hid fun h => by rw [hb]; exact decide_eq_false h
  clear hb
  by_cases he : l.length = m.length
  · have i0 : ((l.length : Int) != (m.length : Int)) = false := by rw [he]; simp
    have HE := Lib.hid he
    go_enter Tryz.func55, Tryz.ntmps55
    go_wp2_with (fail)
    go_loopw [5] (fun i wx => ∃ k n : Nat, i = .int .i64 k ∧ k ≤ l.length ∧ Upto l m k ∧ wx = w.drewN n) (fun i _ => l.length - (intOf i).toNat)
    case atStart => exact ⟨0, 0, rfl, by omega, Upto.zero _ _, rfl⟩
    case round =>
      obtain ⟨k, n, rfl, hk, hup, rfl⟩ := hrel
      have UP := Lib.hid hup
      clear hup
      by_cases hlt : k < l.length
      · have hltm : k < m.length := by omega
        obtain ⟨ad, rfl, _, hc⟩ := hr (by omega)
        obtain ⟨bd, rfl, _, hd⟩ := hq (by omega)
        obtain ⟨Ad, cd, As, cs, a0, a1, a2, a3, hsd, hss⟩ := hc k hlt
        obtain ⟨Ed, ed, Es, es, b0, b1, b2, b3, hed, hes⟩ := hd k hltm
        obtain ⟨fd, fs⟩ := hz _ (List.getElem_mem hlt)
        obtain ⟨gd, gs⟩ := hzm _ (List.getElem_mem hltm)
        have hkI : (k : Int) < (l.length : Int) := by omega
        have hkM : (k : Int) < (m.length : Int) := by omega
        have NX := Lib.hid (fun h => Upto.next hlt hltm UP.out h)
        have NN := Lib.hid (fun h => NE.out (Upto.ne hlt hltm h))
        clear hc hd hr hq hz hzm he i0
        generalize l[k] = f at *
        generalize m[k] = g at *
        have TD := Lib.hid (fun (v : Bool) (hv : v = decide (f.ds = g.ds)) q => texts2_any Ad Ed f.ds g.ds cd ed B B' (w.drewN q) (by omega) (by omega) (strs_dn hsd q) (strs_dn hed q) hv)
        have TS := Lib.hid (fun (v : Bool) (hv : v = decide (f.ss = g.ss)) q => texts2_any As Es f.ss g.ss cs es B B' (w.drewN q) (by omega) (by omega) (strs_dn hss q) (strs_dn hes q) hv)
        have A1 : w.cell? ⟨(ad.add (k * 4)).block, (ad.add (k * 4)).off + 1, none⟩ = some (.string f.c) := a1
        have A2 : w.cell? ⟨(ad.add (k * 4)).block, (ad.add (k * 4)).off + 2, none⟩ = some (.slice Ad f.ds.length cd) := a2
        have A3 : w.cell? ⟨(ad.add (k * 4)).block, (ad.add (k * 4)).off + 3, none⟩ = some (.slice As f.ss.length cs) := a3
        have B1 : w.cell? ⟨(bd.add (k * 4)).block, (bd.add (k * 4)).off + 1, none⟩ = some (.string g.c) := b1
        have B2 : w.cell? ⟨(bd.add (k * 4)).block, (bd.add (k * 4)).off + 2, none⟩ = some (.slice Ed g.ds.length ed) := b2
        have B3 : w.cell? ⟨(bd.add (k * 4)).block, (bd.add (k * 4)).off + 3, none⟩ = some (.slice Es g.ss.length es) := b3
        have EX : Hid (f.n = g.n → f.c = g.c → f.ds = g.ds → f.ss = g.ss → f = g) := Lib.hid (by cases f; cases g; simp only; rintro rfl rfl rfl rfl; rfl)
        clear a1 a2 a3 b1 b2 b3 hsd hss hed hes fd fs gd gs
        by_cases h0 : f.n = g.n
        · by_cases h1 : f.c = g.c
          · by_cases h2 : f.ds = g.ds
            · have T2 := Lib.hid (TD.out true (decide_eq_true h2).symm)
              by_cases h3 : f.ss = g.ss
              · have T3 := Lib.hid (TS.out true (decide_eq_true h3).symm)
                have F := Lib.hid (NX.out (EX.out h0 h1 h2 h3))
                rw [← h0] at b0
                rw [← h1] at B1
                clear NN NX EX h0 h1 h2 h3 TD TS
                go_wp2_with (fail)
                refine wp_region_cls (C := fun w' => ∃ m, w' = w.drewN m) (by kernel_rfl) (by kernel_rfl) ⟨n + 1, rfl⟩ ?_
                repeat (first | go_big_quiet_skip | quiet_step (first | (with_reducible exact Calls.quiet_of (T2.out _)) | (with_reducible exact Calls.quiet_of (T3.out _)) | (fail)))
                refine wpQuiet_nil ?_
                rintro w2 ⟨m, rfl⟩
                go_wp2
                go_roundw
                case rel => exact ⟨k + 1, _, by go_num, by omega, F.out, by first | rfl | exact World.drewN_drewN _ _ _⟩
                case measure => simp [intOf]; omega
              · have T3 := Lib.hid (TS.out false (decide_eq_false h3).symm)
                have F := Lib.hid (NN.out (fun e => h3 (by rw [e])))
                rw [← h0] at b0
                rw [← h1] at B1
                clear NN NX EX h0 h1 h2 h3 TD TS
                go_wp2_with (fail)
                refine wp_region_cls (C := fun w' => ∃ m, w' = w.drewN m) (by kernel_rfl) (by kernel_rfl) ⟨n + 1, rfl⟩ ?_
                repeat (first | go_big_quiet_skip | quiet_step (first | (with_reducible exact Calls.quiet_of (T2.out _)) | (with_reducible exact Calls.quiet_of (T3.out _)) | (fail)))
                refine wpQuiet_nil ?_
                rintro w2 ⟨m, rfl⟩
                go_wp2
                go_ret
                exact ⟨Lg.ret_bool F.out, _, by first | rfl | exact World.drewN_drewN _ _ _⟩
            · have T2 := Lib.hid (TD.out false (decide_eq_false h2).symm)
              have F := Lib.hid (NN.out (fun e => h2 (by rw [e])))
              rw [← h0] at b0
              rw [← h1] at B1
              clear NN NX EX h0 h1 h2 TD TS
              go_wp2_with (fail)
              refine wp_region_cls (C := fun w' => ∃ m, w' = w.drewN m) (by kernel_rfl) (by kernel_rfl) ⟨n + 1, rfl⟩ ?_
              repeat (first | go_big_quiet_skip | quiet_step (first | (with_reducible exact Calls.quiet_of (T2.out _)) | (fail)))
              refine wpQuiet_nil ?_
              rintro w2 ⟨m, rfl⟩
              go_wp2
              go_ret
              exact ⟨Lg.ret_bool F.out, _, by first | rfl | exact World.drewN_drewN _ _ _⟩
          · have F := Lib.hid (NN.out (fun e => h1 (by rw [e])))
            have s1 := Lg.s_ne h1
            rw [← h0] at b0
            clear NN NX EX h0 h1 TD TS
            go_wp2_with (fail)
            go_quiet (fail)
            go_wp2
            go_ret
            exact ⟨Lg.ret_bool F.out, _, by first | rfl | exact World.drewN_drewN _ _ _⟩
        · have F := Lib.hid (NN.out (fun e => h0 (by rw [e])))
          have s1 := Lg.s_ne h0
          clear NN NX EX h0 TD TS
          go_wp2_with (fail)
          go_quiet (fail)
          go_wp2
          go_ret
          exact ⟨Lg.ret_bool F.out, _, by first | rfl | exact World.drewN_drewN _ _ _⟩
      · obtain rfl : k = l.length := by omega
        have F := Lib.hid (YES.out HE.out UP.out)
        go_wp2_with (fail)
        go_ret
        exact ⟨Lg.ret_bool F.out, n, rfl⟩
  · have i0 : ((l.length : Int) != (m.length : Int)) = true := by rw [bne_iff_ne]; omega
    have F := Lib.hid (NE.out (fun e => he (by rw [e])))
    go_enter Tryz.func55, Tryz.ntmps55
    go_wp2_with (fail)
    go_ret
    exact ⟨Lg.ret_bool F.out, 0, rfl⟩
end Go.Proofs.YtcpkhaebcmgehaaGreatDoor.Ops
