/- The contracts of ch 04's few and entries. -/
import Derived.Test.YtglenhlhkgjnbaaGreatDoorFsMem
import Derived.Test.YtglenhlhkgjnbaaGreatDoorFsSpec
import Derived.Laws.StructEq
import Derived.BigQuiet
import Derived.Test.YtglenhlhkgjnbaaGreatDoorFsNone
import Derived.Test.YtglenhlhkgjnbaaGreatDoorFsRefD
import Derived.Test.YtglenhlhkgjnbaaGreatDoorFsDec
namespace Go.Proofs.YtglenhlhkgjnbaaGreatDoor.Fs
open Go.RowKit
set_option linter.unusedVariables false
set_option maxRecDepth 100000
def OkF (f : Fl) : Prop := f.p.size ≤ 60 ∧ f.d.size ≤ 3000
/-- what 'few' says -/
def FewF (l : List Fl) (w : World) (e : Ending) (w' : World) : Prop := ∃ b, e = .returned (.bool b) ∧ w = w' ∧ (b = true → l.length ≤ 40 ∧ ∀ f ∈ l, OkF f)
theorem FewF.no (l : List Fl) (w : World) : FewF l w (.returned (.bool false)) w := ⟨false, rfl, rfl, fun h => by cases h⟩
theorem small_of {l : List Fl} (h1 : l.length ≤ 40) (h2 : ∀ f ∈ l, OkF f) : Small l := ⟨by omega, fun f hf => by have := h2 f hf; unfold OkF at this; omega⟩
set_option maxHeartbeats 2000000 in
theorem few_any (A : Option Addr) (l : List Fl) (c : Nat) (w : World) (hl : l.length ≤ maxLen) (hr : Fls w A l) (hz : ∀ f ∈ l, f.p.size ≤ maxLen ∧ f.d.size ≤ maxLen) :
    Calls Tryz.prog 13 #[.slice A l.length c] w (FewF l w) := by
  have NO := Lib.hid (FewF.no l w)
  by_cases h1 : l.length ≤ 40
  · have i1 : decide ((40 : Int) < (l.length : Int)) = false := decide_eq_false (by omega)
    have YES : Hid ((∀ j (hj : j < l.length), j < l.length → OkF l[j]) → FewF l w (.returned (.bool true)) w) := Lib.hid fun h => ⟨true, rfl, rfl, fun _ => ⟨h1, fun f hf => by
      obtain ⟨j, hj, rfl⟩ := List.mem_iff_getElem.1 hf
      exact h j hj hj⟩⟩
    generalize FewF l w = Q at *
    go_enter Tryz.func13, Tryz.ntmps13
    go_wp2_with (fail)
    go_loop [3] (fun i => ∃ k : Nat, i = .int .i64 k ∧ k ≤ l.length ∧ ∀ j (hj : j < l.length), j < k → OkF l[j]) (fun i => l.length - (intOf i).toNat)
    case atStart => exact ⟨0, rfl, by omega, fun j hj h => by omega⟩
    case round =>
      obtain ⟨k, rfl, hk, hok⟩ := hrel
      have HOK := Lib.hid hok
      clear hok
      by_cases hlt : k < l.length
      · obtain ⟨ad, rfl, had, c0, c1⟩ := Fls.at_ hr hlt
        have hkI : (k : Int) < (l.length : Int) := by omega
        have hzz := hz _ (List.getElem_mem hlt)
        unfold maxLen at hzz
        have MU : Hid (OkF l[k] → ∀ j (hj : j < l.length), j < k + 1 → OkF l[j]) := Lib.hid fun h j hj h1 => by
          rcases Nat.lt_or_ge j k with h2 | h2
          · exact HOK.out j hj h2
          · obtain rfl : j = k := by omega
            exact h
        generalize l[k] = f at *
        by_cases g1 : f.p.size ≤ 60
        · by_cases g2 : f.d.size ≤ 3000
          · have j1 : decide ((60 : Int) < (f.p.size : Int)) = false := decide_eq_false (by omega)
            have j2 : decide ((3000 : Int) < (f.d.size : Int)) = false := decide_eq_false (by omega)
            have G := Lib.hid (⟨g1, g2⟩ : OkF f)
            go_wp2_with (fail)
            go_round
            case rel => exact ⟨k + 1, by go_num, by omega, MU.out G.out⟩
            case measure => simp [intOf]; omega
          · have j1 : decide ((60 : Int) < (f.p.size : Int)) = false := decide_eq_false (by omega)
            have j2 : decide ((3000 : Int) < (f.d.size : Int)) = true := decide_eq_true (by omega)
            go_wp2_with (fail)
            exact NO.out
        · have j1 : decide ((60 : Int) < (f.p.size : Int)) = true := decide_eq_true (by omega)
          go_wp2_with (fail)
          exact NO.out
      · obtain rfl : k = l.length := by omega
        go_wp2_with (fail)
        exact YES.out HOK.out
  · have i1 : decide ((40 : Int) < (l.length : Int)) = true := decide_eq_true (by unfold maxLen at hl; omega)
    generalize FewF l w = Q at *
    go_enter Tryz.func13, Tryz.ntmps13
    go_wp2_with (fail)
    exact NO.out
set_option maxHeartbeats 2000000 in
/-- two lists of the same entries -/
theorem entries_any (A F : Option Addr) (l : List En) (c d B B' : Nat) (w : World) (hl : l.length ≤ 1000000000) (hr : Reads w B 3 A l.length (ec l)) (hq : Reads w B' 3 F l.length (ec l)) :
    Calls Tryz.prog 15 #[.slice A l.length c, .slice F l.length d] w fun e w' => e = .returned (.bool true) ∧ Below w.heap.size w w' := by
  have i0 : ((l.length : Int) != (l.length : Int)) = false := by simp
  have DN : Hid (∀ n, Below w.heap.size w (w.drewN n)) := Lib.hid fun n => belowDN (Below.refl _ _) n
  go_enter Tryz.func15, Tryz.ntmps15
  go_wp2_with (fail)
  go_loopw [5] (fun i wx => ∃ k n : Nat, i = .int .i64 k ∧ k ≤ l.length ∧ wx = w.drewN n) (fun i _ => l.length - (intOf i).toNat)
  case atStart => exact ⟨0, 0, rfl, by omega, rfl⟩
  case round =>
    obtain ⟨k, n, rfl, hk, rfl⟩ := hrel
    by_cases hlt : k < l.length
    · obtain ⟨ad, rfl, _, c0, c1, c2⟩ := Ens.at_ hr hlt
      obtain ⟨bd, rfl, _, d0, d1, d2⟩ := Ens.at_ hq hlt
      have hkI : (k : Int) < (l.length : Int) := by omega
      clear hr hq
      generalize l[k] = f at *
      go_wp2_with (fail)
      go_quiet (fail)
      go_wp2
      go_roundw
      case rel => exact ⟨k + 1, _, by go_num, by omega, by first | rfl | exact World.drewN_drewN _ _ _⟩
      case measure => simp [intOf]; omega
    · obtain rfl : k = l.length := by omega
      go_wp2_with (fail)
      go_ret
      exact ⟨rfl, DN.out n⟩
end Go.Proofs.YtglenhlhkgjnbaaGreatDoor.Fs
/- The walks of TreeDigest, TreeDir, TreeDecodes, TreeEncodes. -/
namespace Go.Proofs.YtglenhlhkgjnbaaGreatDoor.Fs
open Go.RowKit
set_option linter.unusedVariables false
set_option maxRecDepth 100000
/-- what a law answers -/
def Yes (w : World) (e : Ending) (w' : World) : Prop := e = .returned (.bool true) ∧ Below w.heap.size w w'
set_option maxHeartbeats 2000000 in
theorem digest_walk (A : Option Addr) (l : List Fl) (c : Nat) (w : World) (hE : Env w) (hr : Fls w A l) (hlc : l.length ≤ c) (hl : l.length ≤ maxLen) (hz : ∀ f ∈ l, f.p.size ≤ maxLen ∧ f.d.size ≤ maxLen) :
    Calls Tryz.prog 8 #[.slice A l.length c] w (Yes w) := by
  have FW := Lib.hid (few_any A l c w hl hr hz)
  have AW : Hid (∀ W, Below w.heap.size w W → Calls Tryz.prog 14 #[] W fun e w' => e = .returned (.bool true) ∧ Below W.heap.size W w') := Lib.hid fun W hW => awake_any W (hE.below hW)
  have DG : Hid (Small l → Calls Tryz.prog 18 #[.slice A l.length c] w (DigSays l w)) := Lib.hid fun hs => pdigest_any A l c w hE hr hs
  have RG : Hid (Small l → ∀ W, Below w.heap.size w W → Calls Tryz.prog 19 #[.slice A l.length c] W (DigSays l W)) := Lib.hid fun hs W hW => rdigest_any A l c W ((hr.below hW).more hW.size) hs hlc
  clear hr hE
  go_enter Tryz.func8, Tryz.ntmps8
  go_wp2_with (fail)
  refine (FW.out).mono ?_
  rintro e w' ⟨b, rfl, rfl, hb⟩
  cases b
  · clear hb
    go_wp2_with (go_at_call 14; ((with_reducible refine (AW.out _ (Below.refl _ _)).mono ?_); rintro e w4 ⟨rfl, hb4⟩))
    go_ret
    exact ⟨rfl, hb4⟩
  · obtain ⟨h1, h2⟩ := hb rfl
    have D1 := Lib.hid (DG.out (small_of h1 h2))
    have R1 := Lib.hid (RG.out (small_of h1 h2))
    clear hb h2
    unfold DigSays at D1 R1
    generalize digest l = g at *
    go_wp2_with (first
      | (go_at_call 18; (with_reducible refine (D1.out).mono ?_); rintro e w1 ⟨rfl, hb1⟩)
      | (go_at_call 19; (with_reducible refine (R1.out _ hb1).mono ?_); rintro e w2 ⟨rfl, hb2⟩; have hb12 := hb1.trans (hb2.mono hb1.size))
      | (go_at_call 14; ((with_reducible refine (AW.out _ hb12).mono ?_); rintro e w4 ⟨rfl, hb4⟩)))
    go_ret
    exact ⟨rfl, hb12.trans (hb4.mono hb12.size)⟩
set_option maxHeartbeats 2000000 in
theorem dir_walk (A : Option Addr) (l : List Fl) (c : Nat) (s : ByteArray) (hs : s.size ≤ maxLen) (w : World) (hE : Env w) (hr : Fls w A l) (hlc : l.length ≤ c) (hl : l.length ≤ maxLen) (hz : ∀ f ∈ l, f.p.size ≤ maxLen ∧ f.d.size ≤ maxLen) :
    Calls Tryz.prog 9 #[.slice A l.length c, .string s] w (Yes w) := by
  have FW := Lib.hid (few_any A l c w hl hr hz)
  have AW : Hid (∀ W, Below w.heap.size w W → Calls Tryz.prog 14 #[] W fun e w' => e = .returned (.bool true) ∧ Below W.heap.size W w') := Lib.hid fun W hW => awake_any W (hE.below hW)
  have DG : Hid (s.size ≤ 60 → Small l → Calls Tryz.prog 16 #[.slice A l.length c, .string s] w (EntsSay (dir (at_ l (tl s))) w)) := Lib.hid fun h6 hs => pdir_any A l c (tl s) (by rw [tl_len]; omega) w hE hr hs
  have RG : Hid (s.size ≤ 60 → Small l → ∀ W, Below w.heap.size w W → Calls Tryz.prog 17 #[.slice A l.length c, .string s] W (EntsSay (dir (at_ l (tl s))) W)) := Lib.hid fun h6 hs W hW => rdir_any A l c (tl s) (by rw [tl_len]; omega) W ((hr.below hW).more hW.size) hs hlc
  have DL : Hid (Small l → (dir (at_ l (tl s))).length ≤ 1000000000) := Lib.hid fun hs => by
    have h1 := dir_len (at_ l (tl s))
    have h2 := names_len (at_ l (tl s))
    have h3 := (hs.at_ (tl s)).len
    omega
  unfold maxLen at hs
  clear hr hE
  by_cases h60 : s.size ≤ 60
  · have i1 : decide ((60 : Int) < (s.size : Int)) = false := decide_eq_false (by omega)
    go_enter Tryz.func9, Tryz.ntmps9
    go_wp2_with (fail)
    refine (FW.out).mono ?_
    rintro e w' ⟨b, rfl, rfl, hb⟩
    cases b
    · clear hb
      go_wp2_with (go_at_call 14; ((with_reducible refine (AW.out _ (Below.refl _ _)).mono ?_); rintro e w4 ⟨rfl, hb4⟩))
      go_ret
      exact ⟨rfl, hb4⟩
    · obtain ⟨h1, h2⟩ := hb rfl
      have D1 := Lib.hid (DG.out h60 (small_of h1 h2))
      have R1 := Lib.hid (RG.out h60 (small_of h1 h2))
      have L1 := DL.out (small_of h1 h2)
      clear hb h2
      generalize dir (at_ l (tl s)) = m at *
      go_wp2_with (first
        | (go_at_call 16; (with_reducible refine (D1.out).mono ?_); rintro e w1 ⟨⟨A1, c1, rfl, hr1⟩, hb1⟩; have H1 := Lib.hid hr1; clear hr1)
        | (go_at_call 17; (with_reducible refine (R1.out _ hb1).mono ?_); rintro e w2 ⟨⟨A2, c2, rfl, hr2⟩, hb2⟩; have hb12 := hb1.trans (hb2.mono hb1.size); have EN := Lib.hid (entries_any A1 A2 m c1 c2 _ _ w2 L1 (H1.out.below hb2) hr2); clear hr2)
        | (go_at_call 15; (with_reducible refine (EN.out).mono ?_); rintro e w3 ⟨rfl, hb3⟩; have hb13 := hb12.trans (hb3.mono hb12.size))
        | (go_at_call 14; ((with_reducible refine (AW.out _ hb13).mono ?_); rintro e w4 ⟨rfl, hb4⟩)))
      go_ret
      exact ⟨rfl, hb13.trans (hb4.mono hb13.size)⟩
  · have i1 : decide ((60 : Int) < (s.size : Int)) = true := decide_eq_true (by omega)
    go_enter Tryz.func9, Tryz.ntmps9
    go_wp2_with (fail)
    refine (FW.out).mono ?_
    rintro e w' ⟨b, rfl, rfl, hb⟩
    clear hb
    cases b
    all_goals
      go_wp2_with (go_at_call 14; ((with_reducible refine (AW.out _ (Below.refl _ _)).mono ?_); rintro e w4 ⟨rfl, hb4⟩))
      go_ret
      exact ⟨rfl, hb4⟩
set_option maxHeartbeats 2000000 in
theorem decodes_walk (s : ByteArray) (hs : s.size ≤ maxLen) (w : World) (hE : Env w) :
    Calls Tryz.prog 5 #[.string s] w (Yes w) := by
  have AW : Hid (∀ W, Below w.heap.size w W → Calls Tryz.prog 14 #[] W fun e w' => e = .returned (.bool true) ∧ Below W.heap.size W w') := Lib.hid fun W hW => awake_any W (hE.below hW)
  unfold maxLen at hs
  by_cases h : s.size ≤ 20000
  · have i1 : ¬ (20000 : Int) < (s.size : Int) := by omega
    have D1 : Hid (Calls Tryz.prog 23 #[.string s] w (DecSays (tl s) w)) := Lib.hid (pdecode_any (tl s) (by rw [tl_len]; omega) w hE)
    have R1 : Hid (∀ W, Calls Tryz.prog 24 #[.string s] W (DecSays (tl s) W)) := Lib.hid fun W => rdecode_any (tl s) (by rw [tl_len]; omega) W
    have L1 : (decode (tl s)).1.length ≤ 1000000000 := by have := decode_count (tl s); rw [tl_len] at this; omega
    clear hE
    unfold DecSays at D1 R1
    generalize (decode (tl s)).1 = m at *
    generalize (decode (tl s)).2 = ec at *
    have e1 : (ec == ec) = true := by simp
    go_enter Tryz.func5, Tryz.ntmps5
    go_wp2_with (first
      | (go_at_call 23; (with_reducible refine (D1.out).mono ?_); rintro e w1 ⟨⟨A1, c1, rfl, hr1⟩, hb1⟩; have H1 := Lib.hid hr1; clear hr1)
      | (go_at_call 24; (with_reducible refine (R1.out _).mono ?_); rintro e w2 ⟨⟨A2, c2, rfl, hr2⟩, hb2⟩; have hb12 := hb1.trans (hb2.mono hb1.size); have EN := Lib.hid (entries_any A1 A2 m c1 c2 _ _ w2 L1 (H1.out.below hb2) hr2); clear hr2)
      | (go_at_call 15; (with_reducible refine (EN.out).mono ?_); rintro e w3 ⟨rfl, hb3⟩; have hb13 := hb12.trans (hb3.mono hb12.size))
      | (go_at_call 14; ((with_reducible refine (AW.out _ hb13).mono ?_); rintro e w4 ⟨rfl, hb4⟩)))
    go_ret
    exact ⟨rfl, hb13.trans (hb4.mono hb13.size)⟩
  · have i1 : (20000 : Int) < (s.size : Int) := by omega
    go_enter Tryz.func5, Tryz.ntmps5
    go_wp2_with (go_at_call 14; ((with_reducible refine (AW.out _ (Below.refl _ _)).mono ?_); rintro e w4 ⟨rfl, hb4⟩))
    go_ret
    exact ⟨rfl, hb4⟩
def OkE (x : En) : Prop := x.n.length ≤ 500 ∧ x.g.length ≤ 500
set_option maxHeartbeats 2000000 in
theorem encodes_walk (A : Option Addr) (l : List En) (c : Nat) (w : World) (hE : Env w) (hr : Ens w A l) (hl : l.length ≤ maxLen) (hz : ∀ x ∈ l, x.n.length ≤ maxLen ∧ x.g.length ≤ maxLen) :
    Calls Tryz.prog 4 #[.slice A l.length c] w (Yes w) := by
  have AW : Hid (∀ W, Below w.heap.size w W → Calls Tryz.prog 14 #[] W fun e w' => e = .returned (.bool true) ∧ Below W.heap.size W w') := Lib.hid fun W hW => awake_any W (hE.below hW)
  unfold maxLen at hl
  by_cases h40 : l.length ≤ 40
  · have i1 : ¬ (40 : Int) < (l.length : Int) := by omega
    have BY : Hid ((∀ j (hj : j < l.length), j < l.length → OkE l[j]) → (bytesE l).length ≤ 100000000) := Lib.hid fun h => by
      have := bytesE_le (l := l) fun x hx => by
        obtain ⟨j, hj, rfl⟩ := List.mem_iff_getElem.1 hx
        have := h j hj hj
        unfold OkE at this
        omega
      omega
    have E1 : Hid ((bytesE l).length ≤ 100000000 → Calls Tryz.prog 21 #[.slice A l.length c] w (EncSays l w)) := Lib.hid fun h => pencode_any A l c w hE hr h
    have R1 : Hid ((bytesE l).length ≤ 100000000 → ∀ W, Below w.heap.size w W → Calls Tryz.prog 22 #[.slice A l.length c] W (EncSays l W)) := Lib.hid fun h W hW => rencode_any A l c W ((hr.below hW).more hW.size) h
    have HR := Lib.hid hr
    clear hr hE
    go_enter Tryz.func4, Tryz.ntmps4
    go_wp2_with (fail)
    go_loop [3] (fun i => ∃ k : Nat, i = .int .i64 k ∧ k ≤ l.length ∧ ∀ j (hj : j < l.length), j < k → OkE l[j]) (fun i => l.length - (intOf i).toNat)
    case atStart => exact ⟨0, rfl, by omega, fun j hj h => by omega⟩
    case round =>
      obtain ⟨k, rfl, hk, hok⟩ := hrel
      have HOK := Lib.hid hok
      clear hok
      by_cases hlt : k < l.length
      · obtain ⟨ad, rfl, had, c0, c1, c2⟩ := Ens.at_ HR.out hlt
        have hkI : (k : Int) < (l.length : Int) := by omega
        have hzz := hz _ (List.getElem_mem hlt)
        unfold maxLen at hzz
        have MU : Hid (OkE l[k] → ∀ j (hj : j < l.length), j < k + 1 → OkE l[j]) := Lib.hid fun h j hj h1 => by
          rcases Nat.lt_or_ge j k with h2 | h2
          · exact HOK.out j hj h2
          · obtain rfl : j = k := by omega
            exact h
        have z1 := bs_len l[k].n
        have z2 := bs_len l[k].g
        generalize l[k] = f at *
        by_cases g1 : f.n.length ≤ 500
        · by_cases g2 : f.g.length ≤ 500
          · have j1 : decide ((500 : Int) < ((bs f.n).size : Int)) = false := decide_eq_false (by omega)
            have j2 : decide ((500 : Int) < ((bs f.g).size : Int)) = false := decide_eq_false (by omega)
            have G := Lib.hid (⟨g1, g2⟩ : OkE f)
            clear E1 R1 BY
            go_wp2_with (fail)
            go_round
            case rel => exact ⟨k + 1, by go_num, by omega, MU.out G.out⟩
            case measure => simp [intOf]; omega
          · have j1 : decide ((500 : Int) < ((bs f.n).size : Int)) = false := decide_eq_false (by omega)
            have j2 : decide ((500 : Int) < ((bs f.g).size : Int)) = true := decide_eq_true (by omega)
            go_wp2_with (go_at_call 14; ((with_reducible refine (AW.out _ (Below.refl _ _)).mono ?_); rintro e w4 ⟨rfl, hb4⟩))
            go_ret
            exact ⟨rfl, hb4⟩
        · have j1 : decide ((500 : Int) < ((bs f.n).size : Int)) = true := decide_eq_true (by omega)
          go_wp2_with (go_at_call 14; ((with_reducible refine (AW.out _ (Below.refl _ _)).mono ?_); rintro e w4 ⟨rfl, hb4⟩))
          go_ret
          exact ⟨rfl, hb4⟩
      · obtain rfl : k = l.length := by omega
        have hby := BY.out HOK.out
        have EE := Lib.hid (E1.out hby)
        have RR := Lib.hid (R1.out hby)
        clear E1 R1 BY hby HOK
        unfold EncSays at EE RR
        generalize (encode l).1 = t at *
        generalize (encode l).2 = ec at *
        have e1 : (ec == ec) = true := by simp
        go_wp2_with (first
          | (go_at_call 21; (with_reducible refine (EE.out).mono ?_); rintro e w1 ⟨rfl, hb1⟩)
          | (go_at_call 22; (with_reducible refine (RR.out _ hb1).mono ?_); rintro e w2 ⟨rfl, hb2⟩; have hb12 := hb1.trans (hb2.mono hb1.size))
          | (go_at_call 14; ((with_reducible refine (AW.out _ hb12).mono ?_); rintro e w4 ⟨rfl, hb4⟩)))
        go_ret
        exact ⟨rfl, hb12.trans (hb4.mono hb12.size)⟩
  · have i1 : (40 : Int) < (l.length : Int) := by omega
    go_enter Tryz.func4, Tryz.ntmps4
    go_wp2_with (go_at_call 14; ((with_reducible refine (AW.out _ (Below.refl _ _)).mono ?_); rintro e w4 ⟨rfl, hb4⟩))
    go_ret
    exact ⟨rfl, hb4⟩
end Go.Proofs.YtglenhlhkgjnbaaGreatDoor.Fs
