/- The walk of TreeDirs. -/
import Derived.Test.YtglenhlhkgjnbaaGreatDoorFsFew
namespace Go.Proofs.YtglenhlhkgjnbaaGreatDoor.Fs
open Go.RowKit
set_option linter.unusedVariables false
set_option maxRecDepth 100000
set_option maxHeartbeats 2000000 in
/-- two lists of the same files -/
theorem same_any (A F : Option Addr) (l : List Fl) (c d B B' : Nat) (w : World) (hl : l.length ≤ 1000000000) (hr : Reads w B 2 A l.length (fc l)) (hq : Reads w B' 2 F l.length (fc l)) :
    Calls Tryz.prog 20 #[.slice A l.length c, .slice F l.length d] w fun e w' => e = .returned (.bool true) ∧ Below w.heap.size w w' := by
  have i0 : ((l.length : Int) != (l.length : Int)) = false := by simp
  have DN : Hid (∀ n, Below w.heap.size w (w.drewN n)) := Lib.hid fun n => belowDN (Below.refl _ _) n
  go_enter Tryz.func20, Tryz.ntmps20
  go_wp2_with (fail)
  go_loopw [5] (fun i wx => ∃ k n : Nat, i = .int .i64 k ∧ k ≤ l.length ∧ wx = w.drewN n) (fun i _ => l.length - (intOf i).toNat)
  case atStart => exact ⟨0, 0, rfl, by omega, rfl⟩
  case round =>
    obtain ⟨k, n, rfl, hk, rfl⟩ := hrel
    by_cases hlt : k < l.length
    · obtain ⟨ad, rfl, _, c0, c1⟩ := Fls.at_ hr hlt
      obtain ⟨bd, rfl, _, d0, d1⟩ := Fls.at_ hq hlt
      have hkI : (k : Int) < (l.length : Int) := by omega
      clear hr hq
      generalize l[k] = f at *
      go_wp2_with (fail)
      go_quiet (fail)
      go_wp2
      go_roundw
      case rel => exact ⟨k + 1, _, by go_num, by omega, by first | rfl | exact World.drewN_drewN _ _ _⟩
      case measure => simp [intOf]; omega
    · obtain rfl : k = l.length := by omega
      go_wp2_with (fail)
      go_ret
      exact ⟨rfl, DN.out n⟩
theorem own_empty {w : World} {g B : Nat} {T : TypeId} {s : Nat} (h : w.heap[g]? = some (.cells #[] T (0, 0))) (hB : B ≤ g) : w.ownsRow B T s (.slice (some ⟨g, 0, none⟩) 0 0) 0 [] :=
  ⟨by simp, .inr ⟨g, 0, #[], rfl, hB, h, Nat.le_refl _, by unfold maxLen; omega, by simp, by simp⟩⟩
theorem own_slice {w : World} {v : Value} {l : List Fl} {n B : Nat} (h : w.ownsRow B 62 2 v n (fc l)) (hn : l.length = n) : ∃ A c, v = .slice A l.length c ∧ Fls w A l ∧ l.length ≤ c := by
  obtain ⟨⟨A, c, e, hr, hc⟩, _⟩ := own_fls h hn (Below.refl _ _)
  injection e with e
  exact ⟨A, c, e, hr, hc⟩
set_option maxHeartbeats 4000000 in
theorem dirs_walk (A : Option Addr) (l : List Fl) (c : Nat) (s : ByteArray) (hs : s.size ≤ maxLen) (w : World) (hE : Env w) (hr : Fls w A l) (hlc : l.length ≤ c) (hl : l.length ≤ maxLen) (hz : ∀ f ∈ l, f.p.size ≤ maxLen ∧ f.d.size ≤ maxLen) :
    Calls Tryz.prog 3 #[.slice A l.length c, .string s] w (Yes w) := by
  have FW := Lib.hid (few_any A l c w hl hr hz)
  have AW : Hid (∀ W, Below w.heap.size w W → Calls Tryz.prog 14 #[] W fun e w' => e = .returned (.bool true) ∧ Below W.heap.size W w') := Lib.hid fun W hW => awake_any W (hE.below hW)
  unfold maxLen at hs
  by_cases h60 : s.size ≤ 60
  · have i1 : decide ((60 : Int) < (s.size : Int)) = false := decide_eq_false (by omega)
    go_enter Tryz.func3, Tryz.ntmps3
    go_wp2_with (fail)
    refine (FW.out).mono ?_
    rintro e w' ⟨b, rfl, rfl, hb⟩
    cases b
    · clear hb
      go_wp2_with (go_at_call 14; ((with_reducible refine (AW.out _ (Below.refl _ _)).mono ?_); rintro e w4 ⟨rfl, hb4⟩))
      go_ret
      exact ⟨rfl, hb4⟩
    · obtain ⟨h1, h2⟩ := hb rfl
      have hsm := small_of h1 h2
      clear hb h2
      obtain ⟨zf, hif, hsf⟩ := infoF
      obtain ⟨i0, fi, fz0, fz1, fz2⟩ := Lg.info_parts hif
      have HR : Hid (∀ W, Below w.heap.size w W → Reads W w.heap.size 2 A l.length (fc l)) := Lib.hid fun W hW => hr.below hW
      have PD : Hid (∀ A c W, Below w.heap.size w W → Fls W A l → Calls Tryz.prog 16 #[.slice A l.length c, .string s] W (EntsSay (dir (at_ l (tl s))) W)) := Lib.hid fun A c W hW hr => pdir_any A l c (tl s) (by rw [tl_len]; omega) W (hE.below hW) hr hsm
      have RDI : Hid (∀ W, Below w.heap.size w W → Calls Tryz.prog 17 #[.slice A l.length c, .string s] W (EntsSay (dir (at_ l (tl s))) W)) := Lib.hid fun W hW => rdir_any A l c (tl s) (by rw [tl_len]; omega) W ((hr.below hW).more hW.size) hsm hlc
      have PG : Hid (∀ A c W, Below w.heap.size w W → Fls W A l → Calls Tryz.prog 18 #[.slice A l.length c] W (DigSays l W)) := Lib.hid fun A c W hW hr => pdigest_any A l c W (hE.below hW) hr hsm
      have RG : Hid (∀ W, Below w.heap.size w W → Calls Tryz.prog 19 #[.slice A l.length c] W (DigSays l W)) := Lib.hid fun W hW => rdigest_any A l c W ((hr.below hW).more hW.size) hsm hlc
      have L1 : (dir (at_ l (tl s))).length ≤ 1000000000 := by
        have h1 := dir_len (at_ l (tl s))
        have h2 := names_len (at_ l (tl s))
        have h3 := (hsm.at_ (tl s)).len
        omega
      clear hsm hr hE hif FW hz
      unfold DigSays at PG RG
      generalize digest l = g at *
      generalize dir (at_ l (tl s)) = m at *
      have q0 := heap_alloc_new w (.cells #[] 62)
      have b0 : Below w.heap.size w (w.alloc (.cells #[] 62)) := (Below.refl _ _).alloc (Nat.le_refl _) _
      go_wp2_with (at_builtin; refine wpList_append_any _ rfl (.tmp 15) (.tmp 16) _ rfl w.heap.size 62 i0 _ 2 32 Tryz.underlying22 fi fz0 fz1 fz2 hsf (by omega) _ 0 [] rfl (own_empty q0 (Nat.le_refl _)) w.heap.size A l.length c (fc l) rfl (HR.out _ b0) (fc_cell l) (by simp only [maxLen]; omega) (by omega) b0.size ?_; intro v' w1 hown hg1 hat1)
      have b1 : Below w.heap.size w w1 := b0.grown hg1 b0.size (fun g hg => by cases hg; exact Nat.le_refl _)
      obtain ⟨A1, c1, rfl, hr1, hc1⟩ := own_slice (l := l) (n := 0 + l.length) (by simpa using hown) (by omega)
      have H1 : Hid (∀ W, Below w1.heap.size w1 W → Fls W A1 l) := Lib.hid fun W hW => (hr1.below hW).more hW.size
      have P1 := Lib.hid (PD.out A1 c1 w1 b1 hr1)
      clear hown hg1 hat1 hr1
      go_wp2_with (first
        | (go_at_call 16; (with_reducible refine (P1.out).mono ?_); rintro e w2 ⟨⟨A2, c2, rfl, hr2⟩, hb2⟩; have D2 := Lib.hid hr2; clear hr2; have b2 := b1.trans (hb2.mono b1.size))
        | (go_at_call 17; (with_reducible refine (RDI.out _ b2).mono ?_); rintro e w3 ⟨⟨A3, c3, rfl, hr3⟩, hb3⟩; have h13 := hb2.trans (hb3.mono hb2.size); have b3 := b1.trans (h13.mono b1.size); have EN := Lib.hid (entries_any A2 A3 m c2 c3 _ _ w3 L1 (D2.out.below hb3) hr3); clear hr3)
        | (go_at_call 15; (with_reducible refine (EN.out).mono ?_); rintro e w4 ⟨rfl, hb4⟩; have h14 := h13.trans (hb4.mono h13.size); have b4 := b1.trans (h14.mono b1.size); have G4 := Lib.hid (PG.out A1 c1 w4 b4 (H1.out _ h14)))
        | (go_at_call 18; (with_reducible refine (G4.out).mono ?_); rintro e w5 ⟨rfl, hb5⟩; have h15 := h14.trans (hb5.mono h14.size); have b5 := b1.trans (h15.mono b1.size))
        | (go_at_call 19; (with_reducible refine (RG.out _ b5).mono ?_); rintro e w6 ⟨rfl, hb6⟩; have h16 := h15.trans (hb6.mono h15.size); have b6 := b1.trans (h16.mono b1.size); have SM := Lib.hid (same_any A1 A l c1 c _ _ w6 (by omega) (H1.out _ h16) (HR.out _ b6)))
        | (go_at_call 20; (with_reducible refine (SM.out).mono ?_); rintro e w7 ⟨rfl, hb7⟩; have b7 := b6.trans (hb7.mono b6.size))
        | (go_at_call 14; ((with_reducible refine (AW.out _ b7).mono ?_); rintro e w8 ⟨rfl, hb8⟩)))
      go_ret
      exact ⟨rfl, b7.trans (hb8.mono b7.size)⟩
  · have i1 : decide ((60 : Int) < (s.size : Int)) = true := decide_eq_true (by omega)
    go_enter Tryz.func3, Tryz.ntmps3
    go_wp2_with (fail)
    refine (FW.out).mono ?_
    rintro e w' ⟨b, rfl, rfl, hb⟩
    clear hb
    cases b
    all_goals
      go_wp2_with (go_at_call 14; ((with_reducible refine (AW.out _ (Below.refl _ _)).mono ?_); rintro e w4 ⟨rfl, hb4⟩))
      go_ret
      exact ⟨rfl, hb4⟩
end Go.Proofs.YtglenhlhkgjnbaaGreatDoor.Fs
