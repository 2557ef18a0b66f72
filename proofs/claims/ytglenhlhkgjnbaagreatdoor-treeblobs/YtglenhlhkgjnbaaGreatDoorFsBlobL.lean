/- The contract of the reference's Blobs; the walk of TreeBlobs. -/
import Derived.Test.YtglenhlhkgjnbaaGreatDoorFsRAdd
import Derived.Test.YtglenhlhkgjnbaaGreatDoorFsFew
namespace Go.Proofs.YtglenhlhkgjnbaaGreatDoor.Fs
open Go.RowKit
set_option linter.unusedVariables false
set_option maxRecDepth 100000
theorem datas_small {l : List Fl} {k : Nat} : (datas l k).length ≤ l.length := by simp [datas]; omega
set_option maxHeartbeats 4000000 in
theorem rblobs_any (A : Option Addr) (l : List Fl) (c : Nat) (w : World) (hr : Fls w A l) (hs : Small l) (hlc : l.length ≤ c) :
    Calls Tryz.prog 32 #[.slice A l.length c] w (TxtsSay (blobs l) w) := by
  have RD : Hid (∀ W, Below w.heap.size w W → Reads W w.heap.size 2 A l.length (fc l)) := Lib.hid fun W hW => hr.below hW
  have hl := hs.len
  have DA : Hid (∀ W v xs, Below w.heap.size w W → Txts W v xs → xs.length ≤ 1000 → Calls Tryz.prog 78 #[v, .slice A l.length c] W (TxtsSay (insAll (downL l) xs) W)) := Lib.hid fun W v xs hW ht hx =>
    rdirs_all (bulk l + 1) l (by omega) hs A c W v xs ht ((hr.below hW).more hW.size) hlc (by have := down_small hs; omega)
  have BE : Hid (blobs l = insAll (downL l) (insAll (datas l l.length) [])) := Lib.hid (by rw [blobs, insAll_app, datas_all])
  clear hr hs
  generalize hQ : TxtsSay (blobs l) w = Q
  have EN : Hid (∀ v W ys, blobs l = ys → Txts W v ys → Below w.heap.size w W → Q (.returned v) W) := Lib.hid fun v W ys e h hb => by
    rw [← hQ, e]
    exact ⟨⟨v, rfl, h⟩, hb⟩
  clear hQ
  go_enter Tryz.func32, Tryz.ntmps32
  go_wp2_with (fail)
  go_loopw [3, 4] (fun v i W => ∃ k : Nat, i = .int .i64 k ∧ k ≤ l.length ∧ Txts W v (insAll (datas l k) []) ∧ Below w.heap.size w W) (fun _ i _ => l.length - (intOf i).toNat)
  case atStart => exact ⟨0, rfl, by omega, ⟨0, World.ownsRow_nil _ _ _ _⟩, Below.refl _ _⟩
  case round =>
    obtain ⟨k, rfl, hk, ht, hb⟩ := hrel
    have HT := Lib.hid ht
    clear ht
    have hds := datas_small (l := l) (k := k)
    have hil := insAll_len (datas l k) []
    have LI : Hid ((insAll (datas l k) []).length ≤ 1000) := Lib.hid (by simp at hil; omega)
    clear hds hil
    by_cases hlt : k < l.length
    · have hkI : (k : Int) < (l.length : Int) := by omega
      obtain ⟨ad, rfl, had, c0, c1⟩ := Fls.at_ (RD.out _ hb) hlt
      have NX : Hid (insAll (datas l (k + 1)) [] = ins (tl l[k].d) (insAll (datas l k) [])) := Lib.hid (by rw [datas_next hlt, insAll_snoc])
      have AD : Hid (Calls Tryz.prog 77 #[u3, .string l[k].d] wr (TxtsSay (ins (tl l[k].d) (insAll (datas l k) [])) wr)) := Lib.hid (radd_any u3 _ (tl l[k].d) wr HT.out (by have := LI.out; omega))
      generalize l[k] = f at *
      go_wp2_with (go_at_call 77; (with_reducible refine (AD.out).mono ?_); rintro e w2 ⟨⟨v2, rfl, ht2⟩, hb2⟩)
      go_roundw
      case rel => exact ⟨k + 1, by go_num, by omega, by rw [NX.out]; exact ht2, hb.trans (hb2.mono hb.size)⟩
      case measure => simp [intOf]; omega
    · obtain rfl : k = l.length := by omega
      have D := Lib.hid (DA.out wr u3 _ hb HT.out LI.out)
      go_wp2_with (go_at_call 78; (with_reducible refine (D.out).mono ?_); rintro e w2 ⟨⟨v2, rfl, ht2⟩, hb2⟩)
      exact EN.out _ _ _ BE.out ht2 (hb.trans (hb2.mono hb.size))
set_option maxHeartbeats 2000000 in
/-- two lists of the same texts -/
theorem texts_any (A F : Option Addr) (l : List B) (c d B1 B2 : Nat) (w : World) (hl : l.length ≤ 1000000000) (hr : Reads w B1 1 A l.length (l.map tv)) (hq : Reads w B2 1 F l.length (l.map tv)) :
    Calls Tryz.prog 30 #[.slice A l.length c, .slice F l.length d] w fun e w' => e = .returned (.bool true) ∧ Below w.heap.size w w' := by
  have i0 : ((l.length : Int) != (l.length : Int)) = false := by simp
  have DN : Hid (∀ n, Below w.heap.size w (w.drewN n)) := Lib.hid fun n => belowDN (Below.refl _ _) n
  go_enter Tryz.func30, Tryz.ntmps30
  go_wp2_with (fail)
  go_loopw [5] (fun i wx => ∃ k n : Nat, i = .int .i64 k ∧ k ≤ l.length ∧ wx = w.drewN n) (fun i _ => l.length - (intOf i).toNat)
  case atStart => exact ⟨0, 0, rfl, by omega, rfl⟩
  case round =>
    obtain ⟨k, n, rfl, hk, rfl⟩ := hrel
    by_cases hlt : k < l.length
    · obtain ⟨ad, u, rfl, _, hu, c0⟩ := Reads.at_ hr hlt
      obtain rfl : u = .string (bs l[k]) := by
        rw [List.getElem?_map, List.getElem?_eq_getElem hlt] at hu
        exact (Option.some.inj hu).symm
      obtain ⟨bd, u, rfl, _, hu, d0⟩ := Reads.at_ hq hlt
      obtain rfl : u = .string (bs l[k]) := by
        rw [List.getElem?_map, List.getElem?_eq_getElem hlt] at hu
        exact (Option.some.inj hu).symm
      have hkI : (k : Int) < (l.length : Int) := by omega
      clear hr hq hu
      generalize l[k] = f at *
      have e5 : ((bs f).toList != (bs f).toList) = false := by simp
      go_wp2_with (fail)
      go_quiet (fail)
      go_wp2
      go_roundw
      case rel => exact ⟨k + 1, _, by go_num, by omega, by first | rfl | exact World.drewN_drewN _ _ _⟩
      case measure => simp [intOf]; omega
    · obtain rfl : k = l.length := by omega
      go_wp2_with (fail)
      go_ret
      exact ⟨rfl, DN.out n⟩
theorem Txts.slice {W : World} {v : Value} {xs : List B} (h : Txts W v xs) : ∃ A c, v = .slice A xs.length c ∧ Reads W W.heap.size 1 A xs.length (xs.map tv) := by
  obtain ⟨B0, h⟩ := h
  obtain ⟨A, n, c, rfl⟩ := own_form h
  have hn : n = xs.length := by
    rcases h.2 with ⟨h1, h2⟩ | ⟨g, cap, cur, h1, _⟩
    · injection h1; omega
    · injection h1
  subst hn
  exact ⟨A, c, rfl, Reads.of_own h⟩
set_option maxHeartbeats 2000000 in
theorem blobs_walk (A : Option Addr) (l : List Fl) (c : Nat) (w : World) (hE : Env w) (hr : Fls w A l) (hlc : l.length ≤ c) (hl : l.length ≤ maxLen) (hz : ∀ f ∈ l, f.p.size ≤ maxLen ∧ f.d.size ≤ maxLen) :
    Calls Tryz.prog 10 #[.slice A l.length c] w (Yes w) := by
  have FW := Lib.hid (few_any A l c w hl hr hz)
  have AW : Hid (∀ W, Below w.heap.size w W → Calls Tryz.prog 14 #[] W fun e w' => e = .returned (.bool true) ∧ Below W.heap.size W w') := Lib.hid fun W hW => awake_any W (hE.below hW)
  have PB : Hid (Small l → Calls Tryz.prog 31 #[.slice A l.length c] w (TextsSay (blobs l) w)) := Lib.hid fun hs => pblobs_any A l c w hE hr hs
  have RB : Hid (Small l → ∀ W, Below w.heap.size w W → Calls Tryz.prog 32 #[.slice A l.length c] W (TxtsSay (blobs l) W)) := Lib.hid fun hs W hW => rblobs_any A l c W ((hr.below hW).more hW.size) hs hlc
  have BL : Hid (Small l → (blobs l).length ≤ 1000000000) := Lib.hid fun hs => by
    have h1 := insAll_len (l.map (fun f => tl f.d) ++ downL l) []
    have h2 := down_small hs
    have h3 := hs.len
    unfold blobs
    simp at h1
    omega
  clear hr hE
  go_enter Tryz.func10, Tryz.ntmps10
  go_wp2_with (fail)
  refine (FW.out).mono ?_
  rintro e w' ⟨b, rfl, rfl, hb⟩
  cases b
  · clear hb
    go_wp2_with (go_at_call 14; ((with_reducible refine (AW.out _ (Below.refl _ _)).mono ?_); rintro e w4 ⟨rfl, hb4⟩))
    go_ret
    exact ⟨rfl, hb4⟩
  · obtain ⟨h1, h2⟩ := hb rfl
    have P1 := Lib.hid (PB.out (small_of h1 h2))
    have R1 := Lib.hid (RB.out (small_of h1 h2))
    have L1 := BL.out (small_of h1 h2)
    clear hb h2
    generalize blobs l = m at *
    go_wp2_with (first
      | (go_at_call 31; (with_reducible refine (P1.out).mono ?_); rintro e w1 ⟨⟨A1, c1, rfl, hr1⟩, hb1⟩; have H1 := Lib.hid hr1; clear hr1)
      | (go_at_call 32; (with_reducible refine (R1.out _ hb1).mono ?_); rintro e w2 ⟨⟨v2, rfl, ht2⟩, hb2⟩; obtain ⟨A2, c2, rfl, hr2⟩ := ht2.slice; have hb12 := hb1.trans (hb2.mono hb1.size); have EQ := Lib.hid (texts_any A1 A2 m c1 c2 _ _ w2 L1 (H1.out.below hb2) hr2); clear hr2 ht2)
      | (go_at_call 30; (with_reducible refine (EQ.out).mono ?_); rintro e w3 ⟨rfl, hb3⟩; have hb13 := hb12.trans (hb3.mono hb12.size))
      | (go_at_call 14; ((with_reducible refine (AW.out _ hb13).mono ?_); rintro e w4 ⟨rfl, hb4⟩)))
    go_ret
    exact ⟨rfl, hb13.trans (hb4.mono hb13.size)⟩
end Go.Proofs.YtglenhlhkgjnbaaGreatDoor.Fs
