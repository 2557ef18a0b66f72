/- The contract of the reference's Graph. -/
import Derived.Test.YtcpkhaebcmgehaaGreatDoorRgFiles
namespace Go.Proofs.YtcpkhaebcmgehaaGreatDoor
open Go.RowKit
set_option linter.unusedVariables false
set_option maxRecDepth 100000
set_option maxHeartbeats 4000000 in
theorem rgraph_any (A : Option Addr) (l : List Tg) (c : Nat) (hl : l.length ≤ 20) (hok : ∀ t ∈ l, t.Ok) (w : World) (hr : Tgs w w.heap.size A l) :
    Calls Tryz.prog 46 #[.slice A l.length c] w fun e w' => e = .returned (.string (bs (Pk.list (l.map Tg.b)))) ∧ Below w.heap.size w w' := by
  go_enter Tryz.func46, Tryz.ntmps46
  go_wp2_with (fail)
  go_loopw [3, 4] (fun v i wx => ∃ k : Nat, i = .int .i64 k ∧ k ≤ l.length ∧ wx.ownsRow w.heap.size 9 1 v k ((l.take k).map fun t => Value.string (bs t.b)) ∧ Below w.heap.size w wx) (fun _ i _ => l.length - (intOf i).toNat)
  case atStart => exact ⟨0, rfl, by omega, by simpa using World.ownsRow_nil _ _ _ _, Below.refl _ _⟩
  case round =>
    obtain ⟨k, rfl, hk, hown, hbx⟩ := hrel
    rename World => wx
    by_cases hlt : k < l.length
    · obtain ⟨ad, rfl, had, hcs⟩ := hr (by omega)
      obtain ⟨Ad, cd, As, cs, d0, d1, d2, d3, hd, hs⟩ := hcs k hlt
      have hkI : (k : Int) < (l.length : Int) := by omega
      have hB4 : (ad.add (k * 4)).block < w.heap.size := by rw [block_of_add]; exact had
      have hin : ∀ w', Below wx.heap.size wx w' → Below w.heap.size w w' := fun w' h => hbx.trans (h.mono hbx.size)
      have c0 : ∀ w', Below wx.heap.size wx w' → w'.cell? (ad.add (k * 4)) = some (.string l[k].n) := fun w' h => ((hin w' h).cell hB4).trans d0
      have c1 : ∀ w', Below wx.heap.size wx w' → w'.cell? ⟨(ad.add (k * 4)).block, (ad.add (k * 4)).off + 1, none⟩ = some (.string l[k].c) := fun w' h => ((hin w' h).cell (p := (ad.add (k * 4)).add 1) hB4).trans d1
      have c2 : ∀ w', Below wx.heap.size wx w' → w'.cell? ⟨(ad.add (k * 4)).block, (ad.add (k * 4)).off + 2, none⟩ = some (.slice Ad l[k].ds.length cd) := fun w' h => ((hin w' h).cell (p := (ad.add (k * 4)).add 2) hB4).trans d2
      have c3 : ∀ w', Below wx.heap.size wx w' → w'.cell? ⟨(ad.add (k * 4)).block, (ad.add (k * 4)).off + 3, none⟩ = some (.slice As l[k].ss.length cs) := fun w' h => ((hin w' h).cell (p := (ad.add (k * 4)).add 3) hB4).trans d3
      have hok1 := hok _ (List.getElem_mem hlt)
      have TK : Hid (((l.take (k + 1)).map fun t => Value.string (bs t.b)) = ((l.take k).map fun t => Value.string (bs t.b)) ++ [.string (bs l[k].b)]) := Lib.hid (by rw [List.take_succ_eq_append_getElem hlt, List.map_append]; rfl)
      clear hcs d0 d1 d2 d3
      generalize l[k] = t at *
      have FB := Lib.hid (targetB_eq (tl t.n) (tl t.c) (t.ds.map tl) (t.ss.map tl))
      have hbl : Hid (targetB (tl t.n) (tl t.c) (t.ds.map tl) (t.ss.map tl) = t.b) := Lib.hid rfl
      have p1 := hok1.n
      have p2 := hok1.c
      have p3 := hok1.ds_le
      have p4 := hok1.ss_le
      have x1 := textlen_le t.n (by omega)
      have x2 := textlen_le t.c (by omega)
      have x3 := listlen_le t.ds (by omega)
      have x4 := listlen_le t.ss (by omega)
      obtain ⟨X, eX⟩ : ∃ X, X = bs (Pk.text (tl t.n)) := ⟨_, rfl⟩
      obtain ⟨Y, eY⟩ : ∃ X, X = bs (Pk.text (tl t.c)) := ⟨_, rfl⟩
      obtain ⟨U, eU⟩ : ∃ X, X = bs (Pk.list (t.ds.map tl)) := ⟨_, rfl⟩
      obtain ⟨V, eV⟩ : ∃ X, X = bs (Pk.list (t.ss.map tl)) := ⟨_, rfl⟩
      rw [← eX, ← eY, ← eU, ← eV] at FB
      rw [← eX] at x1
      rw [← eY] at x2
      rw [← eU] at x3
      rw [← eV] at x4
      have TP : Hid (∀ W, Calls Tryz.prog 39 #[.string t.n] W fun e w' => e = .returned (.string X) ∧ Below W.heap.size W w') := Lib.hid (by rw [eX]; exact fun W => reftext_any t.n (by omega) W)
      have TD : Hid (∀ W, Calls Tryz.prog 39 #[.string t.c] W fun e w' => e = .returned (.string Y) ∧ Below W.heap.size W w') := Lib.hid (by rw [eY]; exact fun W => reftext_any t.c (by omega) W)
      have LD : Hid (∀ W, Below wx.heap.size wx W → Calls Tryz.prog 41 #[.slice Ad t.ds.length cd] W fun e w' => e = .returned (.string U) ∧ Below W.heap.size W w') := Lib.hid (by rw [eU]; exact fun W h => reflist_any Ad t.ds cd W ((hd.below (hin W h)).more (hin W h).size) (by omega))
      have LS : Hid (∀ W, Below wx.heap.size wx W → Calls Tryz.prog 41 #[.slice As t.ss.length cs] W fun e w' => e = .returned (.string V) ∧ Below W.heap.size W w') := Lib.hid (by rw [eV]; exact fun W h => reflist_any As t.ss cs W ((hs.below (hin W h)).more (hin W h).size) (by omega))
      have hXY : X.size + Y.size ≤ 9223372036854775807 := by omega
      have hXYU : (X ++ Y).size + U.size ≤ 9223372036854775807 := by rw [ByteArray.size_append]; omega
      have hXYU2 : X.size + Y.size + U.size ≤ 9223372036854775807 := by omega
      have hXYUV2 : X.size + Y.size + U.size + V.size ≤ 9223372036854775807 := by omega
      have hXYUV : (X ++ Y ++ U).size + V.size ≤ 9223372036854775807 := by rw [ByteArray.size_append, ByteArray.size_append]; omega
      have hk9 : k + 1 ≤ 1000000000 := by omega
      clear eX eY eU eV hok1 x1 x2 x3 x4 p1 p2 p3 p4 hd hs
      go_wp2_with (fail)
      refine wp_region_mix (C := fun w' => Below wx.heap.size wx w') 28 (by kernel_rfl) (by kernel_rfl) (fun _ _ d _ _ h => by cases d <;> exact h) (Below.refl _ _).drew ?_
      simp only [List.take_succ_cons, List.take_zero, List.drop_succ_cons, List.drop_zero]
      repeat (quiet_step (first | (intro _; rfl) | (intro _; rw [if_neg (by omega)]; exact ⟨rfl, rfl⟩) | (intro hss; (first | rw [c0 _ hss] | rw [c1 _ hss] | rw [c2 _ hss] | rw [c3 _ hss]); exact ⟨rfl, rfl⟩) | (intro hss; go_at_call 39; first | ((with_reducible refine (TP.out _).mono ?_); rintro e w' ⟨rfl, hb'⟩; exact ⟨rfl, hss.trans (hb'.mono hss.size)⟩) | ((with_reducible refine (TD.out _).mono ?_); rintro e w' ⟨rfl, hb'⟩; exact ⟨rfl, hss.trans (hb'.mono hss.size)⟩)) | (intro hss; go_at_call 41; first | ((with_reducible refine (LD.out _ hss).mono ?_); rintro e w' ⟨rfl, hb'⟩; exact ⟨rfl, hss.trans (hb'.mono hss.size)⟩) | ((with_reducible refine (LS.out _ hss).mono ?_); rintro e w' ⟨rfl, hb'⟩; exact ⟨rfl, hss.trans (hb'.mono hss.size)⟩))))
      refine wpQuiet_nil ?_
      intro w1 hb1
      have hown1 := own_later hown hb1
      have hbx2 := hbx.trans (hb1.mono hbx.size)
      have hB := hbx2.size
      clear hown
      go_wp2_with (at_builtin; refine append_one rfl (.tmp 11) (.tmp 39) 23 rfl w.heap.size 9 _ 16 Tryz.underlying23 str_info rfl (by decide) _ k _ rfl hown1 (.string (X ++ Y ++ U ++ V)) rfl rfl hk9 hB hbx2 ?_; intro v' w2 hown2 hb2 _)
      go_roundw
      case rel =>
        refine ⟨k + 1, by go_num, by omega, ?_, hb2⟩
        rw [TK.out, ← hbl.out, ← FB.out]
        exact hown2
      case measure => simp [intOf]; omega
    · obtain rfl : k = l.length := by omega
      rw [List.take_length] at hown
      obtain ⟨p, m, c', rfl⟩ := own_form hown
      have hm : m = l.length := by
        rcases hown.2 with ⟨h1, h2⟩ | ⟨g, cap, cur, h1, _⟩
        · injection h1; omega
        · injection h1
      subst hm
      have hst : Strs wx wx.heap.size p (l.map fun t => bs t.b) := by
        have := Reads.of_own hown
        unfold Strs
        rw [List.length_map, List.map_map]
        exact this
      have hfl : (((l.map fun t => bs t.b).map tl).flatMap Pk.text).length ≤ 500000000 := by
        have h1 := flat_le (l.map fun t => bs t.b) 10000 (by omega) (fun x hx => by
          obtain ⟨t, h1, rfl⟩ := List.mem_map.1 hx
          exact (hok t h1).b_le)
        have h2 : (l.map fun t => bs t.b).length * (10000 + 21) ≤ 20 * (10000 + 21) := Nat.mul_le_mul_right _ (by simpa using hl)
        omega
      have LC := reflist_any p (l.map fun t => bs t.b) c' wx hst hfl
      rw [List.length_map, show ((l.map fun t => bs t.b).map tl) = l.map Tg.b by rw [List.map_map]; rfl] at LC
      have LCH := Lib.hid LC
      clear LC hst hfl hown
      go_wp2_with (go_at_call 41; ((with_reducible refine (LCH.out).mono ?_); rintro e w1 ⟨rfl, hb1⟩))
      go_ret
      exact ⟨rfl, hbx.trans (hb1.mono hbx.size)⟩
end Go.Proofs.YtcpkhaebcmgehaaGreatDoor
