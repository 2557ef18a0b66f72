/- The contract of the reference's Files. -/
import Derived.Test.YtcpkhaebcmgehaaGreatDoorKgFiles
namespace Go.Proofs.YtcpkhaebcmgehaaGreatDoor
open Go.RowKit
set_option linter.unusedVariables false
set_option maxRecDepth 100000
set_option maxHeartbeats 2000000 in
theorem rfiles_any (A : Option Addr) (l : List Fl) (c : Nat) (hl : l.length ≤ 60) (hok : ∀ t ∈ l, t.Ok) (w : World) (hr : Fls w w.heap.size A l) :
    Calls Tryz.prog 47 #[.slice A l.length c] w fun e w' => e = .returned (.string (bs (Pk.list (l.map Fl.b)))) ∧ Below w.heap.size w w' := by
  go_enter Tryz.func47, Tryz.ntmps47
  go_wp2_with (fail)
  go_loopw [3, 4] (fun v i wx => ∃ k : Nat, i = .int .i64 k ∧ k ≤ l.length ∧ wx.ownsRow w.heap.size 9 1 v k ((l.take k).map fun t => Value.string (bs t.b)) ∧ Below w.heap.size w wx) (fun _ i _ => l.length - (intOf i).toNat)
  case atStart => exact ⟨0, rfl, by omega, by simpa using World.ownsRow_nil _ _ _ _, Below.refl _ _⟩
  case round =>
    obtain ⟨k, rfl, hk, hown, hbx⟩ := hrel
    rename World => wx
    by_cases hlt : k < l.length
    · obtain ⟨ad, rfl, had, hcs⟩ := hr (by omega)
      have hkI : (k : Int) < (l.length : Int) := by omega
      have c0 : ∀ w', Below wx.heap.size wx w' → w'.cell? (ad.add (k * 2)) = some (.string l[k].p) := fun w' h => (((hbx.trans (h.mono hbx.size)).cell (by rw [block_of_add]; exact had))).trans (hcs k hlt).1
      have c1 : ∀ w', Below wx.heap.size wx w' → w'.cell? ⟨(ad.add (k * 2)).block, (ad.add (k * 2)).off + 1, none⟩ = some (.string l[k].d) := fun w' h => ((hbx.trans (h.mono hbx.size)).cell (p := (ad.add (k * 2)).add 1) (by rw [block_of_add, block_of_add]; exact had)).trans (hcs k hlt).2
      have hok1 := hok _ (List.getElem_mem hlt)
      have TK : Hid (((l.take (k + 1)).map fun t => Value.string (bs t.b)) = ((l.take k).map fun t => Value.string (bs t.b)) ++ [.string (bs l[k].b)]) := Lib.hid (by rw [List.take_succ_eq_append_getElem hlt, List.map_append]; rfl)
      clear hcs
      generalize l[k] = t at *
      have FB : Hid (bs (Pk.text (tl t.p)) ++ bs (Pk.text (tl t.d)) = bs t.b) := Lib.hid (bs_append _ _)
      have x1 := textlen_le t.p (by have := hok1.p; omega)
      have x2 := textlen_le t.d (by have := hok1.d; omega)
      obtain ⟨X, eX⟩ : ∃ X, X = bs (Pk.text (tl t.p)) := ⟨_, rfl⟩
      obtain ⟨Y, eY⟩ : ∃ X, X = bs (Pk.text (tl t.d)) := ⟨_, rfl⟩
      have p1 := hok1.p
      have p2 := hok1.d
      have TP : Hid (∀ W, Calls Tryz.prog 39 #[.string t.p] W fun e w' => e = .returned (.string X) ∧ Below W.heap.size W w') := Lib.hid (by rw [eX]; exact fun W => reftext_any t.p (by omega) W)
      have TD : Hid (∀ W, Calls Tryz.prog 39 #[.string t.d] W fun e w' => e = .returned (.string Y) ∧ Below W.heap.size W w') := Lib.hid (by rw [eY]; exact fun W => reftext_any t.d (by omega) W)
      rw [← eX, ← eY] at FB
      rw [← eX] at x1
      rw [← eY] at x2
      have hXY : X.size + Y.size ≤ 9223372036854775807 := by omega
      have hk9 : k + 1 ≤ 1000000000 := by omega
      clear eX eY hok1 x1 x2 p1 p2
      go_wp2_with (fail)
      refine wp_region_mix (C := fun w' => Below wx.heap.size wx w') 14 (by kernel_rfl) (by kernel_rfl) (fun _ _ d _ _ h => by cases d <;> exact h) (Below.refl _ _).drew ?_
      simp only [List.take_succ_cons, List.take_zero, List.drop_succ_cons, List.drop_zero]
      repeat (quiet_step (first | (intro _; rfl) | (intro _; rw [if_neg (by omega)]; exact ⟨rfl, rfl⟩) | (intro hss; (first | rw [c0 _ hss] | rw [c1 _ hss]); exact ⟨rfl, rfl⟩) | (intro hss; go_at_call 39; first | ((with_reducible refine (TP.out _).mono ?_); rintro e w' ⟨rfl, hb'⟩; exact ⟨rfl, hss.trans (hb'.mono hss.size)⟩) | ((with_reducible refine (TD.out _).mono ?_); rintro e w' ⟨rfl, hb'⟩; exact ⟨rfl, hss.trans (hb'.mono hss.size)⟩))))
      refine wpQuiet_nil ?_
      intro w1 hb1
      have hown1 := own_later hown hb1
      have hbx2 := hbx.trans (hb1.mono hbx.size)
      have hB := hbx2.size
      clear hown
      go_wp2_with (at_builtin; refine append_one rfl (.tmp 11) (.tmp 25) 23 rfl w.heap.size 9 _ 16 Tryz.underlying23 str_info rfl (by decide) _ k _ rfl hown1 (.string (X ++ Y)) rfl rfl hk9 hB hbx2 ?_; intro v' w2 hown2 hb2 _)
      go_roundw
      case rel =>
        refine ⟨k + 1, by go_num, by omega, ?_, hb2⟩
        rw [TK.out, ← FB.out]
        exact hown2
      case measure => simp [intOf]; omega
    · obtain rfl : k = l.length := by omega
      rw [List.take_length] at hown
      obtain ⟨p, m, c', rfl⟩ := own_form hown
      have hm : m = l.length := by
        rcases hown.2 with ⟨h1, h2⟩ | ⟨g, cap, cur, h1, _⟩
        · injection h1; omega
        · injection h1
      subst hm
      have hst : Strs wx wx.heap.size p (l.map fun t => bs t.b) := by
        have := Reads.of_own hown
        unfold Strs
        rw [List.length_map, List.map_map]
        exact this
      have hfl : (((l.map fun t => bs t.b).map tl).flatMap Pk.text).length ≤ 500000000 := by
        have h1 := flat_le (l.map fun t => bs t.b) 4000 (by omega) (fun x hx => by
          obtain ⟨t, h1, rfl⟩ := List.mem_map.1 hx
          exact (hok t h1).b_le)
        have h2 : (l.map fun t => bs t.b).length * (4000 + 21) ≤ 60 * (4000 + 21) := Nat.mul_le_mul_right _ (by simpa using hl)
        omega
      have LC := reflist_any p (l.map fun t => bs t.b) c' wx hst hfl
      rw [List.length_map, show ((l.map fun t => bs t.b).map tl) = l.map Fl.b by rw [List.map_map]; rfl] at LC
      have LCH := Lib.hid LC
      clear LC hst hfl hown
      go_wp2_with (go_at_call 41; ((with_reducible refine (LCH.out).mono ?_); rintro e w1 ⟨rfl, hb1⟩))
      go_ret
      exact ⟨rfl, hbx.trans (hb1.mono hbx.size)⟩
end Go.Proofs.YtcpkhaebcmgehaaGreatDoor
