/- The law CacheOldest, walked. -/
import Derived.Test.YtcifjhhofefpjaaCaAwake
import Derived.Test.YtcifjhhofefpjaaCaOldSpec
import Derived.Test.YtcifjhhofefpjaaKb
import Derived.IntWalk
import Derived.Deep.RegionWith
namespace Go.Proofs.Ytcifjhhofefpjaa.Ca
open Go.RowKit Go.Maps Go.Shelf
set_option linter.unusedVariables false
set_option maxRecDepth 100000
theorem conv_at (k : Nat) (hk : k < 256) (w : World) (b : Nat) (h : w.heap[b]? = some (.cells #[.int .u8 (k : Int)] 5 (0, 0))) : (convert 28 9 (.slice (some ⟨b, 0, none⟩) 1 1)).run Try.prog w = .ok (.string (key k)) w := by
  have e : ((UInt8.ofNat k).toNat : Int) = k := by rw [UInt8.toNat_ofNat_of_lt' (by show k < 256; omega)]
  refine conv_own (B := 0) (n := 1) (l := [UInt8.ofNat k]) Try.underlying28 Try.underlying5 Try.underlying9
    ⟨rfl, .inr ⟨b, 1, #[.int .u8 (k : Int)], rfl, Nat.zero_le _, h, Nat.le_refl _, by unfold maxLen; decide, rfl, ?_⟩⟩
  show [Value.int .u8 (k : Int)] = [Value.int .u8 ((UInt8.ofNat k).toNat : Int)]
  rw [e]
theorem awake_low {w0 w : World} (hb : Below w0.heap.size w0 w) : Calls Try.prog 7 #[] w fun e w' => e = .returned (.bool true) ∧ Below w0.heap.size w0 w' :=
  (awake_any w).mono fun e w' ⟨h1, h2⟩ => ⟨h1, hb.trans (h2.mono hb.size)⟩
theorem old_bad (most many : Int) (w : World) (h : most < 1 ∨ 50 < most ∨ many < 0 ∨ 200 < many) : Calls Try.prog 3 #[.int .i64 most, .int .i64 many] w fun e w' => e = .returned (.bool true) ∧ Below w.heap.size w w' := by
  have AW := Lib.hid (awake_low (Below.refl w.heap.size w))
  by_cases h1 : most < 1
  · have d1 : decide (most < 1) = true := decide_eq_true h1
    clear h
    go_enter Try.func3, Try.ntmps3
    go_wp2_with (go_at_call 7; ((with_reducible refine (AW.out).mono ?_); rintro e w' ⟨rfl, hb⟩))
    go_ret
    exact ⟨rfl, hb⟩
  · have d1 : decide (most < 1) = false := decide_eq_false h1
    by_cases h2 : 50 < most
    · have d2 : decide (50 < most) = true := decide_eq_true h2
      clear h
      go_enter Try.func3, Try.ntmps3
      go_wp2_with (go_at_call 7; ((with_reducible refine (AW.out).mono ?_); rintro e w' ⟨rfl, hb⟩))
      go_ret
      exact ⟨rfl, hb⟩
    · have d2 : decide (50 < most) = false := decide_eq_false h2
      by_cases h3 : many < 0
      · have d3 : decide (many < 0) = true := decide_eq_true h3
        clear h
        go_enter Try.func3, Try.ntmps3
        go_wp2_with (go_at_call 7; ((with_reducible refine (AW.out).mono ?_); rintro e w' ⟨rfl, hb⟩))
        go_ret
        exact ⟨rfl, hb⟩
      · have d3 : decide (many < 0) = false := decide_eq_false h3
        have d4 : decide (200 < many) = true := decide_eq_true (by omega)
        clear h
        go_enter Try.func3, Try.ntmps3
        go_wp2_with (go_at_call 7; ((with_reducible refine (AW.out).mono ?_); rintro e w' ⟨rfl, hb⟩))
        go_ret
        exact ⟨rfl, hb⟩
theorem own_slice {w : World} {base : Nat} {e : TypeId} {size : Nat} {v : Value} {n : Nat} {xs : List Value} (h : w.ownsRow base e size v n xs) : ∃ A cap, v = .slice A n cap := by
  rcases h.2 with ⟨rfl, rfl⟩ | ⟨g, cap, cur, rfl, _⟩
  · exact ⟨_, _, rfl⟩
  · exact ⟨_, _, rfl⟩
theorem old_good (most many : Nat) (w : World) (h1 : 1 ≤ most) (h2 : most ≤ 50) (h3 : many ≤ 200) : Calls Try.prog 3 #[.int .i64 most, .int .i64 many] w fun e w' => e = .returned (.bool true) ∧ Below w.heap.size w w' := by
  have d1 : decide ((most : Int) < 1) = false := decide_eq_false (by omega)
  have d2 : decide ((50 : Int) < (most : Int)) = false := decide_eq_false (by omega)
  have d3 : decide ((many : Int) < 0) = false := decide_eq_false (by omega)
  have d4 : decide ((200 : Int) < (many : Int)) = false := decide_eq_false (by omega)
  have N0 := Lib.hid (I.new_ok most h1 (by omega) w)
  go_enter Try.func3, Try.ntmps3
  go_wp2_with (fail)
  refine (N0.out).mono ?_
  rintro e w1 ⟨rfl, i1, b1⟩
  rw [← old_zero most] at i1
  have I1 := Lib.hid i1
  clear i1
  go_wp2_with (fail)
  go_loopw [7] (fun i wr => ∃ k : Nat, i = .int .i64 k ∧ k ≤ many ∧ I.Is wr w.heap.size (w.heap.size + 1) w.heap.size most k (old most k) ∧ Below w.heap.size w wr) (fun i _ => many - (intOf i).toNat)
  case atStart => exact ⟨0, rfl, Nat.zero_le _, I1.out, b1⟩
  case round =>
    obtain ⟨k, rfl, hk, hi, hb⟩ := hrel
    rename World => wr
    by_cases hlt : k < many
    · have w8 : IntKind.u8.wrap (k : Int) = (k : Int) := by rw [IntKind.wrap_u8']; omega
      have hcv := conv_at k (by omega) (wr.alloc (.cells #[.int .u8 (k : Int)] 5)) wr.heap.size (heap_alloc_new wr _)
      have hbA : Below wr.heap.size wr (wr.alloc (.cells #[.int .u8 (k : Int)] 5)) := (Below.refl _ _).alloc (Nat.le_refl _) _
      have P := I.put_any (hi.below hbA) (k := key k) (by unfold maxLen; show 1 ≤ _; omega) (by omega) h1 (by omega) (by rw [old_len]; omega) (k : Int)
      rw [put_old h1 (by omega)] at P
      have Q := Lib.hid P
      have hkI : (k : Int) < (many : Int) := by omega
      clear P hi
      go_wp2_with (go_at_call 9; ((with_reducible refine (Q.out).mono ?_); rintro e w2 ⟨rfl, i2, b2, _⟩))
      go_roundw
      case rel => exact ⟨k + 1, by go_num, by omega, i2, (hb.trans (hbA.mono hb.size)).trans b2⟩
      case measure => simp [intOf]; omega
    · obtain rfl : k = many := by omega
      have K := Lib.hid (I.keys_any hi (by rw [old_len]; omega))
      clear hi
      go_wp2_with (fail)
      refine (K.out).mono ?_
      rintro e w2 ⟨v, rfl, hrow, b2⟩
      obtain ⟨n, en⟩ : ∃ n, n = min most k := ⟨_, rfl⟩
      rw [old_len, ← en] at hrow
      obtain ⟨A, cap, rfl⟩ := own_slice hrow
      have hrow' : w2.ownsRow wr.heap.size 9 1 (.slice A n cap) n (((old most k).map (·.k)).map Value.string) := by rw [List.map_map]; exact hrow
      obtain ⟨hnl, hS, hA⟩ := Strs.of_own hrow'
      have rmin : min (most : Int) (k : Int) = (n : Int) := by omega
      have hnk : n ≤ k := by omega
      have HN := Lib.hid en
      have HR := Lib.hid hrow
      have HS := Lib.hid hS
      have HL := Lib.hid hnl
      clear en hrow hrow' hS hnl
      go_wp2_with (fail)
      clear rmin
      go_loopw [9] (fun i wx => ∃ j : Nat, i = .int .i64 j ∧ j ≤ n ∧ Below w2.heap.size w2 wx) (fun i _ => n - (intOf i).toNat)
      case atStart => exact ⟨0, rfl, Nat.zero_le _, Below.refl _ _⟩
      case round =>
        obtain ⟨j, rfl, hj, hbx⟩ := hrel
        rename World => wx
        by_cases hjn : j < n
        · have hs := HS.out.keep hbx hA
          obtain ⟨ad, rfl, hc⟩ := hs (by rw [← HL.out]; omega)
          have hc' := hc j (by rw [← HL.out]; omega)
          have hkey : ((old most k).map (·.k))[j]'(by rw [← HL.out]; omega) = key (k - n + j) := by
            have h1 := old_get (most := most) (k := k) (j := j) (by rw [← HN.out]; exact hjn)
            rw [← HN.out] at h1
            rw [List.getElem_map]
            obtain ⟨h2, h3⟩ := List.getElem?_eq_some_iff.1 h1
            rw [h3]; rfl
          rw [hkey] at hc'
          have hjI : (j : Int) < (n : Int) := by omega
          have hj0 : (0 : Int) ≤ (j : Int) := by omega
          have hcv := conv_at (k - n + j) (by omega) (wx.alloc (.cells #[.int .u8 ((k - n + j : Nat) : Int)] 5)).drew wx.heap.size (heap_alloc_new wx _)
          have ew1 : IntKind.i64.wrap ((k : Int) - (n : Int)) = (k : Int) - (n : Int) := IntWalk.i64_in _ (by omega)
          have ew2 : (k : Int) - (n : Int) + (j : Int) = ((k - n + j : Nat) : Int) := by omega
          have ew3 : IntKind.u8.wrap ((k - n + j : Nat) : Int) = ((k - n + j : Nat) : Int) := by rw [IntKind.wrap_u8']; omega
          obtain ⟨z, ez⟩ : ∃ z, z = k - n + j := ⟨_, rfl⟩
          rw [← ez] at hc' hcv ew2 ew3
          have hz : z < 256 := by omega
          clear ez hkey hc hs
          have ew4 : IntKind.i64.wrap (z : Int) = (z : Int) := IntWalk.i64_in _ (by omega)
          have n1 := World.new_ne wx _ hc'
          have hc2 : (wx.alloc (.cells #[.int .u8 (z : Int)] 5)).cell? (ad.add j) = some (.string (key z)) := by
            have hlt : (ad.add j).block < wx.heap.size := by
              rcases Nat.lt_or_ge (ad.add j).block wx.heap.size with h | h
              · exact h
              · have : wx.heap[(ad.add j).block]? = none := Array.getElem?_eq_none h
                simp [World.cell?, this] at hc'
            exact (World.cell?_alloc_lt wx _ _ hlt).trans hc'
          have hbN : Below w2.heap.size w2 ((wx.alloc (.cells #[.int .u8 (z : Int)] 5)).drew) := (hbx.alloc hbx.size _).drew
          clear hz
          go_wp2_with (fail)
          go_region_with (fail)
          all_goals
            go_wp2_with (fail)
            go_roundw
            case rel => exact ⟨j + 1, by go_num, by omega, by first | exact hbN | exact hbx.drew.alloc hbx.size _ | exact (hbx.alloc hbx.size _)⟩
            case measure => simp [intOf]; omega
        · obtain rfl : j = n := by omega
          have AW := Lib.hid (awake_low ((hb.trans (b2.mono hb.size)).trans (hbx.mono (hb.trans (b2.mono hb.size)).size)))
          go_wp2_with (go_at_call 7; ((with_reducible refine (AW.out).mono ?_); rintro e w' ⟨rfl, hbb⟩))
          go_ret
          exact ⟨rfl, hbb⟩
theorem old_law (most many : Int) (w : World) : Calls Try.prog 3 #[.int .i64 most, .int .i64 many] w fun e w' => e = .returned (.bool true) ∧ Below w.heap.size w w' := by
  by_cases h : most < 1 ∨ 50 < most ∨ many < 0 ∨ 200 < many
  · exact old_bad most many w h
  · obtain ⟨a, rfl⟩ := Int.eq_ofNat_of_zero_le (a := most) (by omega)
    obtain ⟨b, rfl⟩ := Int.eq_ofNat_of_zero_le (a := many) (by omega)
    exact old_good a b w (by omega) (by omega) (by omega)
end Go.Proofs.Ytcifjhhofefpjaa.Ca
