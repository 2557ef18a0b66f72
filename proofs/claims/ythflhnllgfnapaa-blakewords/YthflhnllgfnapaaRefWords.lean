/- The contract of the reference's Words, and the walk of BlakeWords. -/
import Derived.Test.YthflhnllgfnapaaBlkLaw
import Derived.Test.YthflhnllgfnapaaKm
namespace Go.Proofs.Ythflhnllgfnapaa
open Go.RowKit Blk
set_option linter.unusedVariables false
set_option maxHeartbeats 1000000 in
theorem refwords_any (s : ByteArray) (hs : s.size ≤ 1000000) (w : World) :
    Calls Try.prog 11 #[.string s] w fun e w' => e = .returned (.string ⟨(wordsOf s.data.toList).toArray⟩) ∧ Below w.heap.size w w' := by
  have hlen : Hid (s.data.toList.length = s.size) := Lib.hid (Lib.size_eq s).symm
  go_enter Try.func11, Try.ntmps11
  go_wp2_with fail
  go_loopw [3, 4] (fun v i wx => ∃ k : Nat, k ≤ s.size ∧ i = .int .i64 k ∧ wx.ownsRow w.heap.size 5 1 v (2 * k) (Lib.byteCells (wordsOf (s.data.toList.take k))) ∧ Below w.heap.size w wx) (fun _ i _ => s.size - (intOf i).toNat)
  case atStart => exact ⟨0, by omega, rfl, by simpa [Lib.byteCells, wordsOf] using World.ownsRow_nil _ _ _ _, Below.refl _ _⟩
  case round =>
    obtain ⟨k, hk, rfl, hown, hbx⟩ := hrel
    rename World => wx
    by_cases hlt : k < s.size
    · have WT := Lib.hid (wordsOf_take s.data.toList k (by rw [hlen.out]; exact hlt))
      have hc := UInt8.toNat_lt s[k]
      obtain ⟨c, ec⟩ : ∃ c : Nat, c = s[k].toNat := ⟨_, rfl⟩
      obtain ⟨a, ea⟩ : ∃ a : UInt8, a = hiW s[k] := ⟨_, rfl⟩
      obtain ⟨b, eb⟩ : ∃ a : UInt8, a = loW s[k] := ⟨_, rfl⟩
      have h1 : a.toNat = 97 + c / 16 := by rw [ea, hiW_nat, ec]
      have h2 : b.toNat = 97 + c % 16 := by rw [eb, loW_nat, ec]
      have z0 : (s[k].toNat : Int) = (c : Int) := by rw [ec]
      have ik : (k : Int) < (s.size : Int) := by omega
      obtain ⟨d, ed⟩ : ∃ d, d = c / 16 := ⟨_, rfl⟩
      obtain ⟨m, em⟩ : ∃ m, m = c % 16 := ⟨_, rfl⟩
      have r1 : IntKind.u8.wrap ((c : Int).tdiv 16) = (d : Int) := by rw [Int.tdiv_eq_ediv_of_nonneg (by omega), IntKind.wrap_u8']; omega
      have r1' : (c : Int).tdiv 16 = (d : Int) := by rw [Int.tdiv_eq_ediv_of_nonneg (by omega)]; omega
      have r2 : IntKind.u8.wrap (97 + (d : Int)) = (a.toNat : Int) := by rw [IntKind.wrap_u8']; omega
      have r3 : IntKind.u8.wrap ((c : Int).tmod 16) = (m : Int) := by rw [Int.tmod_eq_emod_of_nonneg (by omega), IntKind.wrap_u8']; omega
      have r3' : (c : Int).tmod 16 = (m : Int) := by rw [Int.tmod_eq_emod_of_nonneg (by omega)]; omega
      have r4 : IntKind.u8.wrap (97 + (m : Int)) = (b.toNat : Int) := by rw [IntKind.wrap_u8']; omega
      have HC : Hid ((#[.int .u8 ((97 + (d : Int) % 256) % 256), .int .u8 (b.toNat : Int)] : Array Value) = (Lib.byteCells [a, b]).toArray) := Lib.hid (by
        rw [show (97 + (d : Int) % 256) % 256 = (a.toNat : Int) by omega]; rfl)
      have EA := Lib.hid ea
      have EB := Lib.hid eb
      have hB := hbx.size
      have l8 : 2 * k + 2 ≤ 140737488355328 := by omega
      clear ec ea eb ed em h1 h2 hc
      go_wp2_with fail
      refine wp_region_mix (C := fun w' => ∃ n, w' = wx.drewN n) 11 (by kernel_rfl) (by kernel_rfl) (fun _ _ d _ _ h => by cases d <;> exact h) ⟨1, rfl⟩ ?_
      simp only [List.take_succ_cons, List.take_zero, List.drop_succ_cons, List.drop_zero]
      repeat (quiet_step (fail))
      refine wpQuiet_nil ?_
      rintro _ ⟨n1, rfl⟩
      go_wp2_with (at_builtin; refine append_bytes rfl (.tmp 11) (.tmp 22) 26 rfl w.heap.size 5 Try.underlying26 (by kernel_rfl) _ (2 * k) _ rfl (ownsDN hown n1) _ [a, b] HC.out 2 rfl rfl l8 hB (belowDN hbx n1) ?_; intro v' w1 hown1 hb1 _)
      go_roundw
      case rel =>
        refine ⟨k + 1, by omega, by go_num, ?_, hb1⟩
        have := WT.out
        simp only [Array.getElem_toList] at this
        rw [this, List.append_assoc, show 2 * (k + 1) = 2 * k + 2 by omega]
        rw [EA.out, EB.out] at hown1
        exact hown1
      case measure => simp [intOf]; omega
    · obtain rfl : k = s.size := by omega
      rw [List.take_of_length_le (by rw [hlen.out]; omega)] at hown
      have hcv := conv_own (P := Try.prog) (src := 26) (dst := 9) Try.underlying26 Try.underlying5 Try.underlying9 hown
      clear hown
      go_wp2_with (fail)
      go_ret
      exact ⟨rfl, hbx⟩

theorem bwords_walk (a : ByteArray) (ha : a.size ≤ maxLen) (w : World) :
    Calls Try.prog 4 #[.string a] w fun e w' => e = .returned (.bool true) ∧ Below w.heap.size w w' := by
  unfold maxLen at ha
  by_cases h1 : 100000 < a.size
  · have i1 : (100000 : Int) < (a.size : Int) := by omega
    go_enter Try.func4, Try.ntmps4
    go_wp2_with (go_at_call 9; ((with_reducible refine (awake_any _).mono ?_); rintro e w1 ⟨rfl, hb1⟩))
    go_ret
    exact ⟨rfl, hb1⟩
  · have wx := words_any a (by omega)
    have rx := refwords_any a (by omega)
    generalize (⟨(wordsOf a.data.toList).toArray⟩ : ByteArray) = X at *
    have WX := Lib.hid wx
    have RX := Lib.hid rx
    clear wx rx
    have i1 : ¬ (100000 : Int) < (a.size : Int) := by omega
    go_enter Try.func4, Try.ntmps4
    go_wp2_with (first | (go_at_call 10; ((with_reducible refine (WX.out _).mono ?_); rintro e w1 ⟨rfl, hb1⟩)) | (go_at_call 11; ((with_reducible refine (RX.out _).mono ?_); rintro e w2 ⟨rfl, hb2⟩)) | (go_at_call 9; ((with_reducible refine (awake_any _).mono ?_); rintro e w4 ⟨rfl, hb4⟩)))
    go_ret
    have z1 := hb1.size
    have z2 := hb2.size
    exact ⟨rfl, hb1.trans ((hb2.mono (by omega)).trans (hb4.mono (by omega)))⟩
end Go.Proofs.Ythflhnllgfnapaa
