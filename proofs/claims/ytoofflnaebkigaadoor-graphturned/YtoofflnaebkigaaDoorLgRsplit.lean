/- The contract of the reference's split. -/
import Derived.Test.YtoofflnaebkigaaDoorLgPath
import Derived.Test.YtoofflnaebkigaaDoorLgCells
namespace Go.Proofs.YtoofflnaebkigaaDoor.Lg
open Go.RowKit
set_option linter.unusedVariables false
set_option maxRecDepth 100000
/-- what the loop holds: pieces laid, the place of the piece that is being read, the place of the next byte -/
def SInv (s : ByteArray) (c : UInt8) (done : List ByteArray) (a k : Nat) : Prop :=
  a ≤ k ∧ k ≤ s.size ∧ done.length ≤ a ∧ splitB c (tl s) = done.map tl ++ splitB c ((tl s).drop a) ∧ c ∉ ((tl s).drop a).take (k - a)
theorem SInv.zero (s : ByteArray) (c : UInt8) : SInv s c [] 0 0 := ⟨by omega, by omega, by simp, by simp, by simp⟩
theorem SInv.plain {s : ByteArray} {c : UInt8} {done : List ByteArray} {a k : Nat} (h : SInv s c done a k) (hk : k < s.size) (hc : s[k]'hk ≠ c) : SInv s c done a (k + 1) := by
  obtain ⟨h1, h2, h3, h4, h5⟩ := h
  refine ⟨by omega, by omega, h3, h4, fun hm => ?_⟩
  have e : k + 1 - a = (k - a) + 1 := by omega
  have hl : ((tl s).drop a)[k - a]? = some (s[k]'hk) := by
    rw [List.getElem?_drop, show a + (k - a) = k by omega]; exact tl_get hk
  rw [e, List.take_add_one, hl] at hm
  rcases List.mem_append.1 hm with hm | hm
  · exact h5 hm
  · have hm : c = s[k]'hk := by simpa using hm
    exact hc hm.symm
theorem SInv.cut {s : ByteArray} {c : UInt8} {done : List ByteArray} {a k : Nat} (h : SInv s c done a k) (hk : k < s.size) (hc : s[k]'hk = c) : SInv s c (done ++ [s.extract a k]) (k + 1) (k + 1) := by
  obtain ⟨h1, h2, h3, h4, h5⟩ := h
  refine ⟨by omega, by omega, by simp; omega, ?_, by simp⟩
  have e := drop_at h1 hk
  rw [hc] at e
  rw [h4]
  conv => lhs; rw [e, split_app h5]
  rw [List.map_append, List.map_cons, List.map_nil, extract_tl, List.append_assoc]
  rfl
theorem SInv.last {s : ByteArray} {c : UInt8} {done : List ByteArray} {a : Nat} (h : SInv s c done a s.size) : pieces c s = done ++ [s.extract a s.size] := by
  obtain ⟨h1, h2, h3, h4, h5⟩ := h
  have e : ((tl s).drop a).take (s.size - a) = (tl s).drop a := List.take_of_length_le (by rw [List.length_drop, tl_len]; exact Nat.le_refl _)
  rw [e] at h5
  rw [pieces, h4, split_free h5, List.map_append, map_bs_tl, List.map_cons, List.map_nil]
  congr 2
  rw [← bs_tl (s.extract a s.size), extract_tl, e]
set_option maxHeartbeats 1000000 in
theorem rsplit_any (s : ByteArray) (c : UInt8) (w : World) (hs : s.size ≤ 1000000) :
    Calls Tryd.prog 41 #[.string s, .int .u8 c.toNat] w fun e w' => ∃ v, e = .returned v ∧ w'.ownsRow w.heap.size 9 1 v (pieces c s).length ((pieces c s).map Value.string) ∧ Below w.heap.size w w' := by
  obtain ⟨i0, hi, hz0, hz1, hz2⟩ := info_parts infoS
  go_enter Tryd.func41, Tryd.ntmps41
  go_wp2_with (fail)
  go_loopw [5, 6, 7] (fun v x i wr => ∃ (done : List ByteArray) (a k : Nat), x = .int .i64 a ∧ i = .int .i64 k ∧ SInv s c done a k ∧ wr.ownsRow w.heap.size 9 1 v done.length (done.map Value.string) ∧ Below w.heap.size w wr) (fun _ _ i _ => s.size - (intOf i).toNat)
  case atStart => exact ⟨[], 0, 0, rfl, rfl, SInv.zero s c, World.ownsRow_nil _ _ _ _, Below.refl _ _⟩
  case round =>
    obtain ⟨done, a, k, rfl, rfl, hi0, hown, hb⟩ := hrel
    rename World => wr
    have h1 := hi0.1
    have h2 := hi0.2.1
    have h3 := hi0.2.2.1
    have HI := Lib.hid hi0
    clear hi0
    have a0 : (0 : Int) ≤ (a : Int) := by omega
    have aI : (a : Int) ≤ (k : Int) := by omega
    have kI : (k : Int) ≤ (s.size : Int) := by omega
    by_cases hlt : k < s.size
    · have hkI : (k : Int) < (s.size : Int) := by omega
      by_cases hc : s[k]'hlt = c
      · have F := Lib.hid (HI.out.cut hlt hc)
        have g : (((s[k]'hlt).toNat : Int) == (c.toNat : Int)) = true := by rw [hc]; simp
        clear hc
        go_wp2_with (at_builtin; refine wpList_append_any _ rfl (.tmp 19) (.tmp 24) _ rfl w.heap.size 9 i0 _ 1 16 Tryd.underlying28 hi hz0 hz1 hz2 rfl (by omega) _ done.length _ rfl (hown.alloc _) _ (some ⟨wr.heap.size, 0, none⟩) 1 1 [.string (s.extract a k)] rfl (reads_one (heap_alloc_new wr _)) (mem1 rfl) (by simp only [maxLen]; omega) (by omega) (by have := hb.size; simp; omega) ?_; intro v2 w2 hown2 hg2 hat2)
        go_roundw
        case rel =>
          refine ⟨done ++ [s.extract a k], k + 1, k + 1, by go_num, by go_num, F.out, ?_, ?_⟩
          · rw [List.map_append, List.length_append]; exact hown2
          · exact (hb.alloc hb.size _).grown hg2 (by have := hb.size; simp; omega) (fun j hj => (hown.lt j hj).1)
        case measure => simp [intOf]; omega
      · have F := Lib.hid (HI.out.plain hlt hc)
        have g : (((s[k]'hlt).toNat : Int) == (c.toNat : Int)) = false := by
          rw [beq_eq_false_iff_ne]
          intro e
          exact hc (UInt8.toNat_inj.1 (by omega))
        clear hc
        go_wp2_with (fail)
        go_roundw
        case rel => exact ⟨done, a, k + 1, rfl, by go_num, F.out, hown, hb⟩
        case measure => simp [intOf]; omega
    · obtain rfl : k = s.size := by omega
      have F := Lib.hid HI.out.last
      go_wp2_with (at_builtin; refine wpList_append_any _ rfl (.tmp 28) (.tmp 32) _ rfl w.heap.size 9 i0 _ 1 16 Tryd.underlying28 hi hz0 hz1 hz2 rfl (by omega) _ done.length _ rfl (hown.alloc _) _ (some ⟨wr.heap.size, 0, none⟩) 1 1 [.string (s.extract a s.size)] rfl (reads_one (heap_alloc_new wr _)) (mem1 rfl) (by simp only [maxLen]; omega) (by omega) (by have := hb.size; simp; omega) ?_; intro v2 w2 hown2 hg2 hat2)
      go_ret
      refine ⟨_, rfl, ?_, (hb.alloc hb.size _).grown hg2 (by have := hb.size; simp; omega) (fun j hj => (hown.lt j hj).1)⟩
      rw [F.out, List.map_append, List.length_append]; exact hown2
end Go.Proofs.YtoofflnaebkigaaDoor.Lg
