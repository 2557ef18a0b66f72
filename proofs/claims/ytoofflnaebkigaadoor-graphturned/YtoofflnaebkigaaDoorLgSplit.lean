/- strings.Split at one byte in plain words, and how its pieces lie; the words of an environment. -/
import Derived.Test.YtoofflnaebkigaaDoorLgText
import Derived.Lib.SplitLaws
import Derived.Shelf.Strings.PiecesUse
namespace Go.Proofs.YtoofflnaebkigaaDoor.Lg
open Go.RowKit
set_option linter.unusedVariables false
set_option maxRecDepth 100000
theorem split_one (c : UInt8) : ∀ s : List UInt8, Lib.splitK [c] 0 (Lib.count s [c]) s = splitB c s
  | [] => by rw [Lib.count_one]; rfl
  | b :: r => by
    have ih := split_one c r
    by_cases h : b = c
    · subst h
      have hix : Lib.index (b :: r) [b] = 0 := by rw [Lib.index]; simp [List.isPrefixOf]
      rw [Lib.count_cons_eq, Nat.add_comm 1, Lib.splitK, hix, splitB, if_pos rfl, ← ih]
      simp
    · have hp : ([c] : List UInt8).isPrefixOf (b :: r) = false := by simp [List.isPrefixOf, Ne.symm h]
      have hix : Lib.index (b :: r) [c] = if Lib.index r [c] == -1 then -1 else Lib.index r [c] + 1 := by rw [Lib.index, hp]; simp
      rw [Lib.count_cons_ne b c r h, splitB, if_neg h, ← ih]
      by_cases hm : Lib.index r [c] = -1
      · rw [Lib.count_miss hm]; rfl
      · have hge := Lib.index_ge r [c]
        obtain ⟨j, hj⟩ : ∃ j : Nat, Lib.index r [c] = j := ⟨(Lib.index r [c]).toNat, by omega⟩
        have hc := Lib.count_hit (by simp : [c] ≠ ([] : List UInt8)) hj
        rw [hc, Nat.add_comm 1, Lib.splitK, Lib.splitK]
        have hm1 : (Lib.index r [c] == -1) = false := by simp [hm]
        rw [hm1] at hix ⊢
        have hm2 : (Lib.index (b :: r) [c] == -1) = false := by rw [hix]; simp; omega
        rw [hm2]
        simp only [Bool.false_eq_true, if_false] at hix ⊢
        have e1 : (Lib.index (b :: r) [c]).toNat = j + 1 := by rw [hix, hj]; omega
        have e2 : (Lib.index r [c]).toNat = j := by rw [hj]; rfl
        rw [e1, e2]
        simp
/-- the pieces as texts -/
def pieces (c : UInt8) (s : ByteArray) : List ByteArray := (splitB c (tl s)).map bs
theorem map_tl_bs (l : List (List UInt8)) : (l.map bs).map tl = l := by simp [List.map_map, Function.comp_def, tl, bs]
theorem map_bs_tl (l : List ByteArray) : (l.map tl).map bs = l := by
  rw [List.map_map]
  conv => rhs; rw [← List.map_id l]
  rfl
theorem splitB_pieces (c : UInt8) (s : ByteArray) : Lib.splitB ⟨#[c]⟩ 0 (Lib.countB s ⟨#[c]⟩) s = pieces c s := by
  have h := Lib.splitB_data ⟨#[c]⟩ 0 (Lib.countB s ⟨#[c]⟩) s
  have h2 : Lib.countB s ⟨#[c]⟩ = Lib.count (tl s) [c] := rfl
  rw [h2] at h ⊢
  have h3 : (Lib.splitB ⟨#[c]⟩ 0 (Lib.count (tl s) [c]) s).map tl = splitB c (tl s) := by rw [← split_one]; exact h
  rw [pieces, ← h3, map_bs_tl]
theorem pieces_ne (c : UInt8) (s : ByteArray) : pieces c s ≠ [] := by simp [pieces, splitB_ne]
theorem pieces_len (c : UInt8) (s : ByteArray) : (pieces c s).length ≤ s.size + 1 := by
  have := split_len c (tl s)
  rw [tl_len] at this
  simpa [pieces] using this
theorem pieces_count (c : UInt8) (s : ByteArray) : Lib.countB s ⟨#[c]⟩ + 1 = (pieces c s).length := by
  rw [← splitB_pieces, Lib.splitB_all ⟨#[c]⟩ (by show 1 ≤ 1; omega) 0 _ s rfl]
theorem pieces_part (c : UInt8) (s : ByteArray) : ∀ p ∈ pieces c s, p.size ≤ s.size := by
  intro p hp
  obtain ⟨q, hq, rfl⟩ := List.mem_map.1 hp
  have := split_part c (tl s) q hq
  rw [tl_len] at this
  rw [← tl_len, tl_bs]; exact this
theorem Strs.new (w : World) (l : List ByteArray) (t : TypeId) : Strs (w.alloc (.cells (l.map Value.string).toArray t)) (some ⟨w.heap.size, 0, none⟩) l := by
  refine ⟨by simp, fun hn => ⟨_, rfl, by simp, fun j u hu => ?_⟩⟩
  rw [List.getElem?_map] at hu
  obtain ⟨x, hx, rfl⟩ := Option.map_eq_some_iff.1 hu
  have h : (⟨w.heap.size, 0, none⟩ : Addr).add j = ⟨w.heap.size, j, none⟩ := by
    unfold Addr.add; split <;> simp_all
  rw [h]; exact Lib.pieces_cell_at w l t j x hx
/-- strings.Split at one byte -/
theorem split_any (s : ByteArray) (c : UInt8) (m : Int) (w : World) (hs : s.size ≤ 1000000000) (hm : w.cell? ⟨2, 0, none⟩ = some (.int .i64 m)) :
    Calls Tryd.prog 44 #[.string s, .string ⟨#[c]⟩] w fun e w' => e = .returned (.slice (some ⟨w.heap.size, 0, none⟩) (pieces c s).length (pieces c s).length) ∧ w' = w.alloc (.cells ((pieces c s).map Value.string).toArray 9) := by
  refine (Tryd.strings_Split s ⟨#[c]⟩ m w (by omega) hm (by show 1 ≤ 1; omega)).mono ?_
  rintro e w' ⟨h1, h2⟩
  rw [splitB_pieces] at h2
  rw [pieces_count] at h1
  exact ⟨h1, h2⟩
end Go.Proofs.YtoofflnaebkigaaDoor.Lg
