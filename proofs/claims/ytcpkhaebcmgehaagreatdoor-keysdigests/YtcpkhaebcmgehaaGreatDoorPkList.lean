/- The contracts of pack.List and of the reference's List. -/
import Derived.Test.YtcpkhaebcmgehaaGreatDoorPkText
import Derived.Test.YtcpkhaebcmgehaaGreatDoorRowMore
import Derived.Laws.OwnMore
import Derived.Deep.AppendLies
import Derived.Deep.Draws
namespace Go.Proofs.YtcpkhaebcmgehaaGreatDoor
open Go.RowKit
set_option linter.unusedVariables false
set_option maxRecDepth 100000

theorem own_later {w w' : World} {B : Nat} {e : TypeId} {size : Nat} {v : Value} {n : Nat} {xs : List Value} (h : w.ownsRow B e size v n xs) (k : Below w.heap.size w w') : w'.ownsRow B e size v n xs := by
  refine ⟨h.1, ?_⟩
  rcases h.2 with h0 | ⟨g, cap, cur, hv, hg, hc, h1, h2, h3, h4⟩
  · exact .inl h0
  · exact .inr ⟨g, cap, cur, hv, hg, heap_below k (lt_heap hc) hc, h1, h2, h3, h4⟩
theorem SbAt.later {w w' : World} {B b : Nat} {l : List UInt8} (h : SbAt B b l w) (k : Below w.heap.size w w') : SbAt B b l w' := by
  rcases h with ⟨hB, v, hb, ho, hn⟩ | ⟨hB, v, hb, ho, hn⟩
  · exact .inl ⟨hB, v, heap_below k (lt_heap hb) hb, own_later ho k, hn⟩
  · exact .inr ⟨hB, v, heap_below k (lt_heap hb) hb, own_later ho k, hn⟩
section
variable {w w' : World} {B B' size n : Nat} {A : Option Addr} {xs : List Value}
theorem Reads.cell (h : Reads w B size A n xs) {j : Nat} (hj : j < n * size) : ∃ ad u, A = some ad ∧ ad.block < B ∧ xs[j]? = some u ∧ w.cell? (ad.add j) = some u := by
  have hn : 0 < n := by
    rcases Nat.eq_zero_or_pos n with h0 | h0
    · subst h0; simp at hj
    · exact h0
  obtain ⟨ad, e, hb, hc⟩ := h.2 hn
  have hl : j < xs.length := by rw [h.1]; exact hj
  exact ⟨ad, xs[j], e, hb, List.getElem?_eq_getElem hl, hc j _ (List.getElem?_eq_getElem hl)⟩
end
/-- texts as a slice reads them -/
def Strs (w : World) (B : Nat) (A : Option Addr) (l : List ByteArray) : Prop := Reads w B 1 A l.length (l.map Value.string)
section
variable {w w' : World} {B B' : Nat} {A : Option Addr} {l : List ByteArray}
theorem Strs.below (h : Strs w B A l) (hb : Below B w w') : Strs w' B A l := Reads.below h hb
theorem Strs.at_ (h : Strs w B A l) {k : Nat} (hk : k < l.length) : ∃ ad, A = some ad ∧ ad.block < B ∧ w.cell? (ad.add k) = some (.string l[k]) := by
  obtain ⟨ad, u, h1, h2, h3, h4⟩ := Reads.cell h (j := k) (by omega)
  refine ⟨ad, h1, h2, ?_⟩
  rw [h4]
  simp [hk] at h3
  rw [← h3]
end
abbrev tl (s : ByteArray) : List UInt8 := s.data.toList
theorem text_len (s : List UInt8) : s.length ≤ (Pk.text s).length := by simp [Pk.text]; omega
theorem flat_take_succ (l : List ByteArray) (k : Nat) (h : k < l.length) : ((l.take (k + 1)).map tl).flatMap Pk.text = ((l.take k).map tl).flatMap Pk.text ++ Pk.text (tl l[k]) := by
  rw [List.take_succ_eq_append_getElem h, List.map_append, List.flatMap_append]; simp
theorem flat_take_le (l : List ByteArray) (k : Nat) (h : k < l.length) : (((l.take k).map tl).flatMap Pk.text).length + (Pk.text (tl l[k])).length ≤ ((l.map tl).flatMap Pk.text).length := by
  have : l = l.take (k + 1) ++ l.drop (k + 1) := (List.take_append_drop _ _).symm
  conv => rhs; rw [this, List.map_append, List.flatMap_append, List.length_append, flat_take_succ l k h, List.length_append]
  omega
theorem bstring_any (B b : Nat) (l : List UInt8) (w : World) (h : SbAt B b l w) (hBw : B ≤ w.heap.size) :
    Calls Tryz.prog 77 #[.pointer (some ⟨b, 0, none⟩)] w fun e w' => e = .returned (.string (bs l)) ∧ Below B w w' := Tryz.Builder_String_any B b l w h hBw
set_option maxHeartbeats 1000000 in
/-- pack.List -/
theorem plist_any (A : Option Addr) (l : List ByteArray) (c : Nat) (w : World) (ht : Tab w) (hr : Strs w w.heap.size A l) (hl : ((l.map tl).flatMap Pk.text).length ≤ 500000000) :
    Calls Tryz.prog 36 #[.slice A l.length c] w fun e w' => e = .returned (.string (bs (Pk.list (l.map tl)))) ∧ Below w.heap.size w w' := by
  have hn : l.length ≤ 500000000 := by
    have : ∀ l : List ByteArray, l.length ≤ ((l.map tl).flatMap Pk.text).length := by
      intro l
      induction l with
      | nil => simp
      | cons x l ih => simp [Pk.text] at ih ⊢; omega
    exact Nat.le_trans (this l) hl
  go_enter Tryz.func36, Tryz.ntmps36
  go_wp2_with (fail)
  go_loopw [8] (fun i wx => ∃ k : Nat, i = .int .i64 k ∧ k ≤ l.length ∧ SbAt w.heap.size w.heap.size (((l.take k).map tl).flatMap Pk.text) wx ∧ Below w.heap.size w wx) (fun i _ => l.length - (intOf i).toNat)
  case atStart => exact ⟨0, rfl, by omega, Lib.fresh_isBuilder _ _ w, (Below.refl _ _).alloc (Nat.le_refl _) _⟩
  case round =>
    obtain ⟨k, rfl, hk, hsb, hbx⟩ := hrel
    rename World => wx
    by_cases hlt : k < l.length
    · have hrx := hr.below hbx
      obtain ⟨ad, rfl, had, hc⟩ := hrx.at_ hlt
      have FT := Lib.hid (flat_take_succ l k hlt)
      have FL := flat_take_le l k hlt
      have TX := text_len (tl l[k])
      have hsz : l[k].size = (tl l[k]).length := Lib.size_eq _
      have TXT := Lib.hid (text_any l[k] (by omega) wx (ht.on hbx))
      generalize l[k] = s at *
      generalize ((l.take k).map tl).flatMap Pk.text = acc at *
      have hz : (bs (Pk.text (tl s))).size = (Pk.text (tl s)).length := bs_size _
      have hbl : acc.length + (bs (Pk.text (tl s))).size ≤ 140737488355328 := by omega
      have HZ := Lib.hid hz
      have HSZ := Lib.hid hsz
      clear hz hsz
      have hkI : (k : Int) < (l.length : Int) := by omega
      go_wp2_with (go_at_call 34; ((with_reducible refine (TXT.out).mono ?_); rintro e w1 ⟨rfl, hb1⟩))
      have hsb1 := hsb.later hb1
      have hbx1 := hbx.trans (hb1.mono hbx.size)
      clear hsb
      go_wp2_with (go_at_call 76; ((with_reducible refine (WriteString_any w.heap.size w.heap.size acc _ _ hsb1 hbl hbx1.size).mono ?_); rintro e w2 ⟨rfl, hsb2, hb2⟩))
      go_roundw
      case rel => exact ⟨k + 1, by go_num, by omega, by rw [FT.out]; exact hsb2, hbx1.trans hb2⟩
      case measure => simp [intOf]; omega
    · obtain rfl : k = l.length := by omega
      rw [List.take_length] at hsb
      have LD : Hid (Pk.text ((l.map tl).flatMap Pk.text) = Pk.list (l.map tl)) := Lib.hid rfl
      generalize (l.map tl).flatMap Pk.text = acc at *
      have hz : (bs acc).size = acc.length := bs_size _
      have TXT : Hid (∀ W, Tab W → Calls Tryz.prog 34 #[.string (bs acc)] W fun e w' => e = .returned (.string (bs (Pk.text acc))) ∧ Below W.heap.size W w') := Lib.hid (fun W hW => text_any (bs acc) (by omega) W hW)
      clear hz
      have hB := hbx.size
      go_wp2_with (go_at_call 77; ((with_reducible refine (bstring_any w.heap.size w.heap.size acc _ hsb hB).mono ?_); rintro e w1 ⟨rfl, hb1⟩))
      have hbx1 := hbx.trans hb1
      have ht1 := ht.on hbx1
      go_wp2_with (go_at_call 34; ((with_reducible refine (TXT.out _ ht1).mono ?_); rintro e w2 ⟨rfl, hb2⟩))
      go_ret
      exact ⟨ret_str (by rw [LD.out]), hbx1.trans (hb2.mono hbx1.size)⟩

set_option maxHeartbeats 1000000 in
/-- the reference's List -/
theorem reflist_any (A : Option Addr) (l : List ByteArray) (c : Nat) (w : World) (hr : Strs w w.heap.size A l) (hl : ((l.map tl).flatMap Pk.text).length ≤ 500000000) :
    Calls Tryz.prog 41 #[.slice A l.length c] w fun e w' => e = .returned (.string (bs (Pk.list (l.map tl)))) ∧ Below w.heap.size w w' := by
  have hn : l.length ≤ 500000000 := by
    have : ∀ l : List ByteArray, l.length ≤ ((l.map tl).flatMap Pk.text).length := by
      intro l
      induction l with
      | nil => simp
      | cons x l ih => simp [Pk.text] at ih ⊢; omega
    exact Nat.le_trans (this l) hl
  go_enter Tryz.func41, Tryz.ntmps41
  go_wp2_with (fail)
  go_loopw [3, 4] (fun v i wx => ∃ k : Nat, i = .int .i64 k ∧ k ≤ l.length ∧ wx.ownsRow w.heap.size 5 1 v (((l.take k).map tl).flatMap Pk.text).length (Lib.byteCells (((l.take k).map tl).flatMap Pk.text)) ∧ Below w.heap.size w wx) (fun _ i _ => l.length - (intOf i).toNat)
  case atStart => exact ⟨0, rfl, by omega, by simpa [Lib.byteCells] using World.ownsRow_nil _ _ _ _, Below.refl _ _⟩
  case round =>
    obtain ⟨k, rfl, hk, hown, hbx⟩ := hrel
    rename World => wx
    by_cases hlt : k < l.length
    · have hrx := hr.below hbx
      obtain ⟨ad, rfl, had, hc⟩ := hrx.at_ hlt
      have FT := Lib.hid (flat_take_succ l k hlt)
      have FL := flat_take_le l k hlt
      have TX := text_len (tl l[k])
      have hsz : l[k].size = (tl l[k]).length := Lib.size_eq _
      have TXT := Lib.hid (reftext_any l[k] (by omega) wx)
      generalize l[k] = s at *
      generalize ((l.take k).map tl).flatMap Pk.text = acc at *
      obtain ⟨S, eS⟩ : ∃ S, S = bs (Pk.text (tl s)) := ⟨_, rfl⟩
      have hz : S.size = (Pk.text (tl s)).length := by rw [eS]; exact bs_size _
      have hS : Hid (tl S = Pk.text (tl s)) := Lib.hid (by rw [eS]; rfl)
      rw [← eS] at TXT
      have hbl : acc.length + S.size ≤ 140737488355328 := by omega
      have HZ := Lib.hid hz
      clear hz hsz eS
      have hkI : (k : Int) < (l.length : Int) := by omega
      go_wp2_with (first | (go_at_call 39; ((with_reducible refine (TXT.out).mono ?_); rintro e w1 ⟨rfl, hb1⟩; have hown1 := own_later hown hb1; have hbx1 := hbx.trans (hb1.mono hbx.size); have hB := hbx1.size; clear hown)) | (at_builtin; refine append_text rfl (.tmp 11) (.tmp 16) 80 9 rfl w.heap.size 5 Tryz.underlying80 Tryz.underlying9 (by kernel_rfl) _ acc.length acc rfl hown1 S rfl hbl hB hbx1 ?_; intro v' w2 hown2 hb2 _))
      go_roundw
      case rel =>
        refine ⟨k + 1, by go_num, by omega, ?_, hb2⟩
        rw [FT.out, List.length_append, ← hS.out]
        rw [show (tl S).length = S.size from (Lib.size_eq _).symm]
        exact hown2
      case measure => simp [intOf]; omega
    · obtain rfl : k = l.length := by omega
      rw [List.take_length] at hown
      have LD : Hid (Pk.text ((l.map tl).flatMap Pk.text) = Pk.list (l.map tl)) := Lib.hid rfl
      generalize (l.map tl).flatMap Pk.text = acc at *
      have hz : (bs acc).size = acc.length := bs_size _
      have hcv : (convert 80 9 _).run Tryz.prog _ = .ok (.string (bs acc)) _ := conv_own (P := Tryz.prog) Tryz.underlying80 Tryz.underlying5 Tryz.underlying9 hown
      have TXT : Hid (∀ W, Calls Tryz.prog 39 #[.string (bs acc)] W fun e w' => e = .returned (.string (bs (Pk.text acc))) ∧ Below W.heap.size W w') := Lib.hid (fun W => reftext_any (bs acc) (by omega) W)
      clear hz hown
      go_wp2_with (go_at_call 39; ((with_reducible refine (TXT.out _).mono ?_); rintro e w2 ⟨rfl, hb2⟩))
      go_ret
      exact ⟨ret_str (by rw [LD.out]), hbx.trans (hb2.mono hbx.size)⟩
end Go.Proofs.YtcpkhaebcmgehaaGreatDoor
