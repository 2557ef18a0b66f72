/- The contract of strings.Builder's WriteString, with what it leaves as it was: every block but the builder's and rows of bytes. -/
import Derived.Test.YtimfljncibbdoaaGreatDoorSw
import Derived.Test.YtimfljncibbdoaaGreatDoorLgDigits
import Derived.Test.YtimfljncibbdoaaGreatDoorShelf
namespace Go.Proofs.YtimfljncibbdoaaGreatDoor.Lg
open Go.RowKit
set_option linter.unusedVariables false
set_option maxRecDepth 100000
theorem copyCheck_keep (B b : Nat) (bs : List Value) (w : World) (h : Lib.IsBuilder 49 5 B b bs w) :
    Calls Tryz.prog 41 #[.pointer (some ⟨b, 0, none⟩)] w fun e w' => e = .returned (.tuple #[]) ∧ (Lib.BuilderAt 49 5 B b (.pointer (some ⟨b, 0, none⟩)) bs w' ∧ Below B w w') ∧ ∀ k, k ≠ b → w'.heap[k]? = w.heap[k]? := by
  rcases h with h | h
  · refine (copyCheck_fresh b w h.cell0 h.shape h.frozen0).mono ?_
    rintro e w' ⟨rfl, rfl⟩
    exact ⟨rfl, ⟨h.used _, (Below.refl B w).setCell (p := ⟨b, 0, none⟩) h.1 _⟩, fun k hk => Below.heap_setCell w ⟨b, 0, none⟩ _ k hk⟩
  · refine (copyCheck_used b w h.cell0).mono ?_
    rintro e w' ⟨rfl, rfl⟩
    exact ⟨rfl, ⟨h, Below.refl B _⟩, fun _ _ => rfl⟩
set_option maxHeartbeats 2000000 in
theorem WriteString_keep (B b : Nat) (l : List UInt8) (S : ByteArray) (w : World) (h : SbAt B b l w) (hlen : l.length + S.size ≤ 140737488355328) (hBw : B ≤ w.heap.size) :
    Calls Tryz.prog 21 #[.pointer (some ⟨b, 0, none⟩), .string S] w fun e w' => e = .returned (.tuple #[.int .i64 S.size, .nilIface]) ∧ SbAt B b (l ++ S.data.toList) w' ∧ Below B w w' ∧
      ∀ k, k < w.heap.size → k ≠ b → (∀ cs fr, w.heap[k]? ≠ some (.cells cs 5 fr)) → w'.heap[k]? = w.heap[k]? := by
  have hS : (S.size : Int) ≤ 140737488355328 := by omega
  have CK := Lib.hid (copyCheck_keep B b _ _ h)
  clear h
  go_enter Tryz.func21, Tryz.ntmps21
  go_upto_region 2 with (go_at_call 41; ((with_reducible refine (CK.out).mono ?_); rintro e w1 ⟨rfl, ⟨h1, hb1⟩, hk1⟩))
  obtain ⟨hB, v, hbk, hown, hne⟩ := h1
  rw [show (Lib.byteCells l).length = l.length by simp [Lib.byteCells]] at hown
  have c0 : w1.cell? ⟨b, 0, none⟩ = some (.pointer (some ⟨b, 0, none⟩)) := by rw [Lib.cell_of_heap hbk]; rfl
  have c1 : w1.cell? ⟨b, 1, none⟩ = some v := by rw [Lib.cell_of_heap hbk]; rfl
  have hs1 : B ≤ w1.heap.size := Nat.le_trans hBw hb1.size
  have hlt : b < w1.heap.size := lt_heap hbk
  have HK := Lib.hid hk1
  clear hk1
  go_wp2_with (at_builtin; refine append_text rfl (.tmp 12) (.tmp 13) 47 9 rfl B 5 Tryz.underlying47 Tryz.underlying9 (by kernel_rfl) v l.length l rfl hown S rfl hlen hs1 hb1 ?_; intro v' w2 hown2 hb2 hoth; have hbk2 := (hoth b hlt (fun e => hne e.symm)).trans hbk; have d1 : w2.cell? ⟨b, 1, none⟩ = some v := (cell_heap hbk2 1).trans rfl; have f1 : w2.frozen? ⟨b, 1, none⟩ = false := frozen_heap hbk2 1; obtain ⟨p, m, c, rfl⟩ := own_form hown2; have HO := Lib.hid hoth; clear hoth)
  go_ret2
  refine ⟨rfl, Or.inr ?_, ?_, fun k hks hkb hku => ?_⟩
  · refine Lib.BuilderAt.put hB hbk2 ?_ (by decide)
    rw [show (Lib.byteCells (l ++ S.data.toList)).length = l.length + S.size by simp [Lib.byteCells]]
    exact hown2
  · exact hb2.setCell (p := ⟨b, 1, none⟩) hB _
  · rw [Below.heap_setCell _ ⟨b, 1, none⟩ _ k hkb]
    have hk1 := HK.out k hkb
    refine (HO.out k (Nat.lt_of_lt_of_le hks hb1.size) (fun e => ?_)).trans hk1
    rcases hown.2 with ⟨hv, _⟩ | ⟨g, cc, cur, hv, _, hh, _⟩
    · rw [hv] at e; cases e
    · rw [hv] at e
      injection e with e
      simp only at e
      subst e
      exact hku _ _ (hk1.symm.trans hh)
theorem own_later {w w' : World} {B : Nat} {e : TypeId} {size : Nat} {v : Value} {n : Nat} {xs : List Value} (h : w.ownsRow B e size v n xs) (k : Below w.heap.size w w') : w'.ownsRow B e size v n xs := by
  refine ⟨h.1, ?_⟩
  rcases h.2 with h0 | ⟨g, cap, cur, hv, hg, hc, h1, h2, h3, h4⟩
  · exact .inl h0
  · exact .inr ⟨g, cap, cur, hv, hg, heap_below k (lt_heap hc) hc, h1, h2, h3, h4⟩
theorem SbAt.later {w w' : World} {B b : Nat} {l : List UInt8} (h : SbAt B b l w) (k : Below w.heap.size w w') : SbAt B b l w' := by
  rcases h with ⟨hB, v, hb, ho, hn⟩ | ⟨hB, v, hb, ho, hn⟩
  · exact .inl ⟨hB, v, heap_below k (lt_heap hb) hb, own_later ho k, hn⟩
  · exact .inr ⟨hB, v, heap_below k (lt_heap hb) hb, own_later ho k, hn⟩
theorem bstring_any (B b : Nat) (l : List UInt8) (w : World) (h : SbAt B b l w) (hBw : B ≤ w.heap.size) :
    Calls Tryz.prog 24 #[.pointer (some ⟨b, 0, none⟩)] w fun e w' => e = .returned (.string (bs l)) ∧ Below B w w' := Tryz.Builder_String_any B b l w h hBw
/-- a builder that is being filled, and a row of texts beside it -/
def LpAt (w W : World) (bb gw : Nat) (wc : Array Value) (s : List UInt8) : Prop :=
  SbAt w.heap.size bb s W ∧ W.heap[gw]? = some (.cells wc 9 (0, 0)) ∧ Below w.heap.size w W ∧ bb ≠ gw
theorem LpAt.on {w W W' : World} {bb gw : Nat} {wc : Array Value} {s : List UInt8} (h : LpAt w W bb gw wc s) (hb : Below W.heap.size W W') : LpAt w W' bb gw wc s :=
  ⟨SbAt.later h.1 hb, heap_below hb (lt_heap h.2.1) h.2.1, h.2.2.1.trans (hb.mono h.2.2.1.size), h.2.2.2⟩
theorem LpAt.below {w W : World} {bb gw : Nat} {wc : Array Value} {s : List UInt8} (h : LpAt w W bb gw wc s) : Below w.heap.size w W := h.2.2.1
theorem LpAt.write {w W : World} {bb gw : Nat} {wc : Array Value} {s : List UInt8} (h : LpAt w W bb gw wc s) (S : ByteArray) (hl : s.length + S.size ≤ 140737488355328) :
    Calls Tryz.prog 21 #[.pointer (some ⟨bb, 0, none⟩), .string S] W fun e w' => e = .returned (.tuple #[.int .i64 S.size, .nilIface]) ∧ LpAt w w' bb gw wc (s ++ S.data.toList) ∧
      ∀ k cs, k ≠ bb → W.heap[k]? = some (.cells cs 37 (0, 0)) → w'.heap[k]? = some (.cells cs 37 (0, 0)) := by
  refine (WriteString_keep w.heap.size bb s S W h.1 hl h.2.2.1.size).mono ?_
  rintro e w' ⟨rfl, h1, h2, h3⟩
  refine ⟨rfl, ⟨h1, (h3 gw (lt_heap h.2.1) (fun e => h.2.2.2 e.symm) (fun cs fr e => ?_)).trans h.2.1, h.2.2.1.trans h2, h.2.2.2⟩, fun k cs hk hc => (h3 k (lt_heap hc) hk (fun cs fr e => ?_)).trans hc⟩
  · rw [h.2.1] at e
    injection e with e
    injection e with _ e
    exact absurd e (by decide)
  · rw [hc] at e
    injection e with e
    injection e with _ e
    exact absurd e (by decide)
end Go.Proofs.YtimfljncibbdoaaGreatDoor.Lg
