/- The contract of the function that reads one target. -/
import Derived.Test.YtknmjbfhagldbaaDoorPkRfs
namespace Go.Proofs.YtknmjbfhagldbaaDoor
open Go.RowKit
set_option linter.unusedVariables false
set_option maxRecDepth 100000
/-- one target, read: its name, its command, its dependencies, its sources -/
structure TgL where
  n : List UInt8
  c : List UInt8
  ds : List (List UInt8)
  ss : List (List UInt8)
/-- one target off a reader -/
def takesT (r : Pk.Rd) : TgL × Pk.Rd := (⟨r.text.1, r.text.2.text.1, r.text.2.text.2.list.1, r.text.2.text.2.list.2.list.1⟩, r.text.2.text.2.list.2.list.2)
theorem rlist_rest (r : Pk.Rd) : r.list.2.rest.length ≤ r.rest.length := by
  have := rtext_rest r
  unfold Pk.Rd.list
  split <;> exact this
theorem own_far {w : World} {B : Nat} {e : TypeId} {size : Nat} {v : Value} {n : Nat} {xs : List Value} (h : w.ownsRow B e size v n xs) {g : Nat} (hg : g < B) (i : Nat) (u : Value) : (w.setCell ⟨g, i, none⟩ u).ownsRow B e size v n xs := by
  refine ⟨h.1, ?_⟩
  rcases h.2 with h0 | ⟨g', cap, cur, hv, hgg, hcc, h1, h2, h3, h4⟩
  · exact .inl h0
  · exact .inr ⟨g', cap, cur, hv, hgg, (heap_set_ne (by omega)).trans hcc, h1, h2, h3, h4⟩
theorem own_grownX {wx w' : World} {B : Nat} {e : TypeId} {size : Nat} {v : Value} {n : Nat} {xs : List Value} {g : Nat} (hown : wx.ownsRow B e size v n xs) (hg : wx.grownBy w' (some g)) (hgB : g < B) : w'.ownsRow B e size v n xs := by
  refine ⟨hown.1, ?_⟩
  rcases hown.2 with h0 | ⟨g', cap, cur, hv, hgg, hcc, h1, h2, h3, h4⟩
  · exact .inl h0
  · exact .inr ⟨g', cap, cur, hv, hgg, (hg.block g' (lt_heap hcc) (fun e => by have := Option.some.inj e; omega)).trans hcc, h1, h2, h3, h4⟩
/-- the state in which a target is read: the result's block, the target's own -/
structure TS (w W : World) (b : Nat) (r : Pk.Rd) (c0 c1 : Array Value) : Prop where
  rd : RdAt W b r
  g : w.grownBy W (some b)
  z0 : W.heap[w.heap.size]? = some (.cells c0 46 (0, 0))
  z1 : W.heap[w.heap.size + 1]? = some (.cells c1 46 (0, 0))
namespace TS
variable {w W W' : World} {b : Nat} {r r' : Pk.Rd} {c0 c1 : Array Value}
theorem call (h : TS w W b r c0 c1) (hb : b < w.heap.size) (k : W.grownBy W' (some b)) (hr : RdAt W' b r') : TS w W' b r' c0 c1 :=
  ⟨hr, grown_trans h.g k, (k.block _ (lt_heap h.z0) (fun e => by have := Option.some.inj e; omega)).trans h.z0, (k.block _ (lt_heap h.z1) (fun e => by have := Option.some.inj e; omega)).trans h.z1⟩
theorem set_ (h : TS w W b r c0 c1) (hb : b < w.heap.size) (i : Nat) (v : Value) : TS w (W.setCell ⟨w.heap.size + 1, i, none⟩ v) b r c0 (c1.setIfInBounds i v) :=
  ⟨(heap_set_ne (by omega)).trans h.rd, grown_set h.g (.inl (by simp)) _ _, (heap_set_ne (by omega)).trans h.z0, heap_set h.z1⟩
theorem lt1 (h : TS w W b r c0 c1) : w.heap.size + 1 < W.heap.size := lt_heap h.z1
theorem cell1 (h : TS w W b r c0 c1) (i : Nat) : W.cell? ⟨w.heap.size + 1, i, none⟩ = c1[i]? := cell_heap h.z1 i
theorem frozen1 (h : TS w W b r c0 c1) (i : Nat) : W.frozen? ⟨w.heap.size + 1, i, none⟩ = false := frozen_heap h.z1 i
theorem cell0 (h : TS w W b r c0 c1) (i : Nat) : W.cell? ⟨w.heap.size, i, none⟩ = c0[i]? := cell_heap h.z0 i
theorem frozen0 (h : TS w W b r c0 c1) (i : Nat) : W.frozen? ⟨w.heap.size, i, none⟩ = false := frozen_heap h.z0 i
end TS
def zT : Array Value := #[.string ⟨#[]⟩, .string ⟨#[]⟩, .slice none 0 0, .slice none 0 0]
/-- what the function that reads one target answers -/
def TakeTSays (b : Nat) (r : Pk.Rd) (w : World) (e : Ending) (w' : World) : Prop :=
  ∃ v2 v3, e = .returned (.agg #[.string (bs (takesT r).1.n), .string (bs (takesT r).1.c), v2, v3]) ∧ w'.ownsRow w.heap.size 9 1 v2 (takesT r).1.ds.length ((takesT r).1.ds.map fun t => Value.string (bs t)) ∧
    w'.ownsRow w.heap.size 9 1 v3 (takesT r).1.ss.length ((takesT r).1.ss.map fun t => Value.string (bs t)) ∧ RdAt w' b (takesT r).2 ∧ w.grownBy w' (some b)
set_option maxHeartbeats 8000000 in
theorem takeT_any (b : Nat) (r : Pk.Rd) (hs : r.rest.length ≤ 1000000000) (w : World) (h : RdAt w b r) :
    Calls Tryd.prog 40 #[.pointer (some ⟨b, 0, none⟩)] w (TakeTSays b r w) := by
  have hbw : b < w.heap.size := lt_heap h
  have TF : Hid (takesT r = (⟨r.text.1, r.text.2.text.1, r.text.2.text.2.list.1, r.text.2.text.2.list.2.list.1⟩, r.text.2.text.2.list.2.list.2)) := Lib.hid rfl
  have hs1 : r.text.2.rest.length ≤ 1000000000 := Nat.le_trans (rtext_rest r) hs
  have hs2 : r.text.2.text.2.rest.length ≤ 1000000000 := Nat.le_trans (rtext_rest _) hs1
  have hs3 : r.text.2.text.2.list.2.rest.length ≤ 1000000000 := Nat.le_trans (rlist_rest _) hs2
  have R1 := Lib.hid (fun W hW => rtext_any b r hs W hW)
  have R2 := Lib.hid (fun W hW => rtext_any b r.text.2 hs1 W hW)
  have R3 := Lib.hid (fun W hW => rlist_any b r.text.2.text.2 hs2 W hW)
  have R4 := Lib.hid (fun W hW => rlist_any b r.text.2.text.2.list.2 hs3 W hW)
  have H := Lib.hid h
  clear h
  go_enter Tryd.func40, Tryd.ntmps40
  go_wp2_with (fail)
  obtain ⟨W1, eW⟩ : ∃ W1, W1 = (w.alloc (.cells #[.string ⟨#[]⟩, .string ⟨#[]⟩, .slice none 0 0, .slice none 0 0] 46)).alloc (.cells #[.string ⟨#[]⟩, .string ⟨#[]⟩, .slice none 0 0, .slice none 0 0] 46) := ⟨_, rfl⟩
  have hb0 : Below w.heap.size w W1 := by rw [eW]; exact ((Below.refl _ _).alloc (Nat.le_refl _) _).alloc (by simp) _
  have t1 : TS w W1 b r zT zT := ⟨H.out.later hb0, grown_of_below hb0 _, by rw [eW]; exact heap_alloc_lt (heap_alloc_new w _), by
    rw [eW]
    have h9 := heap_alloc_new (w.alloc (.cells #[.string ⟨#[]⟩, .string ⟨#[]⟩, .slice none 0 0, .slice none 0 0] 46)) (.cells zT 46)
    rw [World.size_alloc] at h9
    exact h9⟩
  rw [← eW]
  clear eW hb0
  refine (R1.out _ t1.rd).mono ?_
  rintro e w2 ⟨rfl, hr2, hg2⟩
  have t2 := t1.call hbw hg2 hr2
  have c2 : w2.cell? ⟨w.heap.size + 1, 0, none⟩ = some (.string ⟨#[]⟩) := t2.cell1 0
  have f2 := t2.frozen1 0
  go_wp2_with (fail)
  have t2s := t2.set_ hbw 0 (.string (bs r.text.1))
  clear t1 t2 c2 f2 hg2 hr2
  generalize w2.setCell ⟨w.heap.size + 1, 0, none⟩ (.string (bs r.text.1)) = W2 at *
  refine (R2.out _ t2s.rd).mono ?_
  rintro e w3 ⟨rfl, hr3, hg3⟩
  have t3 := t2s.call hbw hg3 hr3
  have c3 : w3.cell? ⟨w.heap.size + 1, 1, none⟩ = some (.string ⟨#[]⟩) := t3.cell1 1
  have f3 := t3.frozen1 1
  go_wp2_with (fail)
  have t3s := t3.set_ hbw 1 (.string (bs r.text.2.text.1))
  clear t2s t3 c3 f3 hg3 hr3
  generalize w3.setCell ⟨w.heap.size + 1, 1, none⟩ (.string (bs r.text.2.text.1)) = W3 at *
  refine (R3.out _ t3s.rd).mono ?_
  rintro e w4 ⟨v2, rfl, ho2, hr4, hg4⟩
  obtain ⟨p2, m2, k2, rfl⟩ := own_form ho2
  have l3 := t3s.lt1
  have t4 := t3s.call hbw hg4 hr4
  have c4 : w4.cell? ⟨w.heap.size + 1, 2, none⟩ = some (.slice none 0 0) := t4.cell1 2
  have f4 := t4.frozen1 2
  go_wp2_with (fail)
  have t4s := t4.set_ hbw 2 (.slice p2 m2 k2)
  have ho2s := own_far ho2 l3 2 (.slice p2 m2 k2)
  clear t3s t4 c4 f4 hg4 hr4 ho2
  generalize w4.setCell ⟨w.heap.size + 1, 2, none⟩ (.slice p2 m2 k2) = W4 at *
  refine (R4.out _ t4s.rd).mono ?_
  rintro e w5 ⟨v3, rfl, ho3, hr5, hg5⟩
  obtain ⟨p3, m3, k3, rfl⟩ := own_form ho3
  have l4 := t4s.lt1
  have t5 := t4s.call hbw hg5 hr5
  have ho2t := own_grownX ho2s hg5 (by omega)
  have c50 : w5.cell? ⟨w.heap.size + 1, 0, none⟩ = some (.string (bs r.text.1)) := t5.cell1 0
  have c51 : w5.cell? ⟨w.heap.size + 1, 1, none⟩ = some (.string (bs r.text.2.text.1)) := t5.cell1 1
  have c52 : w5.cell? ⟨w.heap.size + 1, 2, none⟩ = some (.slice p2 m2 k2) := t5.cell1 2
  have c53 : w5.cell? ⟨w.heap.size + 1, 3, none⟩ = some (.slice none 0 0) := t5.cell1 3
  have f53 := t5.frozen1 3
  have d0 : w5.cell? ⟨w.heap.size, 0, none⟩ = some (.string ⟨#[]⟩) := t5.cell0 0
  have d1 : w5.cell? ⟨w.heap.size, 1, none⟩ = some (.string ⟨#[]⟩) := t5.cell0 1
  have d2 : w5.cell? ⟨w.heap.size, 2, none⟩ = some (.slice none 0 0) := t5.cell0 2
  have d3 : w5.cell? ⟨w.heap.size, 3, none⟩ = some (.slice none 0 0) := t5.cell0 3
  have g0 := t5.frozen0 0
  have g1 := t5.frozen0 1
  have g2 := t5.frozen0 2
  have g3 := t5.frozen0 3
  have hrd := t5.rd
  have hgz := t5.g
  have hz0 := t5.z0
  clear t4s t5 hg5 hr5 ho2s
  go_wp2_with (fail)
  have a2 := own_base (own_far (own_far (own_far (own_far (own_far ho2t l3 3 (.slice p3 m3 k3)) (show w.heap.size < _ by omega) 0 (.string (bs r.text.1))) (show w.heap.size < _ by omega) 1 (.string (bs r.text.2.text.1))) (show w.heap.size < _ by omega) 2 (.slice p2 m2 k2)) (show w.heap.size < _ by omega) 3 (.slice p3 m3 k3)) (show w.heap.size ≤ _ by omega)
  have a3 := own_base (own_far (own_far (own_far (own_far (own_far ho3 l4 3 (.slice p3 m3 k3)) (show w.heap.size < _ by omega) 0 (.string (bs r.text.1))) (show w.heap.size < _ by omega) 1 (.string (bs r.text.2.text.1))) (show w.heap.size < _ by omega) 2 (.slice p2 m2 k2)) (show w.heap.size < _ by omega) 3 (.slice p3 m3 k3)) (show w.heap.size ≤ _ by omega)
  refine bodyPost_ret (v := .agg #[.string (bs r.text.1), .string (bs r.text.2.text.1), .slice p2 m2 k2, .slice p3 m3 k3]) (by simp [results, Tryd.results40, go_sem, d0, d1, d2, d3]) rfl ⟨_, _, by rw [TF.out], by rw [TF.out]; exact a2, by rw [TF.out]; exact a3, ?_, ?_⟩
  · rw [TF.out]
    exact (heap_set_ne (by omega)).trans ((heap_set_ne (by omega)).trans ((heap_set_ne (by omega)).trans ((heap_set_ne (by omega)).trans ((heap_set_ne (by omega)).trans hrd))))
  · exact grown_set (grown_set (grown_set (grown_set (grown_set hgz (.inl (by simp)) _ _) (.inl (by simp)) _ _) (.inl (by simp)) _ _) (.inl (by simp)) _ _) (.inl (by simp)) _ _
end Go.Proofs.YtknmjbfhagldbaaDoor
