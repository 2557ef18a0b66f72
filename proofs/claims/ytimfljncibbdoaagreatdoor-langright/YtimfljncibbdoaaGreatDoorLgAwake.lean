/- The contract of the chapter's examples: trestlelaw05.awake answers true. -/
import Derived.Test.YtimfljncibbdoaaGreatDoorLgParse
import Derived.Test.YtimfljncibbdoaaGreatDoorLgSameEq
namespace Go.Proofs.YtimfljncibbdoaaGreatDoor.Lg
open Go.RowKit
set_option linter.unusedVariables false
set_option maxRecDepth 100000
def ex1 : List Stp := [⟨1, [[97], [120]], 0, []⟩]
def ex2 : List Stp := [⟨9, [], 2, [⟨4, [[97]], 0, []⟩]⟩]
theorem px1 : parse [112, 117, 116, 32, 97, 32, 120, 10] = (ex1, 0) := by kernel_rfl
theorem px2 : parse [108, 111, 111, 112, 32, 50, 10, 117, 112, 112, 101, 114, 32, 97, 10, 101, 110, 100, 10] = (ex2, 0) := by kernel_rfl
theorem px3 : parse [101, 110, 100, 10] = ([], 21) := by kernel_rfl
theorem px4 : parse [108, 111, 111, 112, 32, 48, 50, 10, 101, 110, 100, 10] = ([], 20) := by kernel_rfl
theorem px5 : parse [112, 117, 116, 32, 32, 97, 10] = ([], 20) := by kernel_rfl
theorem below_dn (w : World) (q : Nat) : Below w.heap.size w (w.drewN q) := ⟨rfl, rfl, rfl, Nat.le_refl _, fun _ _ => rfl⟩
theorem sameE (l : List Stp) (hw : weight l ≤ 1000000) (hs : wide l ≤ 1000000) (A F : Option Addr) (n m c d : Nat) (w : World) (ok ok' : Nat → Prop) (hr : StepsAt w ok A n l) (hq : StepsAt w ok' F m l) :
    Calls Tryz.prog 14 #[.slice A n c, .slice F m d] w fun e w' => e = .returned (.bool true) ∧ Below w.heap.size w w' :=
  (same_eq (weight l) l (Nat.le_refl _) hw hs A F n m c d w ok ok' hr hq).mono (by
    rintro e w' ⟨h1, q, rfl⟩
    exact ⟨h1, below_dn w q⟩)
theorem lies_row {w : World} {g n size : Nat} {cs : Array Value} {T : TypeId} (h : w.heap[g]? = some (.cells cs T (0, 0))) (hn : cs.size = n * size) : Lies w (fun _ => True) size (some ⟨g, 0, none⟩) n cs.toList := by
  refine ⟨by simpa using hn, fun _ => ⟨_, rfl, trivial, fun j u hj => ?_⟩⟩
  rw [add_eq, cell_at h]
  simpa using hj
theorem lit1 (W : World) (A : Option Addr) (k c : Nat) (ok : Nat → Prop) (h : StepsAt W ok A k ex1) :
    Calls Tryz.prog 14 #[.slice A k c, .slice (some ⟨W.heap.size + 1, 0, none⟩) 1 1] ((W.alloc (.cells #[.string ⟨#[97]⟩, .string ⟨#[120]⟩] 9)).alloc (.cells #[.int .i64 1, .slice (some ⟨W.heap.size, 0, none⟩) 2 2, .int .i64 0, .slice none 0 0] 37)) fun e w' => e = .returned (.bool true) ∧ Below W.heap.size W w' := by
  have hb : Below W.heap.size W ((W.alloc (.cells #[.string ⟨#[97]⟩, .string ⟨#[120]⟩] 9)).alloc (.cells #[.int .i64 1, .slice (some ⟨W.heap.size, 0, none⟩) 2 2, .int .i64 0, .slice none 0 0] 37)) := ((Below.refl _ _).alloc (Nat.le_refl _) _).alloc (by simp) _
  have h0 : ((W.alloc (.cells #[.string ⟨#[97]⟩, .string ⟨#[120]⟩] 9)).alloc (.cells #[.int .i64 1, .slice (some ⟨W.heap.size, 0, none⟩) 2 2, .int .i64 0, .slice none 0 0] 37)).heap[W.heap.size]? = some (.cells #[.string ⟨#[97]⟩, .string ⟨#[120]⟩] 9 (0, 0)) := heap_two
  have h1 : ((W.alloc (.cells #[.string ⟨#[97]⟩, .string ⟨#[120]⟩] 9)).alloc (.cells #[.int .i64 1, .slice (some ⟨W.heap.size, 0, none⟩) 2 2, .int .i64 0, .slice none 0 0] 37)).heap[W.heap.size + 1]? = some (.cells #[.int .i64 1, .slice (some ⟨W.heap.size, 0, none⟩) 2 2, .int .i64 0, .slice none 0 0] 37 (0, 0)) := heap_alloc2_new W _ _
  have hq : StepsAt ((W.alloc (.cells #[.string ⟨#[97]⟩, .string ⟨#[120]⟩] 9)).alloc (.cells #[.int .i64 1, .slice (some ⟨W.heap.size, 0, none⟩) 2 2, .int .i64 0, .slice none 0 0] 37)) (fun _ => True) (some ⟨W.heap.size + 1, 0, none⟩) 1 ex1 :=
    ⟨rfl, _, lies_row (n := 1) (size := 4) h1 rfl, RowAt.cons rfl (Nat.le_refl _) (lies_row (n := 2) (size := 1) h0 rfl) rfl (Nat.le_refl _) Lies.none_ .nil .nil⟩
  refine (sameE ex1 (by simp [ex1, weight]) (by simp [ex1, wide]) A _ k 1 c 1 _ ok _ (h.below hb) hq).mono ?_
  rintro e w' ⟨h1, h2⟩
  exact ⟨h1, hb.trans (h2.mono hb.size)⟩
theorem lit2 (W : World) (A : Option Addr) (k c : Nat) (ok : Nat → Prop) (h : StepsAt W ok A k ex2) :
    Calls Tryz.prog 14 #[.slice A k c, .slice (some ⟨W.heap.size + 1 + 1, 0, none⟩) 1 1] (((W.alloc (.cells #[.string ⟨#[97]⟩] 9)).alloc (.cells #[.int .i64 4, .slice (some ⟨W.heap.size, 0, none⟩) 1 1, .int .i64 0, .slice none 0 0] 37)).alloc (.cells #[.int .i64 9, .slice none 0 0, .int .i64 2, .slice (some ⟨W.heap.size + 1, 0, none⟩) 1 1] 37)) fun e w' => e = .returned (.bool true) ∧ Below W.heap.size W w' := by
  obtain ⟨V, eV⟩ : ∃ V, V = ((W.alloc (.cells #[.string ⟨#[97]⟩] 9)).alloc (.cells #[.int .i64 4, .slice (some ⟨W.heap.size, 0, none⟩) 1 1, .int .i64 0, .slice none 0 0] 37)) := ⟨_, rfl⟩
  have hb1 : Below W.heap.size W V := by rw [eV]; exact ((Below.refl _ _).alloc (Nat.le_refl _) _).alloc (by simp) _
  have hs : V.heap.size = W.heap.size + 1 + 1 := by rw [eV]; simp
  have h0 : V.heap[W.heap.size]? = some (.cells #[.string ⟨#[97]⟩] 9 (0, 0)) := by rw [eV]; exact heap_two
  have h1 : V.heap[W.heap.size + 1]? = some (.cells #[.int .i64 4, .slice (some ⟨W.heap.size, 0, none⟩) 1 1, .int .i64 0, .slice none 0 0] 37 (0, 0)) := by rw [eV]; exact heap_alloc2_new W _ _
  rw [← eV, ← hs]
  have hb : Below W.heap.size W (V.alloc (.cells #[.int .i64 9, .slice none 0 0, .int .i64 2, .slice (some ⟨W.heap.size + 1, 0, none⟩) 1 1] 37)) := hb1.alloc hb1.size _
  have h2 := heap_new V (.cells #[.int .i64 9, .slice none 0 0, .int .i64 2, .slice (some ⟨W.heap.size + 1, 0, none⟩) 1 1] 37)
  have h0' := (Below.heap_alloc V (.cells #[.int .i64 9, .slice none 0 0, .int .i64 2, .slice (some ⟨W.heap.size + 1, 0, none⟩) 1 1] 37) _ (lt_of_block h0)).trans h0
  have h1' := (Below.heap_alloc V (.cells #[.int .i64 9, .slice none 0 0, .int .i64 2, .slice (some ⟨W.heap.size + 1, 0, none⟩) 1 1] 37) _ (lt_of_block h1)).trans h1
  have hq : StepsAt (V.alloc (.cells #[.int .i64 9, .slice none 0 0, .int .i64 2, .slice (some ⟨W.heap.size + 1, 0, none⟩) 1 1] 37)) (fun _ => True) (some ⟨V.heap.size, 0, none⟩) 1 ex2 :=
    ⟨rfl, _, lies_row (n := 1) (size := 4) h2 rfl, RowAt.cons rfl (Nat.le_refl _) Lies.none_ rfl (Nat.le_refl _) (lies_row (n := 1) (size := 4) h1' rfl) (RowAt.cons rfl (Nat.le_refl _) (lies_row (n := 1) (size := 1) h0' rfl) rfl (Nat.le_refl _) Lies.none_ .nil .nil) .nil⟩
  refine (sameE ex2 (by simp [ex2, weight]) (by simp [ex2, wide]) A _ k 1 c 1 _ ok _ (h.below hb) hq).mono ?_
  rintro e w' ⟨h1, h2⟩
  exact ⟨h1, hb.trans (h2.mono hb.size)⟩
/-- a Parse of a text of which the answer is known -/
theorem parse_of {cmd : ByteArray} {m : List Stp} {k : Nat} (h : parse (tl cmd) = (m, k)) (hs : cmd.size ≤ 1000000) (w : World) (hE : Env w) :
    Calls Tryz.prog 9 #[.string cmd] w fun e w' => (∃ A n c, e = .returned (.tuple #[.slice A n c, .int .i64 k]) ∧ n ≤ c ∧ StepsAt w' (fun b => w.heap.size ≤ b) A n m) ∧ Below w.heap.size w w' := by
  refine (parse_any cmd w hE hs).mono ?_
  rintro e w' ⟨⟨A, n, c, h1, h2, h3⟩, hb⟩
  rw [h] at h1 h3
  exact ⟨⟨A, n, c, h1, h2, h3⟩, hb⟩
theorem awake_any (w : World) (hE : Env w) : Calls Tryz.prog 7 #[] w fun e w' => e = .returned (.bool true) ∧ Below w.heap.size w w' := by
  have P1 := Lib.hid (parse_of (cmd := ⟨#[112, 117, 116, 32, 97, 32, 120, 10]⟩) px1 (by decide))
  have P2 := Lib.hid (parse_of (cmd := ⟨#[108, 111, 111, 112, 32, 50, 10, 117, 112, 112, 101, 114, 32, 97, 10, 101, 110, 100, 10]⟩) px2 (by decide))
  have P3 := Lib.hid (parse_of (cmd := ⟨#[101, 110, 100, 10]⟩) px3 (by decide))
  have P4 := Lib.hid (parse_of (cmd := ⟨#[108, 111, 111, 112, 32, 48, 50, 10, 101, 110, 100, 10]⟩) px4 (by decide))
  have P5 := Lib.hid (parse_of (cmd := ⟨#[112, 117, 116, 32, 32, 97, 10]⟩) px5 (by decide))
  go_enter Tryz.func7, Tryz.ntmps7
  go_wp2_with (fail)
  refine (P1.out w hE).mono ?_
  rintro e w1 ⟨⟨A1, n1, c1, rfl, _, s1⟩, b1⟩
  have S1 := Lib.hid s1
  have E1 := hE.below b1
  clear s1
  go_wp2_with (fail)
  refine (P2.out w1 E1).mono ?_
  rintro e w2 ⟨⟨A2, n2, c2, rfl, _, s2⟩, b2⟩
  have S2 := Lib.hid s2
  have E2 := E1.below b2
  clear s2
  go_wp2_with (fail)
  refine (P3.out w2 E2).mono ?_
  rintro e w3 ⟨⟨A3, n3, c3, rfl, _, _⟩, b3⟩
  have E3 := E2.below b3
  go_wp2_with (fail)
  refine (P4.out w3 E3).mono ?_
  rintro e w4 ⟨⟨A4, n4, c4, rfl, _, _⟩, b4⟩
  have E4 := E3.below b4
  go_wp2_with (fail)
  refine (P5.out w4 E4).mono ?_
  rintro e w5 ⟨⟨A5, n5, c5, rfl, _, _⟩, b5⟩
  have b25 : Below w2.heap.size w2 w5 := (b3.trans (b4.mono b3.size)).trans (b5.mono (by have := b3.size; have := b4.size; omega))
  have b15 : Below w1.heap.size w1 w5 := b2.trans (b25.mono b2.size)
  have b05 : Below w.heap.size w w5 := b1.trans (b15.mono b1.size)
  have L1 := Lib.hid (lit1 w5 A1 n1 c1 _ (S1.out.below b15))
  have L2 := Lib.hid (fun W (h : Below w2.heap.size w2 W) => lit2 W A2 n2 c2 _ (S2.out.below h))
  clear b1 b2 b3 b4 b5 E1 E2 E3 E4 b15
  go_wp2_with (first | (go_at_call 14; (with_reducible refine (L1.out).mono ?_); rintro e w6 ⟨rfl, b6⟩; have b26 := b25.trans (b6.mono b25.size)) | (go_at_call 14; (with_reducible refine (L2.out _ b26).mono ?_); rintro e w7 ⟨rfl, b7⟩))
  go_ret
  exact ⟨rfl, (b05.trans (b6.mono b05.size)).trans (b7.mono (by have := b05.size; have := b6.size; omega))⟩
end Go.Proofs.YtimfljncibbdoaaGreatDoor.Lg
