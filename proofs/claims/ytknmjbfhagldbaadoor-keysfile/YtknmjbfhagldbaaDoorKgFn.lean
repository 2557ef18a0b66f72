/- The contracts of the functions that lay one target, and one file, as bytes. -/
import Derived.Test.YtknmjbfhagldbaaDoorPkList
import Derived.Test.YtknmjbfhagldbaaDoorKm
namespace Go.Proofs.YtknmjbfhagldbaaDoor
open Go.RowKit
set_option linter.unusedVariables false
set_option maxRecDepth 100000
/-- a file as bytes -/
def fileB (p d : List UInt8) : List UInt8 := Pk.text p ++ Pk.text d
set_option maxHeartbeats 1000000 in
theorem filefn_any (p d : ByteArray) (hp : p.size ≤ 100000000) (hd : d.size ≤ 100000000) (w : World) (ht : Tab w) :
    Calls Tryd.prog 31 #[.agg #[.string p, .string d]] w fun e w' => e = .returned (.string (bs (fileB (tl p) (tl d)))) ∧ Below w.heap.size w w' := by
  have FB : Hid (bs (Pk.text (tl p)) ++ bs (Pk.text (tl d)) = bs (fileB (tl p) (tl d))) := Lib.hid (bs_append _ _)
  obtain ⟨X, eX⟩ : ∃ X, X = bs (Pk.text (tl p)) := ⟨_, rfl⟩
  obtain ⟨Y, eY⟩ : ∃ X, X = bs (Pk.text (tl d)) := ⟨_, rfl⟩
  have TP : Hid (∀ W, Tab W → Calls Tryd.prog 26 #[.string p] W fun e w' => e = .returned (.string X) ∧ Below W.heap.size W w') := Lib.hid (by rw [eX]; exact fun W h => text_any p (by omega) W h)
  have TD : Hid (∀ W, Tab W → Calls Tryd.prog 26 #[.string d] W fun e w' => e = .returned (.string Y) ∧ Below W.heap.size W w') := Lib.hid (by rw [eY]; exact fun W h => text_any d (by omega) W h)
  have tlen : ∀ s : ByteArray, s.size ≤ 100000000 → (bs (Pk.text (tl s))).size ≤ 200000000 := fun s hs => by
    rw [bs_size]
    have h2 : (tl s).length = s.size := (Lib.size_eq s).symm
    have h1 := dec_len (n := (tl s).length) (by omega)
    simp only [Pk.text, List.length_append, List.length_cons, List.length_nil]
    omega
  have x1 := tlen p hp
  have x2 := tlen d hd
  rw [← eX, ← eY] at FB
  rw [← eX] at x1
  rw [← eY] at x2
  clear eX eY tlen
  have hXY : X.size + Y.size ≤ 9223372036854775807 := by omega
  obtain ⟨W1, eW⟩ : ∃ W1, W1 = w.alloc (.cells #[.string p, .string d] 43) := ⟨_, rfl⟩
  have hb0 : Below w.heap.size w W1 := by rw [eW]; exact (Below.refl _ _).alloc (Nat.le_refl _) _
  have hblk : W1.heap[w.heap.size]? = some (.cells #[.string p, .string d] 43 (0, 0)) := by rw [eW]; exact heap_alloc_new w _
  have hT1 := ht.on hb0
  have hlt := lt_heap hblk
  have c0 : ∀ w', Below W1.heap.size W1 w' → w'.cell? ⟨w.heap.size, 0, none⟩ = some (.string p) := fun w' h => (cell_heap (heap_below h hlt hblk) 0).trans rfl
  have c1 : ∀ w', Below W1.heap.size W1 w' → w'.cell? ⟨w.heap.size, 1, none⟩ = some (.string d) := fun w' h => (cell_heap (heap_below h hlt hblk) 1).trans rfl
  go_enter Tryd.func31, Tryd.ntmps31
  go_wp2_with (fail)
  rw [← eW]
  clear eW
  refine wp_region_cls (C := fun w' => Below W1.heap.size W1 w') (by kernel_rfl) (by kernel_rfl) (Below.refl _ _).drew ?_
  repeat (quiet_step (first | (intro _; rfl) | (intro _; rw [if_neg (by omega)]; exact ⟨rfl, rfl⟩) | (intro hss; rw [c0 _ hss]; exact ⟨rfl, rfl⟩) | (intro hss; rw [c1 _ hss]; exact ⟨rfl, rfl⟩) | (intro hss; go_at_call 26; first | ((with_reducible refine (TP.out _ (hT1.on hss)).mono ?_); rintro e w' ⟨rfl, hb'⟩; exact ⟨rfl, hss.trans (hb'.mono hss.size)⟩) | ((with_reducible refine (TD.out _ (hT1.on hss)).mono ?_); rintro e w' ⟨rfl, hb'⟩; exact ⟨rfl, hss.trans (hb'.mono hss.size)⟩))))
  refine wpQuiet_nil ?_
  intro w2 hb2
  go_wp2
  go_ret
  exact ⟨ret_str FB.out, hb0.trans (hb2.mono hb0.size)⟩

theorem textlen_le (s : ByteArray) (h : s.size ≤ 1000000000) : (bs (Pk.text (tl s))).size ≤ s.size + 21 := by
  rw [bs_size]
  have h2 : (tl s).length = s.size := (Lib.size_eq s).symm
  have h1 := dec_len (n := (tl s).length) (by omega)
  simp only [Pk.text, List.length_append, List.length_cons, List.length_nil]
  omega
theorem listlen_le (l : List ByteArray) (h : ((l.map tl).flatMap Pk.text).length ≤ 500000000) : (bs (Pk.list (l.map tl))).size ≤ ((l.map tl).flatMap Pk.text).length + 21 := by
  have := textlen_le (bs ((l.map tl).flatMap Pk.text)) (by rw [bs_size]; omega)
  rw [bs_size (((l.map tl).flatMap Pk.text))] at this
  exact this
theorem Strs.more {w : World} {B B' : Nat} {A : Option Addr} {l : List ByteArray} (h : Strs w B A l) (hB : B ≤ B') : Strs w B' A l := Reads.more h hB
/-- a target as bytes -/
def targetB (n c : List UInt8) (ds ss : List (List UInt8)) : List UInt8 := ((Pk.text n ++ Pk.text c) ++ Pk.list ds) ++ Pk.list ss
theorem targetB_eq (n c : List UInt8) (ds ss : List (List UInt8)) : bs (Pk.text n) ++ bs (Pk.text c) ++ bs (Pk.list ds) ++ bs (Pk.list ss) = bs (targetB n c ds ss) := by
  rw [bs_append, bs_append, bs_append]; rfl
set_option maxHeartbeats 2000000 in
theorem targetfn_any (n c : ByteArray) (ds ss : List ByteArray) (Ad As : Option Addr) (cd cs : Nat) (hn : n.size ≤ 100000000) (hc : c.size ≤ 100000000) (hds : ((ds.map tl).flatMap Pk.text).length ≤ 100000000) (hss : ((ss.map tl).flatMap Pk.text).length ≤ 100000000)
    (w : World) (ht : Tab w) (hd : Strs w w.heap.size Ad ds) (hs : Strs w w.heap.size As ss) :
    Calls Tryd.prog 25 #[.agg #[.string n, .string c, .slice Ad ds.length cd, .slice As ss.length cs]] w fun e w' => e = .returned (.string (bs (targetB (tl n) (tl c) (ds.map tl) (ss.map tl)))) ∧ Below w.heap.size w w' := by
  have FB := Lib.hid (targetB_eq (tl n) (tl c) (ds.map tl) (ss.map tl))
  have x1 := textlen_le n (by omega)
  have x2 := textlen_le c (by omega)
  have x3 := listlen_le ds (by omega)
  have x4 := listlen_le ss (by omega)
  obtain ⟨X, eX⟩ : ∃ X, X = bs (Pk.text (tl n)) := ⟨_, rfl⟩
  obtain ⟨Y, eY⟩ : ∃ X, X = bs (Pk.text (tl c)) := ⟨_, rfl⟩
  obtain ⟨U, eU⟩ : ∃ X, X = bs (Pk.list (ds.map tl)) := ⟨_, rfl⟩
  obtain ⟨V, eV⟩ : ∃ X, X = bs (Pk.list (ss.map tl)) := ⟨_, rfl⟩
  rw [← eX, ← eY, ← eU, ← eV] at FB
  rw [← eX] at x1
  rw [← eY] at x2
  rw [← eU] at x3
  rw [← eV] at x4
  have TP : Hid (∀ W, Tab W → Calls Tryd.prog 26 #[.string n] W fun e w' => e = .returned (.string X) ∧ Below W.heap.size W w') := Lib.hid (by rw [eX]; exact fun W h => text_any n (by omega) W h)
  have TD : Hid (∀ W, Tab W → Calls Tryd.prog 26 #[.string c] W fun e w' => e = .returned (.string Y) ∧ Below W.heap.size W w') := Lib.hid (by rw [eY]; exact fun W h => text_any c (by omega) W h)
  obtain ⟨W1, eW⟩ : ∃ W1, W1 = w.alloc (.cells #[.string n, .string c, .slice Ad ds.length cd, .slice As ss.length cs] 46) := ⟨_, rfl⟩
  have hb0 : Below w.heap.size w W1 := by rw [eW]; exact (Below.refl _ _).alloc (Nat.le_refl _) _
  have hblk : W1.heap[w.heap.size]? = some (.cells #[.string n, .string c, .slice Ad ds.length cd, .slice As ss.length cs] 46 (0, 0)) := by rw [eW]; exact heap_alloc_new w _
  have hT1 := ht.on hb0
  have hlt := lt_heap hblk
  have hd1 : Strs W1 W1.heap.size Ad ds := (hd.below hb0).more hb0.size
  have hs1 : Strs W1 W1.heap.size As ss := (hs.below hb0).more hb0.size
  have LD : Hid (∀ W, Below W1.heap.size W1 W → Calls Tryd.prog 27 #[.slice Ad ds.length cd] W fun e w' => e = .returned (.string U) ∧ Below W.heap.size W w') := Lib.hid (by rw [eU]; exact fun W h => plist_any Ad ds cd W (hT1.on h) ((hd1.below h).more h.size) (by omega))
  have LS : Hid (∀ W, Below W1.heap.size W1 W → Calls Tryd.prog 27 #[.slice As ss.length cs] W fun e w' => e = .returned (.string V) ∧ Below W.heap.size W w') := Lib.hid (by rw [eV]; exact fun W h => plist_any As ss cs W (hT1.on h) ((hs1.below h).more h.size) (by omega))
  have c0 : ∀ w', Below W1.heap.size W1 w' → w'.cell? ⟨w.heap.size, 0, none⟩ = some (.string n) := fun w' h => (cell_heap (heap_below h hlt hblk) 0).trans rfl
  have c1 : ∀ w', Below W1.heap.size W1 w' → w'.cell? ⟨w.heap.size, 1, none⟩ = some (.string c) := fun w' h => (cell_heap (heap_below h hlt hblk) 1).trans rfl
  have c2 : ∀ w', Below W1.heap.size W1 w' → w'.cell? ⟨w.heap.size, 2, none⟩ = some (.slice Ad ds.length cd) := fun w' h => (cell_heap (heap_below h hlt hblk) 2).trans rfl
  have c3 : ∀ w', Below W1.heap.size W1 w' → w'.cell? ⟨w.heap.size, 3, none⟩ = some (.slice As ss.length cs) := fun w' h => (cell_heap (heap_below h hlt hblk) 3).trans rfl
  have hXY : X.size + Y.size ≤ 9223372036854775807 := by omega
  have hXYU : (X ++ Y).size + U.size ≤ 9223372036854775807 := by rw [ByteArray.size_append]; omega
  have hXYU2 : X.size + Y.size + U.size ≤ 9223372036854775807 := by omega
  have hXYUV2 : X.size + Y.size + U.size + V.size ≤ 9223372036854775807 := by omega
  have hXYUV : (X ++ Y ++ U).size + V.size ≤ 9223372036854775807 := by rw [ByteArray.size_append, ByteArray.size_append]; omega
  clear eX eY eU eV hd hs hd1 hs1 x1 x2 x3 x4
  go_enter Tryd.func25, Tryd.ntmps25
  go_wp2_with (fail)
  rw [← eW]
  clear eW
  refine wp_region_cls (C := fun w' => Below W1.heap.size W1 w') (by kernel_rfl) (by kernel_rfl) (Below.refl _ _).drew ?_
  repeat (quiet_step (first | (intro _; rfl) | (intro _; rw [if_neg (by omega)]; exact ⟨rfl, rfl⟩) | (intro hss; (first | rw [c0 _ hss] | rw [c1 _ hss] | rw [c2 _ hss] | rw [c3 _ hss]); exact ⟨rfl, rfl⟩) | (intro hss; go_at_call 26; first | ((with_reducible refine (TP.out _ (hT1.on hss)).mono ?_); rintro e w' ⟨rfl, hb'⟩; exact ⟨rfl, hss.trans (hb'.mono hss.size)⟩) | ((with_reducible refine (TD.out _ (hT1.on hss)).mono ?_); rintro e w' ⟨rfl, hb'⟩; exact ⟨rfl, hss.trans (hb'.mono hss.size)⟩)) | (intro hss; go_at_call 27; first | ((with_reducible refine (LD.out _ hss).mono ?_); rintro e w' ⟨rfl, hb'⟩; exact ⟨rfl, hss.trans (hb'.mono hss.size)⟩) | ((with_reducible refine (LS.out _ hss).mono ?_); rintro e w' ⟨rfl, hb'⟩; exact ⟨rfl, hss.trans (hb'.mono hss.size)⟩))))
  refine wpQuiet_nil ?_
  intro w2 hb2
  go_wp2
  go_ret
  exact ⟨ret_str FB.out, hb0.trans (hb2.mono hb0.size)⟩
end Go.Proofs.YtknmjbfhagldbaaDoor
