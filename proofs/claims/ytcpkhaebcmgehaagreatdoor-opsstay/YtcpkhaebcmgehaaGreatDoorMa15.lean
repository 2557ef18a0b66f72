/- Joined by mkmerged.py: KgFn, KgFiles, TgMore, PkNext. -/
import Derived.Test.YtcpkhaebcmgehaaGreatDoorMa14
import Derived.Test.YtcpkhaebcmgehaaGreatDoorMa01
import Derived.Lib.Atoi
import Derived.Lib.AtoiErrMem
/- The contracts of the functions that lay one target, and one file, as bytes. -/
namespace Go.Proofs.YtcpkhaebcmgehaaGreatDoor
open Go.RowKit
set_option linter.unusedVariables false
set_option maxRecDepth 100000
/-- a file as bytes -/
def fileB (p d : List UInt8) : List UInt8 := Pk.text p ++ Pk.text d
set_option maxHeartbeats 1000000 in
theorem filefn_any (p d : ByteArray) (hp : p.size ≤ 100000000) (hd : d.size ≤ 100000000) (w : World) (ht : Tab w) :
    Calls Tryz.prog 88 #[.agg #[.string p, .string d]] w fun e w' => e = .returned (.string (bs (fileB (tl p) (tl d)))) ∧ Below w.heap.size w w' := by
  have FB : Hid (bs (Pk.text (tl p)) ++ bs (Pk.text (tl d)) = bs (fileB (tl p) (tl d))) := Lib.hid (bs_append _ _)
  obtain ⟨X, eX⟩ : ∃ X, X = bs (Pk.text (tl p)) := ⟨_, rfl⟩
  obtain ⟨Y, eY⟩ : ∃ X, X = bs (Pk.text (tl d)) := ⟨_, rfl⟩
  have TP : Hid (∀ W, Tab W → Calls Tryz.prog 34 #[.string p] W fun e w' => e = .returned (.string X) ∧ Below W.heap.size W w') := Lib.hid (by rw [eX]; exact fun W h => text_any p (by omega) W h)
  have TD : Hid (∀ W, Tab W → Calls Tryz.prog 34 #[.string d] W fun e w' => e = .returned (.string Y) ∧ Below W.heap.size W w') := Lib.hid (by rw [eY]; exact fun W h => text_any d (by omega) W h)
  have tlen : ∀ s : ByteArray, s.size ≤ 100000000 → (bs (Pk.text (tl s))).size ≤ 200000000 := fun s hs => by
    rw [bs_size]
    have h2 : (tl s).length = s.size := (Lib.size_eq s).symm
    have h1 := dec_len (n := (tl s).length) (by omega)
    simp only [Pk.text, List.length_append, List.length_cons, List.length_nil]
    omega
  have x1 := tlen p hp
  have x2 := tlen d hd
  rw [← eX, ← eY] at FB
  rw [← eX] at x1
  rw [← eY] at x2
  clear eX eY tlen
  have hXY : X.size + Y.size ≤ 9223372036854775807 := by omega
  obtain ⟨W1, eW⟩ : ∃ W1, W1 = w.alloc (.cells #[.string p, .string d] 71) := ⟨_, rfl⟩
  have hb0 : Below w.heap.size w W1 := by rw [eW]; exact (Below.refl _ _).alloc (Nat.le_refl _) _
  have hblk : W1.heap[w.heap.size]? = some (.cells #[.string p, .string d] 71 (0, 0)) := by rw [eW]; exact heap_alloc_new w _
  have hT1 := ht.on hb0
  have hlt := lt_heap hblk
  have c0 : ∀ w', Below W1.heap.size W1 w' → w'.cell? ⟨w.heap.size, 0, none⟩ = some (.string p) := fun w' h => (cell_heap (heap_below h hlt hblk) 0).trans rfl
  have c1 : ∀ w', Below W1.heap.size W1 w' → w'.cell? ⟨w.heap.size, 1, none⟩ = some (.string d) := fun w' h => (cell_heap (heap_below h hlt hblk) 1).trans rfl
  go_enter Tryz.func88, Tryz.ntmps88
  go_wp2_with (fail)
  rw [← eW]
  clear eW
  refine wp_region_cls (C := fun w' => Below W1.heap.size W1 w') (by kernel_rfl) (by kernel_rfl) (Below.refl _ _).drew ?_
  repeat (quiet_step (first | (intro _; rfl) | (intro _; rw [if_neg (by omega)]; exact ⟨rfl, rfl⟩) | (intro hss; rw [c0 _ hss]; exact ⟨rfl, rfl⟩) | (intro hss; rw [c1 _ hss]; exact ⟨rfl, rfl⟩) | (intro hss; go_at_call 34; first | ((with_reducible refine (TP.out _ (hT1.on hss)).mono ?_); rintro e w' ⟨rfl, hb'⟩; exact ⟨rfl, hss.trans (hb'.mono hss.size)⟩) | ((with_reducible refine (TD.out _ (hT1.on hss)).mono ?_); rintro e w' ⟨rfl, hb'⟩; exact ⟨rfl, hss.trans (hb'.mono hss.size)⟩))))
  refine wpQuiet_nil ?_
  intro w2 hb2
  go_wp2
  go_ret
  exact ⟨ret_str FB.out, hb0.trans (hb2.mono hb0.size)⟩

theorem textlen_le (s : ByteArray) (h : s.size ≤ 1000000000) : (bs (Pk.text (tl s))).size ≤ s.size + 21 := by
  rw [bs_size]
  have h2 : (tl s).length = s.size := (Lib.size_eq s).symm
  have h1 := dec_len (n := (tl s).length) (by omega)
  simp only [Pk.text, List.length_append, List.length_cons, List.length_nil]
  omega
theorem listlen_le (l : List ByteArray) (h : ((l.map tl).flatMap Pk.text).length ≤ 500000000) : (bs (Pk.list (l.map tl))).size ≤ ((l.map tl).flatMap Pk.text).length + 21 := by
  have := textlen_le (bs ((l.map tl).flatMap Pk.text)) (by rw [bs_size]; omega)
  rw [bs_size (((l.map tl).flatMap Pk.text))] at this
  exact this
theorem Strs.more {w : World} {B B' : Nat} {A : Option Addr} {l : List ByteArray} (h : Strs w B A l) (hB : B ≤ B') : Strs w B' A l := Reads.more h hB
/-- a target as bytes -/
def targetB (n c : List UInt8) (ds ss : List (List UInt8)) : List UInt8 := ((Pk.text n ++ Pk.text c) ++ Pk.list ds) ++ Pk.list ss
theorem targetB_eq (n c : List UInt8) (ds ss : List (List UInt8)) : bs (Pk.text n) ++ bs (Pk.text c) ++ bs (Pk.list ds) ++ bs (Pk.list ss) = bs (targetB n c ds ss) := by
  rw [bs_append, bs_append, bs_append]; rfl
set_option maxHeartbeats 2000000 in
theorem targetfn_any (n c : ByteArray) (ds ss : List ByteArray) (Ad As : Option Addr) (cd cs : Nat) (hn : n.size ≤ 100000000) (hc : c.size ≤ 100000000) (hds : ((ds.map tl).flatMap Pk.text).length ≤ 100000000) (hss : ((ss.map tl).flatMap Pk.text).length ≤ 100000000)
    (w : World) (ht : Tab w) (hd : Strs w w.heap.size Ad ds) (hs : Strs w w.heap.size As ss) :
    Calls Tryz.prog 86 #[.agg #[.string n, .string c, .slice Ad ds.length cd, .slice As ss.length cs]] w fun e w' => e = .returned (.string (bs (targetB (tl n) (tl c) (ds.map tl) (ss.map tl)))) ∧ Below w.heap.size w w' := by
  have FB := Lib.hid (targetB_eq (tl n) (tl c) (ds.map tl) (ss.map tl))
  have x1 := textlen_le n (by omega)
  have x2 := textlen_le c (by omega)
  have x3 := listlen_le ds (by omega)
  have x4 := listlen_le ss (by omega)
  obtain ⟨X, eX⟩ : ∃ X, X = bs (Pk.text (tl n)) := ⟨_, rfl⟩
  obtain ⟨Y, eY⟩ : ∃ X, X = bs (Pk.text (tl c)) := ⟨_, rfl⟩
  obtain ⟨U, eU⟩ : ∃ X, X = bs (Pk.list (ds.map tl)) := ⟨_, rfl⟩
  obtain ⟨V, eV⟩ : ∃ X, X = bs (Pk.list (ss.map tl)) := ⟨_, rfl⟩
  rw [← eX, ← eY, ← eU, ← eV] at FB
  rw [← eX] at x1
  rw [← eY] at x2
  rw [← eU] at x3
  rw [← eV] at x4
  have TP : Hid (∀ W, Tab W → Calls Tryz.prog 34 #[.string n] W fun e w' => e = .returned (.string X) ∧ Below W.heap.size W w') := Lib.hid (by rw [eX]; exact fun W h => text_any n (by omega) W h)
  have TD : Hid (∀ W, Tab W → Calls Tryz.prog 34 #[.string c] W fun e w' => e = .returned (.string Y) ∧ Below W.heap.size W w') := Lib.hid (by rw [eY]; exact fun W h => text_any c (by omega) W h)
  obtain ⟨W1, eW⟩ : ∃ W1, W1 = w.alloc (.cells #[.string n, .string c, .slice Ad ds.length cd, .slice As ss.length cs] 61) := ⟨_, rfl⟩
  have hb0 : Below w.heap.size w W1 := by rw [eW]; exact (Below.refl _ _).alloc (Nat.le_refl _) _
  have hblk : W1.heap[w.heap.size]? = some (.cells #[.string n, .string c, .slice Ad ds.length cd, .slice As ss.length cs] 61 (0, 0)) := by rw [eW]; exact heap_alloc_new w _
  have hT1 := ht.on hb0
  have hlt := lt_heap hblk
  have hd1 : Strs W1 W1.heap.size Ad ds := (hd.below hb0).more hb0.size
  have hs1 : Strs W1 W1.heap.size As ss := (hs.below hb0).more hb0.size
  have LD : Hid (∀ W, Below W1.heap.size W1 W → Calls Tryz.prog 36 #[.slice Ad ds.length cd] W fun e w' => e = .returned (.string U) ∧ Below W.heap.size W w') := Lib.hid (by rw [eU]; exact fun W h => plist_any Ad ds cd W (hT1.on h) ((hd1.below h).more h.size) (by omega))
  have LS : Hid (∀ W, Below W1.heap.size W1 W → Calls Tryz.prog 36 #[.slice As ss.length cs] W fun e w' => e = .returned (.string V) ∧ Below W.heap.size W w') := Lib.hid (by rw [eV]; exact fun W h => plist_any As ss cs W (hT1.on h) ((hs1.below h).more h.size) (by omega))
  have c0 : ∀ w', Below W1.heap.size W1 w' → w'.cell? ⟨w.heap.size, 0, none⟩ = some (.string n) := fun w' h => (cell_heap (heap_below h hlt hblk) 0).trans rfl
  have c1 : ∀ w', Below W1.heap.size W1 w' → w'.cell? ⟨w.heap.size, 1, none⟩ = some (.string c) := fun w' h => (cell_heap (heap_below h hlt hblk) 1).trans rfl
  have c2 : ∀ w', Below W1.heap.size W1 w' → w'.cell? ⟨w.heap.size, 2, none⟩ = some (.slice Ad ds.length cd) := fun w' h => (cell_heap (heap_below h hlt hblk) 2).trans rfl
  have c3 : ∀ w', Below W1.heap.size W1 w' → w'.cell? ⟨w.heap.size, 3, none⟩ = some (.slice As ss.length cs) := fun w' h => (cell_heap (heap_below h hlt hblk) 3).trans rfl
  have hXY : X.size + Y.size ≤ 9223372036854775807 := by omega
  have hXYU : (X ++ Y).size + U.size ≤ 9223372036854775807 := by rw [ByteArray.size_append]; omega
  have hXYU2 : X.size + Y.size + U.size ≤ 9223372036854775807 := by omega
  have hXYUV2 : X.size + Y.size + U.size + V.size ≤ 9223372036854775807 := by omega
  have hXYUV : (X ++ Y ++ U).size + V.size ≤ 9223372036854775807 := by rw [ByteArray.size_append, ByteArray.size_append]; omega
  clear eX eY eU eV hd hs hd1 hs1 x1 x2 x3 x4
  go_enter Tryz.func86, Tryz.ntmps86
  go_wp2_with (fail)
  rw [← eW]
  clear eW
  refine wp_region_cls (C := fun w' => Below W1.heap.size W1 w') (by kernel_rfl) (by kernel_rfl) (Below.refl _ _).drew ?_
  repeat (quiet_step (first | (intro _; rfl) | (intro _; rw [if_neg (by omega)]; exact ⟨rfl, rfl⟩) | (intro hss; (first | rw [c0 _ hss] | rw [c1 _ hss] | rw [c2 _ hss] | rw [c3 _ hss]); exact ⟨rfl, rfl⟩) | (intro hss; go_at_call 34; first | ((with_reducible refine (TP.out _ (hT1.on hss)).mono ?_); rintro e w' ⟨rfl, hb'⟩; exact ⟨rfl, hss.trans (hb'.mono hss.size)⟩) | ((with_reducible refine (TD.out _ (hT1.on hss)).mono ?_); rintro e w' ⟨rfl, hb'⟩; exact ⟨rfl, hss.trans (hb'.mono hss.size)⟩)) | (intro hss; go_at_call 36; first | ((with_reducible refine (LD.out _ hss).mono ?_); rintro e w' ⟨rfl, hb'⟩; exact ⟨rfl, hss.trans (hb'.mono hss.size)⟩) | ((with_reducible refine (LS.out _ hss).mono ?_); rintro e w' ⟨rfl, hb'⟩; exact ⟨rfl, hss.trans (hb'.mono hss.size)⟩))))
  refine wpQuiet_nil ?_
  intro w2 hb2
  go_wp2
  go_ret
  exact ⟨ret_str FB.out, hb0.trans (hb2.mono hb0.size)⟩
end Go.Proofs.YtcpkhaebcmgehaaGreatDoor
/- The contracts of keys.Graph and keys.Files: the laws of their loops. -/
namespace Go.Proofs.YtcpkhaebcmgehaaGreatDoor
open Go.RowKit
set_option linter.unusedVariables false
set_option maxRecDepth 100000
/-- one element behind a row of the call's own -/
theorem append_one {P : Program} {ops : Array Oper} {rest : List Oper} {o : Oper} {a : Act} {Q : Exit → Act → World → Prop} {wr w0 : World} (hgd : o.guard = none) (s x : Operand) (t : TypeId)
    (ho : o.op = .call { callee := .builtin .append, args := #[s, x], argTypes := #[t, t] }) (B : Nat) (e : TypeId) (z : Value) (by_ : Nat) (ht : P.underlying t = some (.slice e))
    (hi : (P.info? e).map (fun i => (i.zero, i.size, i.bytes)) = some (some z, 1, by_)) (hz : z.cells.size = 1) (hby : by_ ≤ 1000)
    (v : Value) (n : Nat) (xs : List Value) (hs : a.eval s = v) (hown : wr.ownsRow B e 1 v n xs)
    (u : Value) (hu : u.oneCell' = true) (hx : a.eval x = .slice (some ⟨wr.heap.size, 0, none⟩) 1 1) (hn : n + 1 ≤ 1000000000)
    (hB : B ≤ wr.heap.size) (hb : Below B w0 wr)
    (h : ∀ v' w', w'.ownsRow B e 1 v' (n + 1) (xs ++ [u]) → Below B w0 w' → (∀ k, k < wr.heap.size → some k ≠ v.ownBlock → w'.heap[k]? = wr.heap[k]?) → wpList P ops Q rest (a.put o.dst v') w') :
    wpList P ops Q (o :: rest) a (wr.alloc (.cells #[u] e)) := by
  obtain ⟨i0, hi0, hz0, hz1, hz2⟩ := info_parts hi
  have hmul : (n + 1) * by_ ≤ 1000000000 * 1000 := Nat.mul_le_mul hn hby
  refine wpList_append_own _ hgd s x t ho B e i0 z 1 by_ ht hi0 hz0 hz1 hz2 hz (by decide) v n xs hs (hown.alloc _) ⟨wr.heap.size, 0, none⟩ 1 1 [u] hx rfl ?_ ?_ ?_ (by omega) (by simp; omega) ?_
  · intro j y hy
    rw [Addr.add_mid, Nat.zero_add, cell_heap (heap_alloc_new wr _)]
    simpa using hy
  · intro y hy; simp at hy; subst hy; exact hu
  · unfold maxLen; omega
  · intro v' w' h1 h2 _
    refine h v' w' h1 ?_ ?_
    · exact (hb.alloc hB _).grown h2 (by simp; omega) (fun k hk => (hown.lt k hk).1)
    · intro k hk hne
      rw [h2.block k (by simp; omega) hne, Below.heap_alloc _ _ _ hk]

def Tg.b (t : Tg) : List UInt8 := targetB (tl t.n) (tl t.c) (t.ds.map tl) (t.ss.map tl)
/-- a target that is not too great -/
structure Tg.Ok (t : Tg) : Prop where
  n : t.n.size ≤ 100
  c : t.c.size ≤ 2000
  dl : t.ds.length ≤ 20
  sl : t.ss.length ≤ 40
  d : ∀ x ∈ t.ds, x.size ≤ 100
  s : ∀ x ∈ t.ss, x.size ≤ 100
theorem flat_le (l : List ByteArray) (m : Nat) (hm : m ≤ 1000000) (h : ∀ x ∈ l, x.size ≤ m) : ((l.map tl).flatMap Pk.text).length ≤ l.length * (m + 21) := by
  induction l with
  | nil => simp
  | cons x l ih =>
    have h1 := h x (List.mem_cons_self ..)
    have h2 := ih (fun y hy => h y (List.mem_cons_of_mem _ hy))
    have h3 := textlen_le x (by omega)
    rw [bs_size] at h3
    simp only [List.map_cons, List.flatMap_cons, List.length_append, List.length_cons]
    have : (l.length + 1) * (m + 21) = l.length * (m + 21) + (m + 21) := Nat.succ_mul _ _
    omega
theorem Tg.Ok.ds_le {t : Tg} (h : t.Ok) : ((t.ds.map tl).flatMap Pk.text).length ≤ 2420 := by
  have h1 := flat_le t.ds 100 (by omega) h.d
  have h2 : t.ds.length * (100 + 21) ≤ 20 * (100 + 21) := Nat.mul_le_mul_right _ h.dl
  omega
theorem Tg.Ok.ss_le {t : Tg} (h : t.Ok) : ((t.ss.map tl).flatMap Pk.text).length ≤ 4840 := by
  have h1 := flat_le t.ss 100 (by omega) h.s
  have h2 : t.ss.length * (100 + 21) ≤ 40 * (100 + 21) := Nat.mul_le_mul_right _ h.sl
  omega
theorem Tg.Ok.b_le {t : Tg} (h : t.Ok) : (bs t.b).size ≤ 10000 := by
  rw [bs_size]
  have h1 := textlen_le t.n (by have := h.n; omega)
  have h2 := textlen_le t.c (by have := h.c; omega)
  have h3 := listlen_le t.ds (by have := h.ds_le; omega)
  have h4 := listlen_le t.ss (by have := h.ss_le; omega)
  rw [bs_size] at h1 h2 h3 h4
  have := h.n; have := h.c; have := h.ds_le; have := h.ss_le
  simp only [Tg.b, targetB, List.length_append]
  omega
/-- a target's four cells at an address -/
def TgAt (w : World) (B : Nat) (ad : Addr) (t : Tg) : Prop := ∃ Ad cd As cs, w.cell? ad = some (.string t.n) ∧ w.cell? (ad.add 1) = some (.string t.c) ∧ w.cell? (ad.add 2) = some (.slice Ad t.ds.length cd) ∧ w.cell? (ad.add 3) = some (.slice As t.ss.length cs) ∧ Strs w B Ad t.ds ∧ Strs w B As t.ss
def Tgs (w : World) (B : Nat) (A : Option Addr) (l : List Tg) : Prop := 0 < l.length → ∃ ad, A = some ad ∧ ad.block < B ∧ ∀ k (h : k < l.length), TgAt w B (ad.add (k * 4)) l[k]
theorem TgAt.keep {w w' : World} {B : Nat} {ad : Addr} {t : Tg} (hB : ad.block < B) (h : TgAt w B ad t) (hb : Below B w w') : TgAt w' B ad t := by
  obtain ⟨Ad, cd, As, cs, h0, h1, h2, h3, h4, h5⟩ := h
  have hk : ∀ j, w'.cell? (ad.add j) = w.cell? (ad.add j) := fun j => hb.cell (by rw [block_of_add]; exact hB)
  exact ⟨Ad, cd, As, cs, (hb.cell hB).trans h0, (hk 1).trans h1, (hk 2).trans h2, (hk 3).trans h3, h4.below hb, h5.below hb⟩
theorem Tgs.below {w w' : World} {B : Nat} {A : Option Addr} {l : List Tg} (h : Tgs w B A l) (hb : Below B w w') : Tgs w' B A l := fun hl => by
  obtain ⟨ad, e, h1, h2⟩ := h hl
  exact ⟨ad, e, h1, fun k hk => (h2 k hk).keep (by rw [block_of_add]; exact h1) hb⟩

theorem str_info : (Tryz.prog.info? 9).map (fun i => (i.zero, i.size, i.bytes)) = some (some (.string .empty), 1, 16) := by kernel_rfl

theorem flat_mem {l : List (List UInt8)} {t : List UInt8} (h : t ∈ l) : t.length < (l.flatMap Pk.text).length := by
  induction l with
  | nil => cases h
  | cons a l ih =>
    rw [List.flatMap_cons, List.length_append]
    rcases List.mem_cons.1 h with rfl | h
    · simp [Pk.text]; omega
    · have := ih h; omega
theorem flat_count (l : List (List UInt8)) : l.length ≤ (l.flatMap Pk.text).length := by
  induction l with
  | nil => simp
  | cons a l ih =>
    have h1 := text_len a
    have h2 : 1 ≤ (Pk.text a).length := by simp [Pk.text]; omega
    rw [List.flatMap_cons, List.length_append, List.length_cons]
    omega
/-- a target's parts are no longer than its bytes -/
theorem Tg.parts (t : Tg) : t.n.size ≤ t.b.length ∧ t.c.size ≤ t.b.length ∧ ((t.ds.map tl).flatMap Pk.text).length ≤ t.b.length ∧ ((t.ss.map tl).flatMap Pk.text).length ≤ t.b.length := by
  have h1 := text_len (tl t.n)
  have h2 := text_len (tl t.c)
  have h3 := text_len ((t.ds.map tl).flatMap Pk.text)
  have h4 := text_len ((t.ss.map tl).flatMap Pk.text)
  have e1 : t.n.size = (tl t.n).length := Lib.size_eq _
  have e2 : t.c.size = (tl t.c).length := Lib.size_eq _
  simp only [Tg.b, targetB, Pk.list, List.length_append]
  omega
theorem Tg.flat_ok {l : List Tg} (hl : l.length ≤ 20) (hok : ∀ t ∈ l, t.Ok) : ((l.map Tg.b).flatMap Pk.text).length ≤ 200420 := by
  have h1 := flat_le (l.map fun t => bs t.b) 10000 (by omega) (fun x hx => by
    obtain ⟨t, h1, rfl⟩ := List.mem_map.1 hx
    exact (hok t h1).b_le)
  have h2 : (l.map fun t => bs t.b).length * (10000 + 21) ≤ 20 * (10000 + 21) := Nat.mul_le_mul_right _ (by simpa using hl)
  rw [show ((l.map fun t => bs t.b).map tl) = l.map Tg.b by rw [List.map_map]; rfl] at h1
  omega
set_option maxHeartbeats 2000000 in
theorem listedT_any (A : Option Addr) (l : List Tg) (c : Nat) (hsz : ((l.map Tg.b).flatMap Pk.text).length ≤ 100000000) (w : World) (ht : Tab w) (hr : Tgs w w.heap.size A l) :
    Calls Tryz.prog 85 #[.slice A l.length c, .func (.func 86) #[] #[]] w fun e w' => e = .returned (.string (bs (Pk.list (l.map Tg.b)))) ∧ Below w.heap.size w w' := by
  have hl : l.length ≤ 100000000 := by have := flat_count (l.map Tg.b); rw [List.length_map] at this; omega
  have HS := Lib.hid hsz
  clear hsz
  go_enter Tryz.func85, Tryz.ntmps85
  go_wp2_with (fail)
  go_loopw [5, 10] (fun v i wx => ∃ k : Nat, i = .int .i64 k ∧ k ≤ l.length ∧ wx.ownsRow w.heap.size 9 1 v k ((l.take k).map fun t => Value.string (bs t.b)) ∧ Below w.heap.size w wx) (fun _ i _ => l.length - (intOf i).toNat)
  case atStart => exact ⟨0, rfl, by omega, by simpa using World.ownsRow_nil _ _ _ _, Below.refl _ _⟩
  case round =>
    obtain ⟨k, rfl, hk, hown, hbx⟩ := hrel
    rename World => wx
    by_cases hlt : k < l.length
    · obtain ⟨ad, rfl, had, hcs⟩ := hr.below hbx (by omega)
      obtain ⟨Ad, cd, As, cs, c0, c1, c2, c3, hd, hs⟩ := hcs k hlt
      have hkI : (k : Int) < (l.length : Int) := by omega
      have e1 : wx.cell? ⟨(ad.add (k * 4)).block, (ad.add (k * 4)).off + 1, none⟩ = some (.string l[k].c) := c1
      have e2 : wx.cell? ⟨(ad.add (k * 4)).block, (ad.add (k * 4)).off + 2, none⟩ = some (.slice Ad l[k].ds.length cd) := c2
      have e3 : wx.cell? ⟨(ad.add (k * 4)).block, (ad.add (k * 4)).off + 3, none⟩ = some (.slice As l[k].ss.length cs) := c3
      clear c1 c2 c3
      have hbx1 : ∀ o, Below w.heap.size w (wx.alloc o) := fun o => hbx.alloc hbx.size o
      have hT := fun o => ht.on (hbx1 o)
      have hbt := flat_mem (List.mem_map.2 ⟨l[k], List.getElem_mem hlt, rfl⟩ : l[k].b ∈ l.map Tg.b)
      have hpp := l[k].parts
      have hsz := HS.out
      have FN := fun (o : Obj) => targetfn_any l[k].n l[k].c l[k].ds l[k].ss Ad As cd cs (by omega) (by omega) (by omega) (by omega) (wx.alloc o) (hT o) ((hd.below ((Below.refl _ _).alloc hbx.size o)).more (hbx1 o).size) ((hs.below ((Below.refl _ _).alloc hbx.size o)).more (hbx1 o).size)
      have FNH := Lib.hid FN
      have TK : Hid (((l.take (k + 1)).map fun t => Value.string (bs t.b)) = ((l.take k).map fun t => Value.string (bs t.b)) ++ [.string (bs l[k].b)]) := Lib.hid (by rw [List.take_succ_eq_append_getElem hlt, List.map_append]; rfl)
      clear FN hd hs hbt hpp hsz hT hcs
      generalize l[k] = t at *
      have hbl : Hid (targetB (tl t.n) (tl t.c) (t.ds.map tl) (t.ss.map tl) = t.b) := Lib.hid rfl
      have hk9 : k + 1 ≤ 1000000000 := by omega
      go_wp2_with (first | (go_at_call 86; ((with_reducible refine (FNH.out _).mono ?_); rintro e w1 ⟨rfl, hb1⟩; have hbx2 := (hbx1 _).trans (hb1.mono (hbx1 _).size); have hown1 := own_later (hown.alloc _) hb1; have hB := hbx2.size; clear hown)) | (at_builtin; refine append_one rfl (.tmp 14) (.tmp 18) 23 rfl w.heap.size 9 _ 16 Tryz.underlying23 str_info rfl (by decide) _ k _ rfl hown1 (.string (bs (targetB (tl t.n) (tl t.c) (t.ds.map tl) (t.ss.map tl)))) rfl rfl hk9 hB hbx2 ?_; intro v' w2 hown2 hb2 _))
      go_roundw
      case rel =>
        refine ⟨k + 1, by go_num, by omega, ?_, hb2⟩
        rw [TK.out, ← hbl.out]
        exact hown2
      case measure => simp [intOf]; omega
    · obtain rfl : k = l.length := by omega
      rw [List.take_length] at hown
      obtain ⟨p, m, c', rfl⟩ := own_form hown
      have hm : m = l.length := by
        rcases hown.2 with ⟨h1, h2⟩ | ⟨g, cap, cur, h1, _⟩
        · injection h1; omega
        · injection h1
      subst hm
      have hst : Strs wx wx.heap.size p (l.map fun t => bs t.b) := by
        have := Reads.of_own hown
        unfold Strs
        rw [List.length_map, List.map_map]
        exact this
      have hfl : (((l.map fun t => bs t.b).map tl).flatMap Pk.text).length ≤ 500000000 := by
        rw [show ((l.map fun t => bs t.b).map tl) = l.map Tg.b by rw [List.map_map]; rfl]
        have := HS.out
        omega
      have LC := plist_any p (l.map fun t => bs t.b) c' wx (ht.on hbx) hst hfl
      rw [List.length_map, show ((l.map fun t => bs t.b).map tl) = l.map Tg.b by rw [List.map_map]; rfl] at LC
      have LCH := Lib.hid LC
      clear LC hst hfl hown
      go_wp2_with (go_at_call 36; ((with_reducible refine (LCH.out).mono ?_); rintro e w1 ⟨rfl, hb1⟩))
      go_ret
      exact ⟨rfl, hbx.trans (hb1.mono hbx.size)⟩
theorem kgraph_sz (A : Option Addr) (l : List Tg) (c : Nat) (hsz : ((l.map Tg.b).flatMap Pk.text).length ≤ 100000000) (w : World) (ht : Tab w) (hr : Tgs w w.heap.size A l) :
    Calls Tryz.prog 44 #[.slice A l.length c] w fun e w' => e = .returned (.string (bs (Pk.list (l.map Tg.b)))) ∧ Below w.heap.size w w' := by
  have LC := Lib.hid (listedT_any A l c hsz w ht hr)
  go_enter Tryz.func44, Tryz.ntmps44
  go_wp2_with (go_at_call 85; ((with_reducible refine (LC.out).mono ?_); rintro e w1 ⟨rfl, hb1⟩))
  go_ret
  exact ⟨rfl, hb1⟩
theorem kgraph_any (A : Option Addr) (l : List Tg) (c : Nat) (hl : l.length ≤ 20) (hok : ∀ t ∈ l, t.Ok) (w : World) (ht : Tab w) (hr : Tgs w w.heap.size A l) :
    Calls Tryz.prog 44 #[.slice A l.length c] w fun e w' => e = .returned (.string (bs (Pk.list (l.map Tg.b)))) ∧ Below w.heap.size w w' :=
  kgraph_sz A l c (by have := Tg.flat_ok hl hok; omega) w ht hr
end Go.Proofs.YtcpkhaebcmgehaaGreatDoor
/- The contract of keys.Files. -/
namespace Go.Proofs.YtcpkhaebcmgehaaGreatDoor
open Go.RowKit
set_option linter.unusedVariables false
set_option maxRecDepth 100000
def Fl.b (f : Fl) : List UInt8 := fileB (tl f.p) (tl f.d)
structure Fl.Ok (f : Fl) : Prop where
  p : f.p.size ≤ 200
  d : f.d.size ≤ 3000
structure Fl.Ok60 (f : Fl) : Prop where
  p : f.p.size ≤ 60
  d : f.d.size ≤ 3000
theorem Fl.Ok60.ok {f : Fl} (h : f.Ok60) : f.Ok := ⟨by have := h.p; omega, h.d⟩
theorem Fl.Ok.b_le {f : Fl} (h : f.Ok) : (bs f.b).size ≤ 4000 := by
  rw [bs_size]
  have h1 := textlen_le f.p (by have := h.p; omega)
  have h2 := textlen_le f.d (by have := h.d; omega)
  rw [bs_size] at h1 h2
  have := h.p; have := h.d
  simp only [Fl.b, fileB, List.length_append]
  omega
def FlAt (w : World) (ad : Addr) (f : Fl) : Prop := w.cell? ad = some (.string f.p) ∧ w.cell? (ad.add 1) = some (.string f.d)
def Fls (w : World) (B : Nat) (A : Option Addr) (l : List Fl) : Prop := 0 < l.length → ∃ ad, A = some ad ∧ ad.block < B ∧ ∀ k (h : k < l.length), FlAt w (ad.add (k * 2)) l[k]
theorem Fls.below {w w' : World} {B : Nat} {A : Option Addr} {l : List Fl} (h : Fls w B A l) (hb : Below B w w') : Fls w' B A l := fun hl => by
  obtain ⟨ad, e, h1, h2⟩ := h hl
  refine ⟨ad, e, h1, fun k hk => ?_⟩
  obtain ⟨c0, c1⟩ := h2 k hk
  have h3 : (ad.add (k * 2)).block < B := by rw [block_of_add]; exact h1
  exact ⟨(hb.cell h3).trans c0, (hb.cell (by rw [block_of_add]; exact h3)).trans c1⟩
theorem Fls.more {w : World} {B B' : Nat} {A : Option Addr} {l : List Fl} (h : Fls w B A l) (hB : B ≤ B') : Fls w B' A l := fun hl => by
  obtain ⟨ad, e, h1, h2⟩ := h hl
  exact ⟨ad, e, by omega, h2⟩

theorem Fl.parts (f : Fl) : f.p.size ≤ f.b.length ∧ f.d.size ≤ f.b.length := by
  have h1 := text_len (tl f.p)
  have h2 := text_len (tl f.d)
  have e1 : f.p.size = (tl f.p).length := Lib.size_eq _
  have e2 : f.d.size = (tl f.d).length := Lib.size_eq _
  simp only [Fl.b, fileB, List.length_append]
  omega
theorem Fl.flat_ok {l : List Fl} (hl : l.length ≤ 60) (hok : ∀ t ∈ l, t.Ok) : ((l.map Fl.b).flatMap Pk.text).length ≤ 241260 := by
  have h1 := flat_le (l.map fun t => bs t.b) 4000 (by omega) (fun x hx => by
    obtain ⟨t, h1, rfl⟩ := List.mem_map.1 hx
    exact (hok t h1).b_le)
  have h2 : (l.map fun t => bs t.b).length * (4000 + 21) ≤ 60 * (4000 + 21) := Nat.mul_le_mul_right _ (by simpa using hl)
  rw [show ((l.map fun t => bs t.b).map tl) = l.map Fl.b by rw [List.map_map]; rfl] at h1
  omega
set_option maxHeartbeats 2000000 in
theorem listedF_any (A : Option Addr) (l : List Fl) (c : Nat) (hsz : ((l.map Fl.b).flatMap Pk.text).length ≤ 100000000) (w : World) (ht : Tab w) (hr : Fls w w.heap.size A l) :
    Calls Tryz.prog 87 #[.slice A l.length c, .func (.func 88) #[] #[]] w fun e w' => e = .returned (.string (bs (Pk.list (l.map Fl.b)))) ∧ Below w.heap.size w w' := by
  have hl : l.length ≤ 100000000 := by have := flat_count (l.map Fl.b); rw [List.length_map] at this; omega
  have HS := Lib.hid hsz
  clear hsz
  go_enter Tryz.func87, Tryz.ntmps87
  go_wp2_with (fail)
  go_loopw [5, 10] (fun v i wx => ∃ k : Nat, i = .int .i64 k ∧ k ≤ l.length ∧ wx.ownsRow w.heap.size 9 1 v k ((l.take k).map fun t => Value.string (bs t.b)) ∧ Below w.heap.size w wx) (fun _ i _ => l.length - (intOf i).toNat)
  case atStart => exact ⟨0, rfl, by omega, by simpa using World.ownsRow_nil _ _ _ _, Below.refl _ _⟩
  case round =>
    obtain ⟨k, rfl, hk, hown, hbx⟩ := hrel
    rename World => wx
    by_cases hlt : k < l.length
    · obtain ⟨ad, rfl, had, hcs⟩ := hr.below hbx (by omega)
      obtain ⟨c0, c1⟩ := hcs k hlt
      have hkI : (k : Int) < (l.length : Int) := by omega
      have e1 : wx.cell? ⟨(ad.add (k * 2)).block, (ad.add (k * 2)).off + 1, none⟩ = some (.string l[k].d) := c1
      clear c1
      have hbx1 : ∀ o, Below w.heap.size w (wx.alloc o) := fun o => hbx.alloc hbx.size o
      have hT := fun o => ht.on (hbx1 o)
      have hbt := flat_mem (List.mem_map.2 ⟨l[k], List.getElem_mem hlt, rfl⟩ : l[k].b ∈ l.map Fl.b)
      have hpp := l[k].parts
      have hsz := HS.out
      have FN := fun (o : Obj) => filefn_any l[k].p l[k].d (by omega) (by omega) (wx.alloc o) (hT o)
      have FNH := Lib.hid FN
      have TK : Hid (((l.take (k + 1)).map fun t => Value.string (bs t.b)) = ((l.take k).map fun t => Value.string (bs t.b)) ++ [.string (bs l[k].b)]) := Lib.hid (by rw [List.take_succ_eq_append_getElem hlt, List.map_append]; rfl)
      clear FN hbt hpp hsz hT hcs
      generalize l[k] = t at *
      have hbl : Hid (fileB (tl t.p) (tl t.d) = t.b) := Lib.hid rfl
      have hk9 : k + 1 ≤ 1000000000 := by omega
      go_wp2_with (first | (go_at_call 88; ((with_reducible refine (FNH.out _).mono ?_); rintro e w1 ⟨rfl, hb1⟩; have hbx2 := (hbx1 _).trans (hb1.mono (hbx1 _).size); have hown1 := own_later (hown.alloc _) hb1; have hB := hbx2.size; clear hown)) | (at_builtin; refine append_one rfl (.tmp 14) (.tmp 18) 23 rfl w.heap.size 9 _ 16 Tryz.underlying23 str_info rfl (by decide) _ k _ rfl hown1 (.string (bs (fileB (tl t.p) (tl t.d)))) rfl rfl hk9 hB hbx2 ?_; intro v' w2 hown2 hb2 _))
      go_roundw
      case rel =>
        refine ⟨k + 1, by go_num, by omega, ?_, hb2⟩
        rw [TK.out, ← hbl.out]
        exact hown2
      case measure => simp [intOf]; omega
    · obtain rfl : k = l.length := by omega
      rw [List.take_length] at hown
      obtain ⟨p, m, c', rfl⟩ := own_form hown
      have hm : m = l.length := by
        rcases hown.2 with ⟨h1, h2⟩ | ⟨g, cap, cur, h1, _⟩
        · injection h1; omega
        · injection h1
      subst hm
      have hst : Strs wx wx.heap.size p (l.map fun t => bs t.b) := by
        have := Reads.of_own hown
        unfold Strs
        rw [List.length_map, List.map_map]
        exact this
      have hfl : (((l.map fun t => bs t.b).map tl).flatMap Pk.text).length ≤ 500000000 := by
        rw [show ((l.map fun t => bs t.b).map tl) = l.map Fl.b by rw [List.map_map]; rfl]
        have := HS.out
        omega
      have LC := plist_any p (l.map fun t => bs t.b) c' wx (ht.on hbx) hst hfl
      rw [List.length_map, show ((l.map fun t => bs t.b).map tl) = l.map Fl.b by rw [List.map_map]; rfl] at LC
      have LCH := Lib.hid LC
      clear LC hst hfl hown
      go_wp2_with (go_at_call 36; ((with_reducible refine (LCH.out).mono ?_); rintro e w1 ⟨rfl, hb1⟩))
      go_ret
      exact ⟨rfl, hbx.trans (hb1.mono hbx.size)⟩
theorem kfiles_sz (A : Option Addr) (l : List Fl) (c : Nat) (hsz : ((l.map Fl.b).flatMap Pk.text).length ≤ 100000000) (w : World) (ht : Tab w) (hr : Fls w w.heap.size A l) :
    Calls Tryz.prog 45 #[.slice A l.length c] w fun e w' => e = .returned (.string (bs (Pk.list (l.map Fl.b)))) ∧ Below w.heap.size w w' := by
  have LC := Lib.hid (listedF_any A l c hsz w ht hr)
  go_enter Tryz.func45, Tryz.ntmps45
  go_wp2_with (go_at_call 87; ((with_reducible refine (LC.out).mono ?_); rintro e w1 ⟨rfl, hb1⟩))
  go_ret
  exact ⟨rfl, hb1⟩
theorem kfiles_any (A : Option Addr) (l : List Fl) (c : Nat) (hl : l.length ≤ 60) (hok : ∀ t ∈ l, t.Ok) (w : World) (ht : Tab w) (hr : Fls w w.heap.size A l) :
    Calls Tryz.prog 45 #[.slice A l.length c] w fun e w' => e = .returned (.string (bs (Pk.list (l.map Fl.b)))) ∧ Below w.heap.size w w' :=
  kfiles_sz A l c (by have := Fl.flat_ok hl hok; omega) w ht hr
end Go.Proofs.YtcpkhaebcmgehaaGreatDoor
/- What targets and files fit in; rows of them read within more blocks. -/
namespace Go.Proofs.YtcpkhaebcmgehaaGreatDoor
open Go.RowKit
set_option linter.unusedVariables false
set_option maxRecDepth 100000
def Tg.Fit (t : Tg) : Prop := t.n.size ≤ maxLen ∧ t.c.size ≤ maxLen ∧ t.ds.length ≤ maxLen ∧ t.ss.length ≤ maxLen
def Fl.Fit (f : Fl) : Prop := f.p.size ≤ maxLen ∧ f.d.size ≤ maxLen
theorem Tgs.more {w : World} {B B' : Nat} {A : Option Addr} {l : List Tg} (h : Tgs w B A l) (hB : B ≤ B') : Tgs w B' A l := fun hl => by
  obtain ⟨ad, e, h1, h2⟩ := h hl
  refine ⟨ad, e, by omega, fun k hk => ?_⟩
  obtain ⟨Ad, cd, As, cs, c0, c1, c2, c3, c4, c5⟩ := h2 k hk
  exact ⟨Ad, cd, As, cs, c0, c1, c2, c3, c4.more hB, c5.more hB⟩
theorem Fls.none_ (w : World) (B : Nat) (A : Option Addr) : Fls w B A [] := fun h => absurd h (by simp)
theorem Tgs.none_ (w : World) (B : Nat) (A : Option Addr) : Tgs w B A [] := fun h => absurd h (by simp)
theorem mem_upto {α : Type} {l : List α} {Q : α → Prop} {k : Nat} (hk : k < l.length) (h : ∀ j (hj : j < l.length), j < k → Q l[j]) (h1 : Q l[k]) : ∀ j (hj : j < l.length), j < k + 1 → Q l[j] := by
  intro j hj hlt
  rcases Nat.lt_or_ge j k with h2 | h2
  · exact h j hj h2
  · obtain rfl : j = k := by omega
    exact h1
theorem mem_all {α : Type} {l : List α} {Q : α → Prop} (h : ∀ j (hj : j < l.length), j < l.length → Q l[j]) : ∀ x ∈ l, Q x := by
  intro x hx
  obtain ⟨j, hj, rfl⟩ := List.mem_iff_getElem.1 hx
  exact h j hj hj
end Go.Proofs.YtcpkhaebcmgehaaGreatDoor
/- The contracts of pack's length and next. -/
namespace Go.Proofs.YtcpkhaebcmgehaaGreatDoor
open Go.RowKit
set_option linter.unusedVariables false
set_option maxRecDepth 100000
def lenV : Nat ⊕ (Nat × List UInt8) → Value
  | .inl c => .tuple #[.int .i64 0, .string ⟨#[]⟩, .int .i64 c]
  | .inr (n, r) => .tuple #[.int .i64 n, .string (bs r), .int .i64 0]
theorem kd_le (s : List UInt8) : Pk.kd s ≤ s.length ∧ Pk.kd s ≤ 7 := by
  have := (List.takeWhile_prefix (p := Pk.isDig) (l := s.take 7)).length_le
  unfold Pk.kd
  simp at this ⊢
  omega
theorem takeWhile_at {p : UInt8 → Bool} : ∀ (l : List UInt8) (j : Nat), j < (l.takeWhile p).length → ∃ c, l[j]? = some c ∧ p c = true
  | [], j, h => by simp at h
  | a :: l, j, h => by
    rw [List.takeWhile_cons] at h
    by_cases ha : p a = true
    · rw [if_pos ha] at h
      cases j with
      | zero => exact ⟨a, rfl, ha⟩
      | succ j => exact takeWhile_at l j (by simpa using h)
    · rw [if_neg ha] at h; simp at h
theorem takeWhile_end {p : UInt8 → Bool} : ∀ (l : List UInt8) (c : UInt8), l[(l.takeWhile p).length]? = some c → p c = false
  | [], c, h => by simp at h
  | a :: l, c, h => by
    rw [List.takeWhile_cons] at h
    by_cases ha : p a = true
    · rw [if_pos ha] at h
      exact takeWhile_end l c (by simpa using h)
    · rw [if_neg ha] at h
      simp at h
      subst h
      simpa using ha
theorem kd_dig {s : List UInt8} {j : Nat} (h : j < Pk.kd s) : ∃ c, s[j]? = some c ∧ 48 ≤ c.toNat ∧ c.toNat ≤ 57 := by
  obtain ⟨c, hc, hp⟩ := takeWhile_at (s.take 7) j h
  rw [List.getElem?_take] at hc
  split at hc
  · exact ⟨c, hc, by simpa [Pk.isDig] using hp⟩
  · cases hc
theorem kd_end {s : List UInt8} (h : Pk.kd s < s.length) : Pk.kd s = 7 ∨ ∃ c, s[Pk.kd s]? = some c ∧ ¬ (48 ≤ c.toNat ∧ c.toNat ≤ 57) := by
  have h7 := (kd_le s).2
  rcases Nat.lt_or_ge (Pk.kd s) 7 with h1 | h1
  · refine .inr ⟨s[Pk.kd s], List.getElem?_eq_getElem h, ?_⟩
    have := takeWhile_end (p := Pk.isDig) (s.take 7) s[Pk.kd s] (by
      rw [List.getElem?_take, if_pos (by unfold Pk.kd at h1; exact h1)]
      exact List.getElem?_eq_getElem h)
    simpa [Pk.isDig] using this
  · exact .inl (by omega)
theorem decFrom_digs : ∀ (l : List UInt8) (acc : Nat), (∀ c ∈ l, 48 ≤ c.toNat ∧ c.toNat ≤ 57) → Lib.decFrom acc l = some (l.foldl (fun n c => 10 * n + (c.toNat - 48)) acc)
  | [], acc, _ => rfl
  | a :: l, acc, h => by
    have ha := h a (List.mem_cons_self ..)
    have h1 : Lib.digitVal a = some (a.toNat - 48) := by simp [Lib.digitVal, ha]
    simp only [Lib.decFrom, h1, List.foldl_cons]
    rw [show acc * 10 + (a.toNat - 48) = 10 * acc + (a.toNat - 48) by omega]
    exact decFrom_digs l _ (fun c hc => h c (List.mem_cons_of_mem _ hc))
theorem atoi_digs (l : List UInt8) (h0 : l ≠ []) (h : ∀ c ∈ l, 48 ≤ c.toNat ∧ c.toNat ≤ 57) : Lib.atoi l = some (Pk.dval l : Int) := by
  cases l with
  | nil => exact absurd rfl h0
  | cons a l =>
    have ha := h a (List.mem_cons_self ..)
    have n1 : (a == 45) = false := by simp; intro e; subst e; simp at ha
    have n2 : (a == 43) = false := by simp; intro e; subst e; simp at ha
    simp only [Lib.atoi, n1, n2, Bool.false_eq_true, if_false, Lib.decNat, decFrom_digs _ _ h]
    rfl
theorem ret_val {a b : Value} (h : b = a) : Ending.returned a = .returned b := by rw [h]
theorem dval_go : ∀ (l : List UInt8) (a : Nat), (∀ c ∈ l, 48 ≤ c.toNat ∧ c.toNat ≤ 57) → l.foldl (fun n c => 10 * n + (c.toNat - 48)) a < (a + 1) * 10 ^ l.length
  | [], a, _ => by simp
  | x :: l, a, h => by
    have hx := h x (List.mem_cons_self ..)
    have := dval_go l (10 * a + (x.toNat - 48)) (fun c hc => h c (List.mem_cons_of_mem _ hc))
    simp only [List.foldl_cons, List.length_cons]
    refine Nat.lt_of_lt_of_le this ?_
    rw [Nat.pow_succ, Nat.mul_comm (10 ^ l.length) 10, ← Nat.mul_assoc]
    exact Nat.mul_le_mul_right _ (by omega)
theorem dval_lt (l : List UInt8) (h : ∀ c ∈ l, 48 ≤ c.toNat ∧ c.toNat ≤ 57) (h7 : l.length ≤ 7) : Pk.dval l < 100000000 := by
  have h1 := dval_go l 0 h
  have h2 : 10 ^ l.length ≤ 10 ^ 7 := Nat.pow_le_pow_right (by omega) h7
  unfold Pk.dval
  omega
theorem byte_at {s : ByteArray} {k : Nat} {c : UInt8} (h : (tl s)[k]? = some c) : ∃ hk : k < s.size, s[k]'hk = c := by
  obtain ⟨h1, h2⟩ := List.getElem?_eq_some_iff.1 h
  exact ⟨by rw [Lib.size_eq]; exact h1, h2⟩
theorem getD_byte {s : ByteArray} {k : Nat} (hk : k < s.size) : (tl s).getD k 0 = s[k]'hk := by
  rw [List.getD_eq_getElem?_getD, List.getElem?_eq_getElem (by rw [← Lib.size_eq]; exact hk)]
  rfl
/-- how the loop over the digits ends -/
theorem length_end {s : ByteArray} (h : Pk.kd (tl s) < s.size) : Pk.kd (tl s) = 7 ∨ (Pk.kd (tl s) < 7 ∧ (s[Pk.kd (tl s)]'h).toNat < 48) ∨ (Pk.kd (tl s) < 7 ∧ 57 < (s[Pk.kd (tl s)]'h).toNat) := by
  have h7 := (kd_le (tl s)).2
  rcases Nat.lt_or_ge (Pk.kd (tl s)) 7 with hl | hl
  · rcases kd_end (s := tl s) (by rw [← Lib.size_eq]; exact h) with h1 | ⟨c, h1, h2⟩
    · exact .inl h1
    · obtain ⟨_, h3⟩ := byte_at h1
      rw [h3]
      omega
  · exact .inl (by omega)
set_option maxHeartbeats 4000000 in
theorem length_any (s : ByteArray) (hs : s.size ≤ 1000000000) (w : World) :
    Calls Tryz.prog 164 #[.string s] w fun e w' => e = .returned (lenV (Pk.len (tl s))) ∧ Below w.heap.size w w' := by
  have hsz : (tl s).length = s.size := (Lib.size_eq s).symm
  have hK := kd_le (tl s)
  have DG : Hid (∀ j, j < Pk.kd (tl s) → ∃ hk : j < s.size, 48 ≤ (s[j]'hk).toNat ∧ (s[j]'hk).toNat ≤ 57) := Lib.hid (fun j hj => by
    obtain ⟨c, h1, h2, h3⟩ := kd_dig hj
    obtain ⟨hk, e⟩ := byte_at h1
    exact ⟨hk, by rw [e]; exact h2, by rw [e]; exact h3⟩)
  have EN := Lib.hid (length_end (s := s))
  have LN : Hid (∀ V, lenV (Pk.len (tl s)) = V → lenV (Pk.len (tl s)) = V) := Lib.hid (fun _ h => h)
  obtain ⟨K, eK⟩ : ∃ K, K = Pk.kd (tl s) := ⟨_, rfl⟩
  have EK := Lib.hid eK
  rw [← eK] at hK DG EN
  have HSZ := Lib.hid hsz
  have hK1 : K ≤ s.size := by omega
  have hK7 : K ≤ 7 := hK.2
  clear hK eK hsz
  go_enter Tryz.func164, Tryz.ntmps164
  go_wp2_with (fail)
  go_loop [5] (fun i => ∃ k : Nat, i = .int .i64 k ∧ k ≤ K) (fun i => K - (intOf i).toNat)
  case atStart => exact ⟨0, rfl, by omega⟩
  case round =>
    obtain ⟨k, rfl, hk⟩ := hrel
    by_cases hlt : k < K
    · obtain ⟨hks, d1, d2⟩ := DG.out k hlt
      have e1 : (k : Int) < (s.size : Int) := by omega
      have e2 : (k : Int) < 7 := by omega
      have e3 : (48 : Int) ≤ (s[k].toNat : Int) := by omega
      have e4 : (s[k].toNat : Int) ≤ 57 := by omega
      go_wp2_with (fail)
      go_round
      case rel => exact ⟨k + 1, by go_num, by omega⟩
      case measure => simp [intOf]; omega
    · obtain rfl : k = K := by omega
      have DD : Hid (∀ c ∈ (tl s).take k, 48 ≤ c.toNat ∧ c.toNat ≤ 57) := Lib.hid (fun c hc => by
        obtain ⟨j, hj, rfl⟩ := List.mem_iff_getElem.1 hc
        rw [List.length_take] at hj
        obtain ⟨hk, h1, h2⟩ := DG.out j (by omega)
        rw [List.getElem_take]
        exact ⟨h1, h2⟩)
      clear DG hlt hk
      rcases Nat.lt_or_ge k s.size with hks | hks
      · have e1 : (k : Int) < (s.size : Int) := by omega
        have n1 : ((k : Int) == (s.size : Int)) = false := by simp; omega
        have hend := EN.out hks
        have OUT : Hid ((s[k].toNat ≠ 58 ∨ k = 0 ∨ (1 < k ∧ (tl s).getD 0 0 = 48)) ∧ lenV (Pk.len (tl s)) = .tuple #[.int .i64 0, .string ⟨#[]⟩, .int .i64 11] ∨ ¬ (s[k].toNat ≠ 58 ∨ k = 0 ∨ (1 < k ∧ (tl s).getD 0 0 = 48)) ∧ lenV (Pk.len (tl s)) = .tuple #[.int .i64 (Pk.dval ((tl s).take k)), .string (bs ((tl s).drop (k + 1))), .int .i64 0]) := Lib.hid (by
          have hg : (tl s).getD k 0 = s[k] := getD_byte hks
          unfold Pk.len
          rw [← EK.out]
          simp only
          rw [if_neg (by rw [HSZ.out]; omega), hg]
          have hn : (s[k] ≠ 58) ↔ (s[k].toNat ≠ 58) := by rw [ne_eq, ne_eq, ← UInt8.toNat_inj]; rfl
          by_cases hc : s[k].toNat ≠ 58 ∨ k = 0 ∨ (1 < k ∧ (tl s).getD 0 0 = 48)
          · exact .inl ⟨hc, by rw [if_pos (by rw [hn]; exact hc)]; rfl⟩
          · exact .inr ⟨hc, by rw [if_neg (by rw [hn]; exact hc)]; rfl⟩)
        clear EK LN
        have AT : Hid (0 < k → ∀ W, Calls Tryz.prog 195 #[.string (s.extract 0 k)] W fun e w' => e = .returned (.tuple #[.int .i64 (Pk.dval ((tl s).take k)), .nilIface]) ∧ Below W.heap.size W w') := Lib.hid (fun h0 W => by
          have hx : (s.extract 0 k).data.toList = (tl s).take k := by rw [Lib.extract_data]; simp
          have hz : (s.extract 0 k).size = k := by rw [ByteArray.size_extract]; omega
          refine (Tryz.strconv_Atoi (s.extract 0 k) _ (by omega) (by rw [hx]; exact atoi_digs _ (by intro h; have := congrArg List.length h; rw [List.length_take] at this; simp only [List.length_nil] at this; have := HSZ.out; omega) DD.out) W).mono ?_
          rintro e w' ⟨h1, t, h2⟩
          exact ⟨h1, by rw [h2]; exact Lib.bytesWorld_below _ _ _⟩)
        have HV2 : Hid (lenV (Pk.len (tl s)) = .tuple #[.int .i64 (Pk.dval ((tl s).take k)), .string (bs ((tl s).drop (k + 1))), .int .i64 0] → lenV (Pk.len (tl s)) = .tuple #[.int .i64 (Pk.dval ((tl s).take k)), .string (s.extract (k + 1) s.size), .int .i64 0]) := Lib.hid (fun h => by
          rw [h, show bs ((tl s).drop (k + 1)) = s.extract (k + 1) s.size by rw [← bs_of (s.extract (k + 1) s.size), Lib.extract_to_end]])
        have hdv : Pk.dval ((tl s).take k) < 100000000 := dval_lt _ DD.out (by rw [List.length_take]; omega)
        clear EN DD
        generalize Pk.dval ((tl s).take k) = nv at *
        rcases hend with h7 | ⟨hl7, h8⟩ | ⟨hl7, h9⟩
        · have e2 : ¬ (k : Int) < 7 := by omega
          have h7' : 7 ≤ k := by omega
          clear h7
          by_cases g58 : s[k].toNat = 58
          · have a5 : (s[k].toNat : Int) = 58 := by omega
            have a6 : ((k : Int) == 0) = false := by simp; omega
            by_cases g1 : 1 < k
            · have s0 : 0 < s.size := by omega
              have a9 : (1 : Int) < (k : Int) := by omega
              by_cases gz : s[0].toNat = 48
              · have hV := OUT.out.resolve_right (fun h => h.1 (.inr (.inr ⟨g1, by rw [getD_byte s0]; exact UInt8.toNat_inj.1 gz⟩))) |>.2
                have a10 : ((s[0].toNat : Int) == 48) = true := by simp; omega
                have HV := Lib.hid hV
                clear OUT AT HV2 hV
                try clear g58
                try clear g0
                try clear gz
                go_wp2_with (fail)
                go_ret3
                exact ⟨ret_val HV.out, Below.refl _ _⟩
              · have HW := Lib.hid <| HV2.out (OUT.out.resolve_left (fun h => by
                  rcases h.1 with h | h | h
                  · exact h g58
                  · omega
                  · rw [getD_byte s0] at h; exact gz (by rw [h.2]; rfl))).2
                have a10 : ((s[0].toNat : Int) == 48) = false := by simp; omega
                have a7 : (k : Int) ≤ (s.size : Int) := by omega
                have a8 : (k : Int) + 1 ≤ (s.size : Int) := by omega
                have AT1 := Lib.hid (AT.out (by omega))
                clear OUT AT HV2
                try clear g58
                try clear gz
                go_wp2_with (go_at_call 195; ((with_reducible refine (AT1.out _).mono ?_); rintro e w1 ⟨rfl, hb1⟩))
                go_quiet (fail)
                go_wp2
                go_ret3
                exact ⟨ret_val HW.out, hb1.trans (belowDN (Below.refl _ _) _)⟩
            · omega
          · have hV := OUT.out.resolve_right (fun h => h.1 (.inl g58)) |>.2
            have a5 : (s[k].toNat : Int) ≠ 58 := by omega
            have HV := Lib.hid hV
            clear OUT AT HV2 hV
            try clear g58
            try clear g0
            try clear gz
            go_wp2_with (fail)
            go_ret3
            exact ⟨ret_val HV.out, Below.refl _ _⟩
        · have e2 : (k : Int) < 7 := by omega
          have e3 : ¬ (48 : Int) ≤ (s[k].toNat : Int) := by omega
          by_cases g58 : s[k].toNat = 58
          · omega
          · have hV := OUT.out.resolve_right (fun h => h.1 (.inl g58)) |>.2
            have a5 : (s[k].toNat : Int) ≠ 58 := by omega
            have HV := Lib.hid hV
            clear OUT AT HV2 hV
            try clear g58
            try clear g0
            try clear gz
            go_wp2_with (fail)
            go_ret3
            exact ⟨ret_val HV.out, Below.refl _ _⟩
        · have e2 : (k : Int) < 7 := by omega
          have e3 : ¬ (s[k].toNat : Int) ≤ 57 := by omega
          have e4 : (48 : Int) ≤ (s[k].toNat : Int) := by omega
          by_cases g58 : s[k].toNat = 58
          · have a5 : (s[k].toNat : Int) = 58 := by omega
            by_cases g0 : k = 0
            · have hV := OUT.out.resolve_right (fun h => h.1 (.inr (.inl g0))) |>.2
              have a6 : ((k : Int) == 0) = true := by simp; omega
              have HV := Lib.hid hV
              clear OUT AT HV2 hV
              try clear g58
              try clear g0
              try clear gz
              go_wp2_with (fail)
              go_ret3
              exact ⟨ret_val HV.out, Below.refl _ _⟩
            · have a6 : ((k : Int) == 0) = false := by simp; omega
              by_cases g1 : 1 < k
              · have s0 : 0 < s.size := by omega
                have a9 : (1 : Int) < (k : Int) := by omega
                by_cases gz : s[0].toNat = 48
                · have hV := OUT.out.resolve_right (fun h => h.1 (.inr (.inr ⟨g1, by rw [getD_byte s0]; exact UInt8.toNat_inj.1 gz⟩))) |>.2
                  have a10 : ((s[0].toNat : Int) == 48) = true := by simp; omega
                  have HV := Lib.hid hV
                  clear OUT AT HV2 hV
                  try clear g58
                  try clear g0
                  try clear gz
                  go_wp2_with (fail)
                  go_ret3
                  exact ⟨ret_val HV.out, Below.refl _ _⟩
                · have HW := Lib.hid <| HV2.out (OUT.out.resolve_left (fun h => by
                    rcases h.1 with h | h | h
                    · exact h g58
                    · omega
                    · rw [getD_byte s0] at h; exact gz (by rw [h.2]; rfl))).2
                  have a10 : ((s[0].toNat : Int) == 48) = false := by simp; omega
                  have a7 : (k : Int) ≤ (s.size : Int) := by omega
                  have a8 : (k : Int) + 1 ≤ (s.size : Int) := by omega
                  have AT1 := Lib.hid (AT.out (by omega))
                  clear OUT AT HV2
                  try clear g58
                  try clear gz
                  go_wp2_with (go_at_call 195; ((with_reducible refine (AT1.out _).mono ?_); rintro e w1 ⟨rfl, hb1⟩))
                  go_quiet (fail)
                  go_wp2
                  go_ret3
                  exact ⟨ret_val HW.out, hb1.trans (belowDN (Below.refl _ _) _)⟩
              · have HW := Lib.hid <| HV2.out (OUT.out.resolve_left (fun h => by
                  rcases h.1 with h | h | h
                  · exact h g58
                  · omega
                  · omega)).2
                have a9 : ¬ (1 : Int) < (k : Int) := by omega
                have a7 : (k : Int) ≤ (s.size : Int) := by omega
                have a8 : (k : Int) + 1 ≤ (s.size : Int) := by omega
                have AT1 := Lib.hid (AT.out (by omega))
                clear OUT AT HV2
                try clear g58
                try clear gz
                go_wp2_with (go_at_call 195; ((with_reducible refine (AT1.out _).mono ?_); rintro e w1 ⟨rfl, hb1⟩))
                go_quiet (fail)
                go_wp2
                go_ret3
                exact ⟨ret_val HW.out, hb1.trans (belowDN (Below.refl _ _) _)⟩
          · have hV := OUT.out.resolve_right (fun h => h.1 (.inl g58)) |>.2
            have a5 : (s[k].toNat : Int) ≠ 58 := by omega
            have HV := Lib.hid hV
            clear OUT AT HV2 hV
            try clear g58
            try clear g0
            try clear gz
            go_wp2_with (fail)
            go_ret3
            exact ⟨ret_val HV.out, Below.refl _ _⟩
      · obtain rfl : k = s.size := by omega
        have hV : lenV (Pk.len (tl s)) = .tuple #[.int .i64 0, .string ⟨#[]⟩, .int .i64 10] := by
          unfold Pk.len
          rw [← EK.out]
          simp only
          rw [if_pos HSZ.out.symm]
          rfl
        have HV := Lib.hid hV
        clear hV
        clear EK LN EN
        go_wp2_with (fail)
        go_ret3
        exact ⟨ret_val HV.out, Below.refl _ _⟩
end Go.Proofs.YtcpkhaebcmgehaaGreatDoor
