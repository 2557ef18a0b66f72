/- Joined by mkmerged.py: KgFn2, KaNum, Rk. -/
import Derived.Test.YtmlaolmaopjhbaaGreatDoorMi15
import Derived.IntWalk
import Derived.Test.YtmlaolmaopjhbaaGreatDoorRows
import Derived.WalkKit
import Derived.ProofKit
import Derived.OpenShut
import Derived.ShutString
import Derived.Below
import Derived.ChangeSame
import Derived.Deep.Slices
import Derived.Deep.Fields
import Derived.ReadAgain
import Derived.ChangeBears
import Derived.SliceStrings
import Derived.ChangeMaps5
/- KgFn2, what a claim needs of it (prune.py). -/
namespace Go.Proofs.YtmlaolmaopjhbaaGreatDoor
open Go.RowKit
set_option linter.unusedVariables false
set_option maxRecDepth 100000
set_option maxHeartbeats 1000000 in
theorem filefn_any (p d : ByteArray) (hp : p.size ≤ 100000000) (hd : d.size ≤ 100000000) (w : World) (ht : Tab w) :
    Calls Tryz.prog 230 #[.agg #[.string p, .string d]] w fun e w' => e = .returned (.string (bs (fileB (tl p) (tl d)))) ∧ Below w.heap.size w w' := by
  have FB : Hid (bs (Pk.text (tl p)) ++ bs (Pk.text (tl d)) = bs (fileB (tl p) (tl d))) := Lib.hid (bs_append _ _)
  obtain ⟨X, eX⟩ : ∃ X, X = bs (Pk.text (tl p)) := ⟨_, rfl⟩
  obtain ⟨Y, eY⟩ : ∃ X, X = bs (Pk.text (tl d)) := ⟨_, rfl⟩
  have TP : Hid (∀ W, Tab W → Calls Tryz.prog 87 #[.string p] W fun e w' => e = .returned (.string X) ∧ Below W.heap.size W w') := Lib.hid (by rw [eX]; exact fun W h => text_any p (by omega) W h)
  have TD : Hid (∀ W, Tab W → Calls Tryz.prog 87 #[.string d] W fun e w' => e = .returned (.string Y) ∧ Below W.heap.size W w') := Lib.hid (by rw [eY]; exact fun W h => text_any d (by omega) W h)
  have tlen : ∀ s : ByteArray, s.size ≤ 100000000 → (bs (Pk.text (tl s))).size ≤ 200000000 := fun s hs => by
    rw [bs_size]
    have h2 : (tl s).length = s.size := (Lib.size_eq s).symm
    have h1 := dec_len (n := (tl s).length) (by omega)
    simp only [Pk.text, List.length_append, List.length_cons, List.length_nil]
    omega
  have x1 := tlen p hp
  have x2 := tlen d hd
  rw [← eX, ← eY] at FB
  rw [← eX] at x1
  rw [← eY] at x2
  clear eX eY tlen
  have hXY : X.size + Y.size ≤ 9223372036854775807 := by omega
  obtain ⟨W1, eW⟩ : ∃ W1, W1 = w.alloc (.cells #[.string p, .string d] 131) := ⟨_, rfl⟩
  have hb0 : Below w.heap.size w W1 := by rw [eW]; exact (Below.refl _ _).alloc (Nat.le_refl _) _
  have hblk : W1.heap[w.heap.size]? = some (.cells #[.string p, .string d] 131 (0, 0)) := by rw [eW]; exact heap_alloc_new w _
  have hT1 := ht.on hb0
  have hlt := lt_heap hblk
  have c0 : ∀ w', Below W1.heap.size W1 w' → w'.cell? ⟨w.heap.size, 0, none⟩ = some (.string p) := fun w' h => (cell_heap (heap_below h hlt hblk) 0).trans rfl
  have c1 : ∀ w', Below W1.heap.size W1 w' → w'.cell? ⟨w.heap.size, 1, none⟩ = some (.string d) := fun w' h => (cell_heap (heap_below h hlt hblk) 1).trans rfl
  go_enter Tryz.func230, Tryz.ntmps230
  go_wp2_with (fail)
  rw [← eW]
  clear eW
  refine wp_region_cls (C := fun w' => Below W1.heap.size W1 w') (by kernel_rfl) (by kernel_rfl) (Below.refl _ _).drew ?_
  repeat (quiet_step (first | (intro _; rfl) | (intro _; rw [if_neg (by omega)]; exact ⟨rfl, rfl⟩) | (intro hss; rw [c0 _ hss]; exact ⟨rfl, rfl⟩) | (intro hss; rw [c1 _ hss]; exact ⟨rfl, rfl⟩) | (intro hss; go_at_call 87; first | ((with_reducible refine (TP.out _ (hT1.on hss)).mono ?_); rintro e w' ⟨rfl, hb'⟩; exact ⟨rfl, hss.trans (hb'.mono hss.size)⟩) | ((with_reducible refine (TD.out _ (hT1.on hss)).mono ?_); rintro e w' ⟨rfl, hb'⟩; exact ⟨rfl, hss.trans (hb'.mono hss.size)⟩))))
  refine wpQuiet_nil ?_
  intro w2 hb2
  go_wp2
  go_ret
  exact ⟨ret_str FB.out, hb0.trans (hb2.mono hb0.size)⟩
set_option maxHeartbeats 2000000 in
theorem targetfn_any (n c : ByteArray) (ds ss : List ByteArray) (Ad As : Option Addr) (cd cs : Nat) (hn : n.size ≤ 100000000) (hc : c.size ≤ 100000000) (hds : ((ds.map tl).flatMap Pk.text).length ≤ 100000000) (hss : ((ss.map tl).flatMap Pk.text).length ≤ 100000000)
    (w : World) (ht : Tab w) (hd : Strs w w.heap.size Ad ds) (hs : Strs w w.heap.size As ss) :
    Calls Tryz.prog 151 #[.agg #[.string n, .string c, .slice Ad ds.length cd, .slice As ss.length cs]] w fun e w' => e = .returned (.string (bs (targetB (tl n) (tl c) (ds.map tl) (ss.map tl)))) ∧ Below w.heap.size w w' := by
  have FB := Lib.hid (targetB_eq (tl n) (tl c) (ds.map tl) (ss.map tl))
  have x1 := textlen_le n (by omega)
  have x2 := textlen_le c (by omega)
  have x3 := listlen_le ds (by omega)
  have x4 := listlen_le ss (by omega)
  obtain ⟨X, eX⟩ : ∃ X, X = bs (Pk.text (tl n)) := ⟨_, rfl⟩
  obtain ⟨Y, eY⟩ : ∃ X, X = bs (Pk.text (tl c)) := ⟨_, rfl⟩
  obtain ⟨U, eU⟩ : ∃ X, X = bs (Pk.list (ds.map tl)) := ⟨_, rfl⟩
  obtain ⟨V, eV⟩ : ∃ X, X = bs (Pk.list (ss.map tl)) := ⟨_, rfl⟩
  rw [← eX, ← eY, ← eU, ← eV] at FB
  rw [← eX] at x1
  rw [← eY] at x2
  rw [← eU] at x3
  rw [← eV] at x4
  have TP : Hid (∀ W, Tab W → Calls Tryz.prog 87 #[.string n] W fun e w' => e = .returned (.string X) ∧ Below W.heap.size W w') := Lib.hid (by rw [eX]; exact fun W h => text_any n (by omega) W h)
  have TD : Hid (∀ W, Tab W → Calls Tryz.prog 87 #[.string c] W fun e w' => e = .returned (.string Y) ∧ Below W.heap.size W w') := Lib.hid (by rw [eY]; exact fun W h => text_any c (by omega) W h)
  obtain ⟨W1, eW⟩ : ∃ W1, W1 = w.alloc (.cells #[.string n, .string c, .slice Ad ds.length cd, .slice As ss.length cs] 154) := ⟨_, rfl⟩
  have hb0 : Below w.heap.size w W1 := by rw [eW]; exact (Below.refl _ _).alloc (Nat.le_refl _) _
  have hblk : W1.heap[w.heap.size]? = some (.cells #[.string n, .string c, .slice Ad ds.length cd, .slice As ss.length cs] 154 (0, 0)) := by rw [eW]; exact heap_alloc_new w _
  have hT1 := ht.on hb0
  have hlt := lt_heap hblk
  have hd1 : Strs W1 W1.heap.size Ad ds := (hd.below hb0).more hb0.size
  have hs1 : Strs W1 W1.heap.size As ss := (hs.below hb0).more hb0.size
  have LD : Hid (∀ W, Below W1.heap.size W1 W → Calls Tryz.prog 97 #[.slice Ad ds.length cd] W fun e w' => e = .returned (.string U) ∧ Below W.heap.size W w') := Lib.hid (by rw [eU]; exact fun W h => plist_any Ad ds cd W (hT1.on h) ((hd1.below h).more h.size) (by omega))
  have LS : Hid (∀ W, Below W1.heap.size W1 W → Calls Tryz.prog 97 #[.slice As ss.length cs] W fun e w' => e = .returned (.string V) ∧ Below W.heap.size W w') := Lib.hid (by rw [eV]; exact fun W h => plist_any As ss cs W (hT1.on h) ((hs1.below h).more h.size) (by omega))
  have c0 : ∀ w', Below W1.heap.size W1 w' → w'.cell? ⟨w.heap.size, 0, none⟩ = some (.string n) := fun w' h => (cell_heap (heap_below h hlt hblk) 0).trans rfl
  have c1 : ∀ w', Below W1.heap.size W1 w' → w'.cell? ⟨w.heap.size, 1, none⟩ = some (.string c) := fun w' h => (cell_heap (heap_below h hlt hblk) 1).trans rfl
  have c2 : ∀ w', Below W1.heap.size W1 w' → w'.cell? ⟨w.heap.size, 2, none⟩ = some (.slice Ad ds.length cd) := fun w' h => (cell_heap (heap_below h hlt hblk) 2).trans rfl
  have c3 : ∀ w', Below W1.heap.size W1 w' → w'.cell? ⟨w.heap.size, 3, none⟩ = some (.slice As ss.length cs) := fun w' h => (cell_heap (heap_below h hlt hblk) 3).trans rfl
  have hXY : X.size + Y.size ≤ 9223372036854775807 := by omega
  have hXYU : (X ++ Y).size + U.size ≤ 9223372036854775807 := by rw [ByteArray.size_append]; omega
  have hXYU2 : X.size + Y.size + U.size ≤ 9223372036854775807 := by omega
  have hXYUV2 : X.size + Y.size + U.size + V.size ≤ 9223372036854775807 := by omega
  have hXYUV : (X ++ Y ++ U).size + V.size ≤ 9223372036854775807 := by rw [ByteArray.size_append, ByteArray.size_append]; omega
  clear eX eY eU eV hd hs hd1 hs1 x1 x2 x3 x4
  go_enter Tryz.func151, Tryz.ntmps151
  go_wp2_with (fail)
  rw [← eW]
  clear eW
  refine wp_region_cls (C := fun w' => Below W1.heap.size W1 w') (by kernel_rfl) (by kernel_rfl) (Below.refl _ _).drew ?_
  repeat (quiet_step (first | (intro _; rfl) | (intro _; rw [if_neg (by omega)]; exact ⟨rfl, rfl⟩) | (intro hss; (first | rw [c0 _ hss] | rw [c1 _ hss] | rw [c2 _ hss] | rw [c3 _ hss]); exact ⟨rfl, rfl⟩) | (intro hss; go_at_call 87; first | ((with_reducible refine (TP.out _ (hT1.on hss)).mono ?_); rintro e w' ⟨rfl, hb'⟩; exact ⟨rfl, hss.trans (hb'.mono hss.size)⟩) | ((with_reducible refine (TD.out _ (hT1.on hss)).mono ?_); rintro e w' ⟨rfl, hb'⟩; exact ⟨rfl, hss.trans (hb'.mono hss.size)⟩)) | (intro hss; go_at_call 97; first | ((with_reducible refine (LD.out _ hss).mono ?_); rintro e w' ⟨rfl, hb'⟩; exact ⟨rfl, hss.trans (hb'.mono hss.size)⟩) | ((with_reducible refine (LS.out _ hss).mono ?_); rintro e w' ⟨rfl, hb'⟩; exact ⟨rfl, hss.trans (hb'.mono hss.size)⟩))))
  refine wpQuiet_nil ?_
  intro w2 hb2
  go_wp2
  go_ret
  exact ⟨ret_str FB.out, hb0.trans (hb2.mono hb0.size)⟩
set_option maxHeartbeats 2000000 in
theorem listedT_any (A : Option Addr) (l : List Tg) (c : Nat) (hsz : ((l.map Tg.b).flatMap Pk.text).length ≤ 100000000) (w : World) (ht : Tab w) (hr : Tgs w w.heap.size A l) :
    Calls Tryz.prog 150 #[.slice A l.length c, .func (.func 151) #[] #[]] w fun e w' => e = .returned (.string (bs (Pk.list (l.map Tg.b)))) ∧ Below w.heap.size w w' := by
  have hl : l.length ≤ 100000000 := by have := flat_count (l.map Tg.b); rw [List.length_map] at this; omega
  have HS := Lib.hid hsz
  clear hsz
  go_enter Tryz.func150, Tryz.ntmps150
  go_wp2_with (fail)
  go_loopw [5, 10] (fun v i wx => ∃ k : Nat, i = .int .i64 k ∧ k ≤ l.length ∧ wx.ownsRow w.heap.size 9 1 v k ((l.take k).map fun t => Value.string (bs t.b)) ∧ Below w.heap.size w wx) (fun _ i _ => l.length - (intOf i).toNat)
  case atStart => exact ⟨0, rfl, by omega, by simpa using World.ownsRow_nil _ _ _ _, Below.refl _ _⟩
  case round =>
    obtain ⟨k, rfl, hk, hown, hbx⟩ := hrel
    rename World => wx
    by_cases hlt : k < l.length
    · obtain ⟨ad, rfl, had, hcs⟩ := hr.below hbx (by omega)
      obtain ⟨Ad, cd, As, cs, c0, c1, c2, c3, hd, hs⟩ := hcs k hlt
      have hkI : (k : Int) < (l.length : Int) := by omega
      have e1 : wx.cell? ⟨(ad.add (k * 4)).block, (ad.add (k * 4)).off + 1, none⟩ = some (.string l[k].c) := c1
      have e2 : wx.cell? ⟨(ad.add (k * 4)).block, (ad.add (k * 4)).off + 2, none⟩ = some (.slice Ad l[k].ds.length cd) := c2
      have e3 : wx.cell? ⟨(ad.add (k * 4)).block, (ad.add (k * 4)).off + 3, none⟩ = some (.slice As l[k].ss.length cs) := c3
      clear c1 c2 c3
      have hbx1 : ∀ o, Below w.heap.size w (wx.alloc o) := fun o => hbx.alloc hbx.size o
      have hT := fun o => ht.on (hbx1 o)
      have hbt := flat_mem (List.mem_map.2 ⟨l[k], List.getElem_mem hlt, rfl⟩ : l[k].b ∈ l.map Tg.b)
      have hpp := l[k].parts
      have hsz := HS.out
      have FN := fun (o : Obj) => targetfn_any l[k].n l[k].c l[k].ds l[k].ss Ad As cd cs (by omega) (by omega) (by omega) (by omega) (wx.alloc o) (hT o) ((hd.below ((Below.refl _ _).alloc hbx.size o)).more (hbx1 o).size) ((hs.below ((Below.refl _ _).alloc hbx.size o)).more (hbx1 o).size)
      have FNH := Lib.hid FN
      have TK : Hid (((l.take (k + 1)).map fun t => Value.string (bs t.b)) = ((l.take k).map fun t => Value.string (bs t.b)) ++ [.string (bs l[k].b)]) := Lib.hid (by rw [List.take_succ_eq_append_getElem hlt, List.map_append]; rfl)
      clear FN hd hs hbt hpp hsz hT hcs
      generalize l[k] = t at *
      have hbl : Hid (targetB (tl t.n) (tl t.c) (t.ds.map tl) (t.ss.map tl) = t.b) := Lib.hid rfl
      have hk9 : k + 1 ≤ 1000000000 := by omega
      go_wp2_with (first | (go_at_call 151; ((with_reducible refine (FNH.out _).mono ?_); rintro e w1 ⟨rfl, hb1⟩; have hbx2 := (hbx1 _).trans (hb1.mono (hbx1 _).size); have hown1 := own_later (hown.alloc _) hb1; have hB := hbx2.size; clear hown)) | (at_builtin; refine append_one rfl (.tmp 14) (.tmp 18) 65 rfl w.heap.size 9 _ 16 Tryz.underlying65 str_info rfl (by decide) _ k _ rfl hown1 (.string (bs (targetB (tl t.n) (tl t.c) (t.ds.map tl) (t.ss.map tl)))) rfl rfl hk9 hB hbx2 ?_; intro v' w2 hown2 hb2 _))
      go_roundw
      case rel =>
        refine ⟨k + 1, by go_num, by omega, ?_, hb2⟩
        rw [TK.out, ← hbl.out]
        exact hown2
      case measure => simp [intOf]; omega
    · obtain rfl : k = l.length := by omega
      rw [List.take_length] at hown
      obtain ⟨p, m, c', rfl⟩ := own_form hown
      have hm : m = l.length := by
        rcases hown.2 with ⟨h1, h2⟩ | ⟨g, cap, cur, h1, _⟩
        · injection h1; omega
        · injection h1
      subst hm
      have hst : Strs wx wx.heap.size p (l.map fun t => bs t.b) := by
        have := Reads.of_own hown
        unfold Strs
        rw [List.length_map, List.map_map]
        exact this
      have hfl : (((l.map fun t => bs t.b).map tl).flatMap Pk.text).length ≤ 500000000 := by
        rw [show ((l.map fun t => bs t.b).map tl) = l.map Tg.b by rw [List.map_map]; rfl]
        have := HS.out
        omega
      have LC := plist_any p (l.map fun t => bs t.b) c' wx (ht.on hbx) hst hfl
      rw [List.length_map, show ((l.map fun t => bs t.b).map tl) = l.map Tg.b by rw [List.map_map]; rfl] at LC
      have LCH := Lib.hid LC
      clear LC hst hfl hown
      go_wp2_with (go_at_call 97; ((with_reducible refine (LCH.out).mono ?_); rintro e w1 ⟨rfl, hb1⟩))
      go_ret
      exact ⟨rfl, hbx.trans (hb1.mono hbx.size)⟩
theorem kgraph_sz (A : Option Addr) (l : List Tg) (c : Nat) (hsz : ((l.map Tg.b).flatMap Pk.text).length ≤ 100000000) (w : World) (ht : Tab w) (hr : Tgs w w.heap.size A l) :
    Calls Tryz.prog 81 #[.slice A l.length c] w fun e w' => e = .returned (.string (bs (Pk.list (l.map Tg.b)))) ∧ Below w.heap.size w w' := by
  have LC := Lib.hid (listedT_any A l c hsz w ht hr)
  go_enter Tryz.func81, Tryz.ntmps81
  go_wp2_with (go_at_call 150; ((with_reducible refine (LC.out).mono ?_); rintro e w1 ⟨rfl, hb1⟩))
  go_ret
  exact ⟨rfl, hb1⟩
theorem kgraph_any (A : Option Addr) (l : List Tg) (c : Nat) (hl : l.length ≤ 20) (hok : ∀ t ∈ l, t.Ok) (w : World) (ht : Tab w) (hr : Tgs w w.heap.size A l) :
    Calls Tryz.prog 81 #[.slice A l.length c] w fun e w' => e = .returned (.string (bs (Pk.list (l.map Tg.b)))) ∧ Below w.heap.size w w' :=
  kgraph_sz A l c (by have := Tg.flat_ok hl hok; omega) w ht hr
end Go.Proofs.YtmlaolmaopjhbaaGreatDoor
/- KaNum, what a claim needs of it (prune.py). -/
namespace Go.Proofs.YtmlaolmaopjhbaaGreatDoor
open Go.RowKit
set_option linter.unusedVariables false
set_option maxRecDepth 100000
theorem itoa_len (n : Int) (h0 : -9223372036854775808 ≤ n) (h1 : n ≤ 9223372036854775807) : (Lib.itoa n).length ≤ 20 := by
  unfold Lib.itoa
  split
  · have := dec_len (n := n.natAbs) (by omega)
    simp only [List.length_cons]
    first | omega | (simp at this ⊢; omega)
  · have := dec_len (n := n.toNat) (by omega)
    first | omega | (simp at this ⊢; omega)
theorem itoa_int (n : Int) (h0 : -9223372036854775808 ≤ n) (h1 : n ≤ 9223372036854775807) (w : World) (ht : Tab w) :
    Calls Tryz.prog 153 #[.int .i64 n] w fun e w' => e = .returned (.string (bs (Lib.itoa n))) ∧ Below w.heap.size w w' := by
  refine (Tryz.strconv_Itoa n h0 h1 w ht).mono ?_
  rintro e w' ⟨h2, k, os, rfl⟩
  exact ⟨h2, Lib.below_grow _ _ (Nat.le_refl _) _ _⟩
theorem pnum_any (n : Int) (h0 : -9223372036854775808 ≤ n) (h1 : n ≤ 9223372036854775807) (w : World) (ht : Tab w) :
    Calls Tryz.prog 86 #[.int .i64 n] w fun e w' => e = .returned (.string (bs (Pk.text (Lib.itoa n)))) ∧ Below w.heap.size w w' := by
  have hl := itoa_len n h0 h1
  have IT := Lib.hid (itoa_int n h0 h1 w ht)
  have TX : Hid (∀ W, Below w.heap.size w W → Calls Tryz.prog 87 #[.string (bs (Lib.itoa n))] W fun e w' => e = .returned (.string (bs (Pk.text (Lib.itoa n)))) ∧ Below W.heap.size W w') := Lib.hid fun W hW => text_any (bs (Lib.itoa n)) (by rw [bs_size]; omega) W (ht.on hW)
  clear hl
  generalize Pk.text (Lib.itoa n) = t at *
  generalize Lib.itoa n = s at *
  go_enter Tryz.func86, Tryz.ntmps86
  go_wp2_with (first
    | (go_at_call 153; (with_reducible refine (IT.out).mono ?_); rintro e w1 ⟨rfl, hb1⟩)
    | (go_at_call 87; (with_reducible refine (TX.out _ hb1).mono ?_); rintro e w2 ⟨rfl, hb2⟩))
  go_ret
  exact ⟨rfl, hb1.trans (hb2.mono hb1.size)⟩
theorem dec_small {q : Nat} (h : q < 10) : Lib.decDigits q = [UInt8.ofNat (48 + q)] := by rw [Lib.decDigits, dif_pos h]
end Go.Proofs.YtmlaolmaopjhbaaGreatDoor
/- Rk, what a claim needs of it (prune.py). -/
namespace Go.Proofs.YtmlaolmaopjhbaaGreatDoor
open Go.RowKit Go.WideShapes Go.ChangeShapes
section
variable {H : Type} {enc : TypeId × Value → H} {P : Program}
theorem post_of_below {f : Func} {s : ChangeSpec} {apart fresh handsOn again : Bool} {W W' : World} {args : Array Value} {v : Value} {ds gs : List (DataW H)} {before pa pv : List MemPlace}
    (hW : DataW.Whole enc P f.params.toList s.vars apart W args.toList ds gs before)
    (hres : ∀ (b : Nat) (sp : Nat → Bool) (hd : Bool), DataW.TrodAll enc P W' b sp hd f.resultTypes.toList (v.resultList f.resultTypes.size) (s.fn H (ds ++ gs)).results [])
    (hargs : ∀ sp : Nat → Bool, (∀ p ∈ before, sp p.block = true) → DataW.TrodAll enc P W' 0 sp true f.params.toList args.toList (s.fn H (ds ++ gs)).args pa)
    (hvars : ∀ sp : Nat → Bool, (∀ p ∈ before, sp p.block = true) → DataW.TrodVars enc P W' sp s.vars (s.fn H (ds ++ gs)).vars pv)
    (hps : before = pa ++ pv) (hb : Below W.heap.size W W')
    (hok : ∀ (j : Nat) (t : TypeId) (r : Value), f.resultTypes[j]? = some t → (v.resultList f.resultTypes.size)[j]? = some r → Value.okWide P W' .any 0 t r) :
    s.post enc P f apart fresh handsOn again W args v W' := by
  have hlt : ∀ p ∈ before, p.block < W.heap.size := fun p hp => hW.lt p hp
  have hold : ∀ p ∈ before, (fun b => decide (b < W.heap.size)) p.block = true := fun p hp => by simpa using hlt p hp
  refine ⟨ds, gs, before, [], pa, pv, hW, hres _ _ _, hargs _ hold, hvars _ hold, World.keptBut_mono (fun p hp => ⟨hp, ?_⟩) (hb.frame (· ∈ before)), fun _ => ?_⟩
  · rw [hps, List.mem_append] at hp
    exact Or.inr hp
  · obtain ⟨_, _, _, _, _, hz, hn⟩ := hW
    refine ⟨hok, _, _, ([] ++ pa) ++ pv, ⟨[] ++ pa, pv, trodAll_append (hargs _ (fun _ _ => rfl)) (hres _ _ _), hvars _ (fun _ _ => rfl), rfl, ?_, ?_⟩, ?_⟩
    · intro b off hp
      have hin : MemPlace.cell b off ∈ before := by rw [hps]; simpa using hp
      rw [hb.frozen (hlt _ hin)]
      exact hz b off hin
    · intro ha
      have := hn ha
      rw [hps] at this
      simpa using this
    · intro p hp _
      rw [hps]
      simpa using hp
end
end Go.Proofs.YtmlaolmaopjhbaaGreatDoor
namespace Go.Proofs.YtmlaolmaopjhbaaGreatDoor
open Go.ChangeShapes Go.WideShapes Go.Deep Go.RowKit Go.ChangeMaps
set_option linter.unusedVariables false
set_option maxRecDepth 100000
section
variable {H : Type} {enc : TypeId × Value → H} {P : Program} {w : World} {base : Nat} {spare : Nat → Bool} {held : Bool}
end
section
variable {H : Type} {enc : TypeId × Value → H} {W : World}
theorem sameAt_below {W W' : World} (hb : Below W.heap.size W W') (p : MemPlace) (h : p.block < W.heap.size) : W.sameAt W' p := by
  cases p with
  | cell b off => exact hb.cell (p := ⟨b, off, none⟩) h
  | map b => exact hb.block b h
theorem trodAll_carry {P : Program} {w w' : World} {sp : Nat → Bool} : ∀ {ts : List TypeId} {vs : List Value} {ds : List (DataW H)} {ps : List MemPlace}, DataW.TrodAll enc P w 0 sp true ts vs ds ps → (∀ p ∈ ps, w.sameAt w' p) → DataW.TrodAll enc P w' 0 sp true ts vs ds ps
  | [], [], [], _, h, _ => h
  | _ :: _, _ :: _, _ :: _, _, ⟨p, q, ⟨n, h1⟩, h2, e⟩, hs => ⟨p, q, ⟨n, DataW.trod_carry _ _ _ _ h1 (fun x hx => hs x (by rw [e]; exact List.mem_append_left _ hx))⟩, trodAll_carry h2 (fun x hx => hs x (by rw [e]; exact List.mem_append_right _ hx)), e⟩
theorem args_stay {P : Program} {W W' : World} (hl : laidOutB P = true) (hm : mapsRowed P = true) (hf : ((List.range P.types.size).all fun t => match P.underlying t with | some (.slice e) => decide (0 < P.cellsOf e) | _ => true) = true)
    {ts : List TypeId} {vs : List Value} {ds : List (DataW H)} {ps : List MemPlace} (hT : ts.all (fun t => decide (t < P.types.size)) = true) (h : DataW.TrodAll enc P W 0 (fun _ => true) true ts vs ds ps) (hlt : ∀ p ∈ ps, p.block < W.heap.size) (hb : Below W.heap.size W W')
    (sp : Nat → Bool) (hs : ∀ p ∈ ps, sp p.block = true) : DataW.TrodAll enc P W' 0 sp true ts vs ds ps :=
  trodAll_carry (DataW.TrodAll.respare (kids_rows hl hm) (slices_full_of P hf) (fun t ht => of_decide_eq_true (List.all_eq_true.1 hT t ht)) h hs) (fun p hp => sameAt_below hb p (hlt p hp))
end
end Go.Proofs.YtmlaolmaopjhbaaGreatDoor
