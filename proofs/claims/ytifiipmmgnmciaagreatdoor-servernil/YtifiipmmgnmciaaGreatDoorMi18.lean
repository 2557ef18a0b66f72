/- Joined by mkmerged.py: KgFiles2, PkRf, PkRt, KaNum, TgRow, FlRow, KOrd, SvPlan, SvFind, SvOutA. -/
import Derived.Test.YtifiipmmgnmciaaGreatDoorMi17
import Derived.IntWalk
import Derived.Laws.StructEq
import Derived.Test.YtifiipmmgnmciaaGreatDoorMi14
import Derived.Test.YtifiipmmgnmciaaGreatDoorMi16
import Derived.Deep.RegionHeld3
import Derived.StillTailTactics
import Derived.Test.YtifiipmmgnmciaaGreatDoorMi03
import Derived.WalkSpells
/- KgFiles2, what a claim needs of it (prune.py). -/
namespace Go.Proofs.YtifiipmmgnmciaaGreatDoor
open Go.RowKit
set_option linter.unusedVariables false
set_option maxRecDepth 100000
set_option maxHeartbeats 2000000 in
theorem listedF_any (A : Option Addr) (l : List Fl) (c : Nat) (hsz : ((l.map Fl.b).flatMap Pk.text).length ≤ 100000000) (w : World) (ht : Tab w) (hr : Fls w w.heap.size A l) :
    Calls Tryz.prog 291 #[.slice A l.length c, .func (.func 292) #[] #[]] w fun e w' => e = .returned (.string (bs (Pk.list (l.map Fl.b)))) ∧ Below w.heap.size w w' := by
  have hl : l.length ≤ 100000000 := by have := flat_count (l.map Fl.b); rw [List.length_map] at this; omega
  have HS := Lib.hid hsz
  clear hsz
  go_enter Tryz.func291, Tryz.ntmps291
  go_wp2_with (fail)
  go_loopw [5, 10] (fun v i wx => ∃ k : Nat, i = .int .i64 k ∧ k ≤ l.length ∧ wx.ownsRow w.heap.size 9 1 v k ((l.take k).map fun t => Value.string (bs t.b)) ∧ Below w.heap.size w wx) (fun _ i _ => l.length - (intOf i).toNat)
  case atStart => exact ⟨0, rfl, by omega, by simpa using World.ownsRow_nil _ _ _ _, Below.refl _ _⟩
  case round =>
    obtain ⟨k, rfl, hk, hown, hbx⟩ := hrel
    rename World => wx
    by_cases hlt : k < l.length
    · obtain ⟨ad, rfl, had, hcs⟩ := hr.below hbx (by omega)
      obtain ⟨c0, c1⟩ := hcs k hlt
      have hkI : (k : Int) < (l.length : Int) := by omega
      have e1 : wx.cell? ⟨(ad.add (k * 2)).block, (ad.add (k * 2)).off + 1, none⟩ = some (.string l[k].d) := c1
      clear c1
      have hbx1 : ∀ o, Below w.heap.size w (wx.alloc o) := fun o => hbx.alloc hbx.size o
      have hT := fun o => ht.on (hbx1 o)
      have hbt := flat_mem (List.mem_map.2 ⟨l[k], List.getElem_mem hlt, rfl⟩ : l[k].b ∈ l.map Fl.b)
      have hpp := l[k].parts
      have hsz := HS.out
      have FN := fun (o : Obj) => filefn_any l[k].p l[k].d (by omega) (by omega) (wx.alloc o) (hT o)
      have FNH := Lib.hid FN
      have TK : Hid (((l.take (k + 1)).map fun t => Value.string (bs t.b)) = ((l.take k).map fun t => Value.string (bs t.b)) ++ [.string (bs l[k].b)]) := Lib.hid (by rw [List.take_succ_eq_append_getElem hlt, List.map_append]; rfl)
      clear FN hbt hpp hsz hT hcs
      generalize l[k] = t at *
      have hbl : Hid (fileB (tl t.p) (tl t.d) = t.b) := Lib.hid rfl
      have hk9 : k + 1 ≤ 1000000000 := by omega
      go_wp2_with (first | (go_at_call 292; ((with_reducible refine (FNH.out _).mono ?_); rintro e w1 ⟨rfl, hb1⟩; have hbx2 := (hbx1 _).trans (hb1.mono (hbx1 _).size); have hown1 := own_later (hown.alloc _) hb1; have hB := hbx2.size; clear hown)) | (at_builtin; refine append_one rfl (.tmp 14) (.tmp 18) 32 rfl w.heap.size 9 _ 16 Tryz.underlying32 str_info rfl (by decide) _ k _ rfl hown1 (.string (bs (fileB (tl t.p) (tl t.d)))) rfl rfl hk9 hB hbx2 ?_; intro v' w2 hown2 hb2 _))
      go_roundw
      case rel =>
        refine ⟨k + 1, by go_num, by omega, ?_, hb2⟩
        rw [TK.out, ← hbl.out]
        exact hown2
      case measure => simp [intOf]; omega
    · obtain rfl : k = l.length := by omega
      rw [List.take_length] at hown
      obtain ⟨p, m, c', rfl⟩ := own_form hown
      have hm : m = l.length := by
        rcases hown.2 with ⟨h1, h2⟩ | ⟨g, cap, cur, h1, _⟩
        · injection h1; omega
        · injection h1
      subst hm
      have hst : Strs wx wx.heap.size p (l.map fun t => bs t.b) := by
        have := Reads.of_own hown
        unfold Strs
        rw [List.length_map, List.map_map]
        exact this
      have hfl : (((l.map fun t => bs t.b).map tl).flatMap Pk.text).length ≤ 500000000 := by
        rw [show ((l.map fun t => bs t.b).map tl) = l.map Fl.b by rw [List.map_map]; rfl]
        have := HS.out
        omega
      have LC := plist_any p (l.map fun t => bs t.b) c' wx (ht.on hbx) hst hfl
      rw [List.length_map, show ((l.map fun t => bs t.b).map tl) = l.map Fl.b by rw [List.map_map]; rfl] at LC
      have LCH := Lib.hid LC
      clear LC hst hfl hown
      go_wp2_with (go_at_call 117; ((with_reducible refine (LCH.out).mono ?_); rintro e w1 ⟨rfl, hb1⟩))
      go_ret
      exact ⟨rfl, hbx.trans (hb1.mono hbx.size)⟩
theorem kfiles_sz (A : Option Addr) (l : List Fl) (c : Nat) (hsz : ((l.map Fl.b).flatMap Pk.text).length ≤ 100000000) (w : World) (ht : Tab w) (hr : Fls w w.heap.size A l) :
    Calls Tryz.prog 243 #[.slice A l.length c] w fun e w' => e = .returned (.string (bs (Pk.list (l.map Fl.b)))) ∧ Below w.heap.size w w' := by
  have LC := Lib.hid (listedF_any A l c hsz w ht hr)
  go_enter Tryz.func243, Tryz.ntmps243
  go_wp2_with (go_at_call 291; ((with_reducible refine (LC.out).mono ?_); rintro e w1 ⟨rfl, hb1⟩))
  go_ret
  exact ⟨rfl, hb1⟩
theorem kfiles_any (A : Option Addr) (l : List Fl) (c : Nat) (hl : l.length ≤ 60) (hok : ∀ t ∈ l, t.Ok) (w : World) (ht : Tab w) (hr : Fls w w.heap.size A l) :
    Calls Tryz.prog 243 #[.slice A l.length c] w fun e w' => e = .returned (.string (bs (Pk.list (l.map Fl.b)))) ∧ Below w.heap.size w w' :=
  kfiles_sz A l c (by have := Fl.flat_ok hl hok; omega) w ht hr
end Go.Proofs.YtifiipmmgnmciaaGreatDoor
/- PkRf, what a claim needs of it (prune.py). -/
namespace Go.Proofs.YtifiipmmgnmciaaGreatDoor
open Go.RowKit
set_option linter.unusedVariables false
set_option maxRecDepth 100000
def takesF (r : Pk.Rd) : (List UInt8 × List UInt8) × Pk.Rd := ((r.text.1, r.text.2.text.1), r.text.2.text.2)
end Go.Proofs.YtifiipmmgnmciaaGreatDoor
namespace Go.Proofs.YtifiipmmgnmciaaGreatDoor
open Go.RowKit
set_option linter.unusedVariables false
set_option maxRecDepth 100000
end Go.Proofs.YtifiipmmgnmciaaGreatDoor
/- PkRt, what a claim needs of it (prune.py). -/
namespace Go.Proofs.YtifiipmmgnmciaaGreatDoor
open Go.RowKit
set_option linter.unusedVariables false
set_option maxRecDepth 100000
structure TgL where
  n : List UInt8
  c : List UInt8
  ds : List (List UInt8)
  ss : List (List UInt8)
def takesT (r : Pk.Rd) : TgL × Pk.Rd := (⟨r.text.1, r.text.2.text.1, r.text.2.text.2.list.1, r.text.2.text.2.list.2.list.1⟩, r.text.2.text.2.list.2.list.2)
structure TS (w W : World) (b : Nat) (r : Pk.Rd) (c0 c1 : Array Value) : Prop where
  rd : RdAt W b r
  g : w.grownBy W (some b)
  z0 : W.heap[w.heap.size]? = some (.cells c0 122 (0, 0))
  z1 : W.heap[w.heap.size + 1]? = some (.cells c1 122 (0, 0))
namespace TS
variable {w W W' : World} {b : Nat} {r r' : Pk.Rd} {c0 c1 : Array Value}
end TS
end Go.Proofs.YtifiipmmgnmciaaGreatDoor
/- KaNum, what a claim needs of it (prune.py). -/
namespace Go.Proofs.YtifiipmmgnmciaaGreatDoor
open Go.RowKit
set_option linter.unusedVariables false
set_option maxRecDepth 100000
theorem itoa_len (n : Int) (h0 : -9223372036854775808 ≤ n) (h1 : n ≤ 9223372036854775807) : (Lib.itoa n).length ≤ 20 := by
  unfold Lib.itoa
  split
  · have := dec_len (n := n.natAbs) (by omega)
    simp only [List.length_cons]
    first | omega | (simp at this ⊢; omega)
  · have := dec_len (n := n.toNat) (by omega)
    first | omega | (simp at this ⊢; omega)
theorem itoa_int (n : Int) (h0 : -9223372036854775808 ≤ n) (h1 : n ≤ 9223372036854775807) (w : World) (ht : Tab w) :
    Calls Tryz.prog 180 #[.int .i64 n] w fun e w' => e = .returned (.string (bs (Lib.itoa n))) ∧ Below w.heap.size w w' := by
  refine (Tryz.strconv_Itoa n h0 h1 w ht).mono ?_
  rintro e w' ⟨h2, k, os, rfl⟩
  exact ⟨h2, Lib.below_grow _ _ (Nat.le_refl _) _ _⟩
theorem pnum_any (n : Int) (h0 : -9223372036854775808 ≤ n) (h1 : n ≤ 9223372036854775807) (w : World) (ht : Tab w) :
    Calls Tryz.prog 103 #[.int .i64 n] w fun e w' => e = .returned (.string (bs (Pk.text (Lib.itoa n)))) ∧ Below w.heap.size w w' := by
  have hl := itoa_len n h0 h1
  have IT := Lib.hid (itoa_int n h0 h1 w ht)
  have TX : Hid (∀ W, Below w.heap.size w W → Calls Tryz.prog 104 #[.string (bs (Lib.itoa n))] W fun e w' => e = .returned (.string (bs (Pk.text (Lib.itoa n)))) ∧ Below W.heap.size W w') := Lib.hid fun W hW => text_any (bs (Lib.itoa n)) (by rw [bs_size]; omega) W (ht.on hW)
  clear hl
  generalize Pk.text (Lib.itoa n) = t at *
  generalize Lib.itoa n = s at *
  go_enter Tryz.func103, Tryz.ntmps103
  go_wp2_with (first
    | (go_at_call 180; (with_reducible refine (IT.out).mono ?_); rintro e w1 ⟨rfl, hb1⟩)
    | (go_at_call 104; (with_reducible refine (TX.out _ hb1).mono ?_); rintro e w2 ⟨rfl, hb2⟩))
  go_ret
  exact ⟨rfl, hb1.trans (hb2.mono hb1.size)⟩
end Go.Proofs.YtifiipmmgnmciaaGreatDoor
/- TgRow, what a claim needs of it (prune.py). -/
namespace Go.Proofs.YtifiipmmgnmciaaGreatDoor
open Go.RowKit
set_option linter.unusedVariables false
set_option maxRecDepth 100000
def mkTg (t : TgL) : Tg := ⟨bs t.n, bs t.c, t.ds.map bs, t.ss.map bs⟩
end Go.Proofs.YtifiipmmgnmciaaGreatDoor
/- FlRow, what a claim needs of it (prune.py). -/
namespace Go.Proofs.YtifiipmmgnmciaaGreatDoor
open Go.RowKit
set_option linter.unusedVariables false
set_option maxRecDepth 100000
def mkFl (f : List UInt8 × List UInt8) : Fl := ⟨bs f.1, bs f.2⟩
end Go.Proofs.YtifiipmmgnmciaaGreatDoor
/- KOrd, what a claim needs of it (prune.py). -/
namespace Go.Proofs.YtifiipmmgnmciaaGreatDoor
open Go.RowKit
set_option linter.unusedVariables false
set_option maxRecDepth 100000
def orderB (l : List Tg) (fs : List Fl) (g : ByteArray) : ByteArray := bs (Blk.sum (tl (bs (Pk.list (l.map Tg.b)) ++ bs (Pk.list (fs.map Fl.b)) ++ bs (Pk.text (tl g)))))
end Go.Proofs.YtifiipmmgnmciaaGreatDoor
/- SvPlan, what a claim needs of it (prune.py). -/
namespace Go.Proofs.YtifiipmmgnmciaaGreatDoor.Sv
open Go.RowKit Go.Maps
open Dk (Kp)
set_option linter.unusedVariables false
set_option maxRecDepth 100000
abbrev noVal : Array Value := #[.int .i64 0, .string ⟨#[]⟩, .string ⟨#[]⟩, .slice none 0 0, .bool false]
theorem over_no (A : Option Addr) (n c : Nat) (W : World) : Calls Tryz.prog 202 #[.agg #[.int .i64 0, .string ⟨#[]⟩, .string ⟨#[]⟩, .slice A n c, .bool false]] W fun e w' => e = .returned (.bool false) ∧ Below W.heap.size W w' := by
  go_enter Tryz.func202, Tryz.ntmps202
  go_wp2_with (fail)
  go_ret
  exact ⟨rfl, (Below.refl _ _).alloc (Nat.le_refl _) _⟩
theorem results_row1 {P : Program} {fn : Func} {p : Tmp} {ty : TypeId} (h : fn.results = #[.cell p ty]) (tmps : Array Value) (w : World) (g : Nat) (t : TypeId) (cs : Array Value) (fr : Nat × Nat) (d : TypeDesc)
    (hp : tmps.getD p undef = .pointer (some ⟨g, 0, none⟩)) (hg : w.heap[g]? = some (.cells cs t fr))
    (hu : P.underlying ty = some d) (hd : (match d with | .struct _ | .array _ _ => true | _ => false) = true) (hi : (P.info? ty).map (·.size) = some cs.size) :
    (results fn tmps).run P w = .ok (.agg cs) w := by
  have e : (results fn tmps).run P w = ((asAddr (tmps.getD p undef)).run P w).andThen fun a w₁ => (loadVar ty a).run P w₁ := by
    simp only [results, h]
    simp [Sem.run_bind, Result.andThen]
  rw [e, hp]
  simp [asAddr, run_loadVar_row w g t ty cs fr d hg hu hd hi, Result.andThen]
theorem late_any (W : World) : Calls Tryz.prog 204 #[] W fun e w' => e = .returned (.agg #[.int .i64 0, .string ⟨#[]⟩, .string ⟨#[]⟩, .slice none 0 0, .bool true]) ∧ Below W.heap.size W w' := by
  go_enter Tryz.func204, Tryz.ntmps204
  go_wp2_with (fail)
  refine bodyPost_ret_by (results_row1 rfl _ _ W.heap.size _ _ (0, 0) _ rfl (heap_alloc_new W _) rfl rfl (by kernel_rfl)) rfl ?_
  exact ⟨rfl, (Below.refl _ _).alloc (Nat.le_refl _) _⟩
theorem val_facts {V : World} {b : Nat} {T : TypeId} (h : V.heap[b]? = some (.cells noVal T (0, 0))) : V.cell? ⟨b, 0, none⟩ = some (.int .i64 0) ∧ V.frozen? ⟨b, 0, none⟩ = false ∧ V.setCell ⟨b, 0, none⟩ (.int .i64 0) = V ∧ V.cell? ⟨b, 1, none⟩ = some (.string ⟨#[]⟩) ∧ V.frozen? ⟨b, 1, none⟩ = false ∧ V.setCell ⟨b, 1, none⟩ (.string ⟨#[]⟩) = V ∧ V.cell? ⟨b, 2, none⟩ = some (.string ⟨#[]⟩) ∧ V.frozen? ⟨b, 2, none⟩ = false ∧ V.setCell ⟨b, 2, none⟩ (.string ⟨#[]⟩) = V ∧ V.cell? ⟨b, 3, none⟩ = some (.slice none 0 0) ∧ V.frozen? ⟨b, 3, none⟩ = false ∧ V.setCell ⟨b, 3, none⟩ (.slice none 0 0) = V ∧ V.cell? ⟨b, 4, none⟩ = some (.bool false) ∧ V.frozen? ⟨b, 4, none⟩ = false ∧ V.setCell ⟨b, 4, none⟩ (.bool false) = V := ⟨(cell_heap h 0).trans rfl, frozen_heap h 0, set_same h rfl, (cell_heap h 1).trans rfl, frozen_heap h 1, set_same h rfl, (cell_heap h 2).trans rfl, frozen_heap h 2, set_same h rfl, (cell_heap h 3).trans rfl, frozen_heap h 3, set_same h rfl, (cell_heap h 4).trans rfl, frozen_heap h 4, set_same h rfl⟩
theorem sources_none (W : World) (bp : Nat) (n c : ByteArray) (Ad As : Option Addr) (cd cs : Nat) : Calls Tryz.prog 252 #[.pointer (some ⟨bp, 0, none⟩), .agg #[.string n, .string c, .slice Ad 0 cd, .slice As 0 cs]] W fun e w' => e = .returned (.tuple #[.slice none 0 0, .agg noVal]) ∧ Below W.heap.size W w' := by
  obtain ⟨W0, e0⟩ : ∃ W0, W0 = (W.alloc (.cells #[.string n, .string c, .slice Ad 0 cd, .slice As 0 cs] 122)).alloc (.cells noVal 162) := ⟨_, rfl⟩
  have B0 : Below W.heap.size W W0 := by rw [e0]; exact ((Below.refl _ _).alloc (Nat.le_refl _) _).alloc (by simp) _
  have x0 : W0.heap[W.heap.size]? = some (.cells #[.string n, .string c, .slice Ad 0 cd, .slice As 0 cs] 122 (0, 0)) := by rw [e0]; exact Lg.heap_two
  have v0 : W0.heap[W.heap.size + 1]? = some (.cells noVal 162 (0, 0)) := by rw [e0]; exact heap_alloc2_new W _ _
  have c3 : W0.cell? ⟨W.heap.size, 3, none⟩ = some (.slice As 0 cs) := (cell_heap x0 3).trans rfl
  obtain ⟨k0, f0, s0, k1, f1, s1, k2, f2, s2, k3, f3, s3, k4, f4, s4⟩ := val_facts v0
  have HB := Lib.hid B0
  have EW := Lib.hid e0
  have V0 := Lib.hid v0
  clear x0 e0 v0 B0
  go_enter Tryz.func252, Tryz.ntmps252
  go_upto_region 1 with (fail)
  rw [← EW.out]
  go_wp2_with (fail)
  go_loopw [6, 16] (fun v6 v16 wr => v6 = .slice none 0 0 ∧ v16 = .int .i64 0 ∧ wr = W0) (fun _ _ _ => 0)
  case atStart => exact ⟨rfl, rfl, rfl⟩
  case round =>
    obtain ⟨rfl, rfl, rfl⟩ := hrel
    go_wp2_with (fail)
    refine bodyPost_ret_by (results_tmp_row rfl _ _ (W.heap.size + 1) _ _ (0, 0) _ rfl V0.out rfl rfl (by kernel_rfl)) rfl ?_
    exact ⟨rfl, HB.out⟩
theorem inputs_none (W : World) (bp : Nat) (n c : ByteArray) (Ad As : Option Addr) (cd cs : Nat) : Calls Tryz.prog 201 #[.pointer (some ⟨bp, 0, none⟩), .agg #[.string n, .string c, .slice Ad 0 cd, .slice As 0 cs]] W fun e w' => e = .returned (.tuple #[.slice none 0 0, .agg noVal]) ∧ Below W.heap.size W w' := by
  obtain ⟨W0, e0⟩ : ∃ W0, W0 = (W.alloc (.cells #[.string n, .string c, .slice Ad 0 cd, .slice As 0 cs] 122)).alloc (.cells noVal 162) := ⟨_, rfl⟩
  have B0 : Below W.heap.size W W0 := by rw [e0]; exact ((Below.refl _ _).alloc (Nat.le_refl _) _).alloc (by simp) _
  have z0 : W0.heap.size = W.heap.size + 2 := by rw [e0]; simp
  have x0 : W0.heap[W.heap.size]? = some (.cells #[.string n, .string c, .slice Ad 0 cd, .slice As 0 cs] 122 (0, 0)) := by rw [e0]; exact Lg.heap_two
  have v0 : W0.heap[W.heap.size + 1]? = some (.cells noVal 162 (0, 0)) := by rw [e0]; exact heap_alloc2_new W _ _
  have c0 : W0.cell? ⟨W.heap.size, 0, none⟩ = some (.string n) := (cell_heap x0 0).trans rfl
  have c1 : W0.cell? ⟨W.heap.size, 1, none⟩ = some (.string c) := (cell_heap x0 1).trans rfl
  have c2 : W0.cell? ⟨W.heap.size, 2, none⟩ = some (.slice Ad 0 cd) := (cell_heap x0 2).trans rfl
  have c3 : W0.cell? ⟨W.heap.size, 3, none⟩ = some (.slice As 0 cs) := (cell_heap x0 3).trans rfl
  have HZ := Lib.hid z0
  have X0 := Lib.hid x0
  have HB := Lib.hid B0
  have EW := Lib.hid e0
  have V0 := Lib.hid v0
  clear x0 e0 v0 B0 z0
  go_enter Tryz.func201, Tryz.ntmps201
  go_upto_region 1 with (fail)
  rw [← EW.out]
  go_wp2_with (fail)
  go_at_call 252
  (with_reducible refine (sources_none _ _ _ _ _ _ _ _).mono ?_)
  rintro e W1 ⟨rfl, B1⟩
  have H1 := Lib.hid B1
  have hs := B1.size
  rw [HZ.out] at hs
  have y := (B1.block _ (by rw [HZ.out]; omega)).trans X0.out
  have y2 := (cell_heap ((Below.heap_alloc W1 (.cells noVal 162) _ (by omega)).trans y) 2).trans rfl
  have u := (B1.block (W.heap.size + 1) (by rw [HZ.out]; omega)).trans V0.out
  obtain ⟨p0, g0, q0, p1, g1, q1, p2, g2, q2, p3, g3, q3, p4, g4, q4⟩ := val_facts (heap_alloc_new W1 (.cells noVal 162))
  obtain ⟨a0, b0, d0, a1, b1, d1, a2, b2, d2, a3, b3, d3, a4, b4, d4⟩ := val_facts ((Below.heap_alloc W1 (.cells noVal 162) (W.heap.size + 1) (by omega)).trans u)
  have HS := Lib.hid hs
  have HU := Lib.hid u
  clear B1 y hs u
  go_wp2_with (fail)
  go_at_call 202
  (with_reducible refine (over_no _ _ _ _).mono ?_)
  rintro e W2 ⟨rfl, B2⟩
  have hs := HS.out
  have u := (B2.block (W.heap.size + 1) (by simp; omega)).trans ((Below.heap_alloc W1 (.cells noVal 162) (W.heap.size + 1) (by omega)).trans HU.out)
  have t2 := (cell_heap ((B2.block W.heap.size (by simp; omega)).trans ((Below.heap_alloc W1 (.cells noVal 162) W.heap.size (by omega)).trans ((H1.out.block W.heap.size (by rw [HZ.out]; omega)).trans X0.out))) 2).trans rfl
  obtain ⟨m0, n0, o0, m1, n1, o1, m2, n2, o2, m3, n3, o3, m4, n4, o4⟩ := val_facts u
  have HU2 := Lib.hid u
  have FIN : Hid (Below W.heap.size W W2) := Lib.hid (HB.out.trans ((H1.out.mono (by rw [HZ.out]; omega)).trans (((Below.refl _ _).alloc (by omega) _).trans (B2.mono (by simp; omega)))))
  clear y2 p0 g0 q0 p1 g1 q1 p2 g2 q2 p3 g3 q3 p4 g4 q4 a0 b0 d0 a1 b1 d1 a2 b2 d2 a3 b3 d3 a4 b4 d4 B2 u hs
  go_wp2_with (fail)
  go_loopw [6, 8, 24] (fun v6 v8 v24 wr => v6 = .slice none 0 0 ∧ v8 = .bool false ∧ v24 = .int .i64 0 ∧ wr = W2) (fun _ _ _ _ => 0)
  case atStart => exact ⟨rfl, rfl, rfl, rfl⟩
  case round =>
    obtain ⟨rfl, rfl, rfl, rfl⟩ := hrel
    go_wp2_with (fail)
    refine bodyPost_ret_by (results_tmp_row rfl _ _ (W.heap.size + 1) _ _ (0, 0) _ rfl HU2.out rfl rfl (by kernel_rfl)) rfl ?_
    exact ⟨rfl, FIN.out⟩
end Go.Proofs.YtifiipmmgnmciaaGreatDoor.Sv
/- SvFind, what a claim needs of it (prune.py). -/
namespace Go.Proofs.YtifiipmmgnmciaaGreatDoor.Sv
open Go.RowKit
open Dk (Kp)
set_option linter.unusedVariables false
set_option maxRecDepth 100000
theorem find1_yes (n c : ByteArray) (Ad As : Option Addr) (ld cd ls cs B : Nat) (W : World) (hB : B < W.heap.size) (hc : W.cell? ⟨B, 0, none⟩ = some (.string n)) :
    Calls Tryz.prog 129 #[.agg #[.string n, .string c, .slice Ad ld cd, .slice As ls cs], .pointer (some ⟨B, 0, none⟩)] W fun e w' => e = .returned (.bool true) ∧ Below W.heap.size W w' := by
  have hne : B ≠ W.heap.size := by omega
  go_enter Tryz.func129, Tryz.ntmps129
  go_wp2_with (fail)
  go_ret
  exact ⟨rfl, (Below.refl _ _).alloc (Nat.le_refl _) _⟩
def TgAt (W : World) (ad : Addr) (n c : ByteArray) (Ad : Option Addr) (cd : Nat) (As : Option Addr) (cs : Nat) : Prop := ad.spot = none ∧ ∀ (j : Nat) v, (#[.string n, .string c, .slice Ad 0 cd, .slice As 0 cs] : Array Value)[j]? = some v → W.cell? ⟨ad.block, ad.off + j, none⟩ = some v
theorem TgAt.below {W V : World} {ad : Addr} {n c : ByteArray} {Ad As : Option Addr} {cd cs : Nat} (h : TgAt W ad n c Ad cd As cs) (hb : Below W.heap.size W V) : TgAt V ad n c Ad cd As cs :=
  ⟨h.1, fun j v hj => (hb.cell (p := ⟨ad.block, ad.off + j, none⟩) (World.block_lt_of_cell? W ⟨ad.block, ad.off + j, none⟩ (h.2 j v hj))).trans (h.2 j v hj)⟩
theorem TgAt.cells {W : World} {ad : Addr} {n c : ByteArray} {Ad As : Option Addr} {cd cs : Nat} (h : TgAt W ad n c Ad cd As cs) : W.cell? ad = some (.string n) ∧ W.cell? ⟨ad.block, ad.off + 1, none⟩ = some (.string c) ∧ W.cell? ⟨ad.block, ad.off + 2, none⟩ = some (.slice Ad 0 cd) ∧ W.cell? ⟨ad.block, ad.off + 3, none⟩ = some (.slice As 0 cs) := by
  obtain ⟨h1, h2⟩ := h
  refine ⟨?_, h2 1 _ rfl, h2 2 _ rfl, h2 3 _ rfl⟩
  have := h2 0 _ rfl
  cases ad
  cases h1
  exact this
set_option maxHeartbeats 1000000 in
theorem index_yes (W : World) (ad : Addr) (tc B : Nat) (n c : ByteArray) (Ad As : Option Addr) (cd cs : Nat) (h : TgAt W ad n c Ad cd As cs) (hB : B < W.heap.size) (hc : W.cell? ⟨B, 0, none⟩ = some (.string n)) :
    Calls Tryz.prog 128 #[.slice (some ad) 1 tc, .func (.func 129) #[] #[.pointer (some ⟨B, 0, none⟩)]] W fun e w' => e = .returned (.int .i64 0) ∧ Below W.heap.size W w' := by
  have C := Lib.hid (find1_yes n c Ad As 0 cd 0 cs B W hB hc)
  obtain ⟨c0, c1, c2, c3⟩ := h.cells
  clear h
  go_enter Tryz.func128, Tryz.ntmps128
  go_wp2_with (fail)
  go_loopw [8] (fun v8 wr => v8 = .int .i64 0 ∧ wr = W) (fun _ _ => 0)
  case atStart => exact ⟨rfl, rfl⟩
  case round =>
    obtain ⟨rfl, rfl⟩ := hrel
    go_wp2_with (go_at_call 129; (with_reducible refine (C.out).mono ?_); rintro e w1 ⟨rfl, hb⟩)
    go_ret
    exact ⟨rfl, hb⟩
set_option maxHeartbeats 1000000 in
theorem gfind_one (W : World) (ad : Addr) (tc : Nat) (n c : ByteArray) (Ad As : Option Addr) (cd cs : Nat) (h : TgAt W ad n c Ad cd As cs) :
    Calls Tryz.prog 66 #[.slice (some ad) 1 tc, .string n] W fun e w' => e = .returned (.tuple #[.agg #[.string n, .string c, .slice Ad 0 cd, .slice As 0 cs], .bool true]) ∧ Below W.heap.size W w' := by
  obtain ⟨W2, eW⟩ : ∃ W2, W2 = (W.alloc (.cells #[.string n] 9)).alloc (.cells #[.string ⟨#[]⟩, .string ⟨#[]⟩, .slice none 0 0, .slice none 0 0] 122) := ⟨_, rfl⟩
  have hb2 : Below W.heap.size W W2 := by rw [eW]; exact ((Below.refl _ _).alloc (Nat.le_refl _) _).alloc (by simp) _
  have hsz : W2.heap.size = W.heap.size + 1 + 1 := by rw [eW]; simp
  have k0 : W2.heap[W.heap.size]? = some (.cells #[.string n] 9 (0, 0)) := by rw [eW]; exact Lg.heap_two
  have k1 : W2.heap[W.heap.size + 1]? = some (.cells #[.string ⟨#[]⟩, .string ⟨#[]⟩, .slice none 0 0, .slice none 0 0] 122 (0, 0)) := by rw [eW]; exact heap_alloc2_new W _ _
  have IX := Lib.hid (index_yes W2 ad tc W.heap.size n c Ad As cd cs (h.below hb2) (by omega) ((cell_heap k0 0).trans rfl))
  have K1 : Hid (∀ w, Below W2.heap.size W2 w → w.heap[W.heap.size + 1]? = some (.cells #[.string ⟨#[]⟩, .string ⟨#[]⟩, .slice none 0 0, .slice none 0 0] 122 (0, 0)) ∧ TgAt w ad n c Ad cd As cs ∧ Below W.heap.size W w) := Lib.hid fun w hw => ⟨(hw.block _ (by omega)).trans k1, (h.below hb2).below hw, hb2.trans (hw.mono (by omega))⟩
  clear hb2 k0 k1 hsz h
  go_enter Tryz.func66, Tryz.ntmps66
  go_wp2_with (go_at_call 128; rw [← eW]; (with_reducible refine (IX.out).mono ?_); rintro e w1 ⟨rfl, hb⟩; obtain ⟨z1, ta, hbW⟩ := K1.out _ hb; have K2 := Lib.hid z1; have HB := Lib.hid hbW; obtain ⟨c0, c1, c2, c3, f0, f1, f2, f3⟩ := Lg.four z1; obtain ⟨e0, e1, e2, e3⟩ := ta.cells; clear eW z1 ta hb hbW)
  (try simp only [Exit.inBlock, Exit.then])
  refine bodyPost_ret_by (Lg.results_cell_row2 rfl _ _ (W.heap.size + 1) 122 _ (0, 0) _ rfl (Lg.set4 K2.out _ _ _ _) rfl rfl (by kernel_rfl)) rfl ?_
  exact ⟨rfl, Lg.set4_below HB.out (by omega) _ _ _ _⟩
end Go.Proofs.YtifiipmmgnmciaaGreatDoor.Sv
/- SvOutA, what a claim needs of it (prune.py). -/
namespace Go.Proofs.YtifiipmmgnmciaaGreatDoor.Sv
open Go.RowKit Go.Maps
open Dk (Kp)
set_option linter.unusedVariables false
set_option maxRecDepth 100000
theorem clone_nil (W : World) : Calls Tryz.prog 256 #[.slice none 0 0] W fun e w' => e = .returned (.slice none 0 0) ∧ W = w' := by
  have he := run_eql_nil_slice W _ _ none 0 0 0 0 Tryz.underlying32
  go_enter Tryz.func256, Tryz.ntmps256
  go_wp2_with (fail)
  go_ret
  exact ⟨rfl, rfl⟩
theorem index_nil (f : Value) (W : World) : Calls Tryz.prog 298 #[.slice none 0 0, f] W fun e w' => e = .returned (.int .i64 (-1)) ∧ W = w' := by
  go_enter Tryz.func298, Tryz.ntmps298
  go_wp2_with (fail)
  go_loopw [8] (fun v8 wr => v8 = .int .i64 0 ∧ wr = W) (fun _ _ => 0)
  case atStart => exact ⟨rfl, rfl⟩
  case round =>
    obtain ⟨rfl, rfl⟩ := hrel
    go_wp2_with (fail)
    go_ret
    exact ⟨rfl, rfl⟩
theorem contains_nil (f : Value) (W : World) : Calls Tryz.prog 254 #[.slice none 0 0, f] W fun e w' => e = .returned (.bool false) ∧ W = w' := by
  go_enter Tryz.func254, Tryz.ntmps254
  go_wp2_with (go_at_call 298; (with_reducible refine (index_nil _ _).mono ?_); rintro e w' ⟨rfl, rfl⟩)
  go_ret
  exact ⟨rfl, rfl⟩
def PB (W : World) (p : Nat) (TG As : Option Addr) (tc cs dm vm om : Nat) (ta : Value) : Prop := W.heap[p]? = some (.cells #[.slice TG 1 tc, .slice As 0 cs, .int .i64 50, .map (some dm), .map (some vm), .map (some om), ta] 155 (0, 0))
def ActSays (W : World) (c K : ByteArray) : Prop := ∀ V, Below W.heap.size W V → Calls Tryz.prog 253 #[.string c, .slice none 0 0, .slice none 0 0, .int .i64 50] V fun e w' => e = .returned (.string K) ∧ Below V.heap.size V w'
abbrev taskC (K c : ByteArray) : List Value := [.string K, .int .i64 0, .string c, .slice none 0 0, .slice none 0 0, .int .i64 50]
theorem task_cells (K c : ByteArray) : ∀ v ∈ taskC K c, v.oneCell' = true := by
  intro v hv
  simp only [taskC, List.mem_cons, List.not_mem_nil, or_false] at hv
  rcases hv with rfl | rfl | rfl | rfl | rfl | rfl <;> rfl
def OutK (W0 : World) (K : ByteArray) (g : Nat) (w : World) : Prop := Below W0.heap.size W0 w ∧ W0.heap.size ≤ g ∧ w.heap[g]? = some (.cells #[.string K] 9 (0, 0))
end Go.Proofs.YtifiipmmgnmciaaGreatDoor.Sv
