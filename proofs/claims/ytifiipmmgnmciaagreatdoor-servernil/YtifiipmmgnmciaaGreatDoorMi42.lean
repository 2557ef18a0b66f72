/- Joined by mkmerged.py: OlMem, OlMem2, OlRep, OlOpen, OlDo, OlDo2, OlEx, OlAwakeA. -/
import Derived.Test.YtifiipmmgnmciaaGreatDoorMi24
import Derived.Test.YtifiipmmgnmciaaGreatDoorMi27
import Derived.Test.YtifiipmmgnmciaaGreatDoorMi41
import Derived.Test.YtifiipmmgnmciaaGreatDoorMi38
import Derived.Test.YtifiipmmgnmciaaGreatDoorMi25
import Derived.Test.YtifiipmmgnmciaaGreatDoorMi39
import Derived.Test.YtifiipmmgnmciaaGreatDoorMi02
import Derived.Test.YtifiipmmgnmciaaGreatDoorMi17
import Derived.Deep.Draws
import Derived.BigQuiet
import Derived.Test.YtifiipmmgnmciaaGreatDoorMi03
import Derived.Test.YtifiipmmgnmciaaGreatDoorMi18
import Derived.Test.YtifiipmmgnmciaaGreatDoorMi23
import Derived.Laws.StructEq
/- OlMem, what a claim needs of it (prune.py). -/
namespace Go.Proofs.YtifiipmmgnmciaaGreatDoor.Ol
open Go.RowKit
open Dk (Kp NoT reads_kp)
open Ops (OV OVs Parts)
set_option linter.unusedVariables false
set_option maxRecDepth 100000
abbrev Op := Ops.Op
theorem noT_cells {W : World} {b : Nat} {cs : Array Value} {T : TypeId} {fr : Nat × Nat} (h : W.heap[b]? = some (.cells cs T fr)) (hc : ∀ (k : Nat) s, cs[k]? ≠ some (.string s)) : NoT W b := fun a s hb e => by
  unfold World.cell? at e
  rw [hb, h] at e
  simp only at e
  split at e
  · cases e
  · exact hc _ _ e
theorem cell_kp {S : Nat → Prop} {W W' : World} {ad : Addr} (hk : Kp S W W') (hS : ∀ k, S k → NoT W k) {t : ByteArray} (hlt : ad.block < W.heap.size) (h0 : W.cell? ad = some (.string t)) (j : Nat) : W'.cell? (ad.add j) = W.cell? (ad.add j) :=
  World.cell?_of_block (by rw [block_of_add]; exact hk.block _ hlt (fun hs => hS _ hs ad t rfl h0))
theorem strs_kp {S : Nat → Prop} {W W' : World} {A : Option Addr} {l : List ByteArray} (h : Strs W W.heap.size A l) (hk : Kp S W W') (hS : ∀ k, S k → NoT W k) : Strs W' W'.heap.size A l :=
  reads_kp h hk (Nat.le_refl _) hS (fun hn => by
    cases l with
    | nil => simp at hn
    | cons x l => exact ⟨x, rfl⟩)
theorem fls_kp {S : Nat → Prop} {W W' : World} {A : Option Addr} {l : List Fl} (h : Fs.Fls W A l) (hk : Kp S W W') (hS : ∀ k, S k → NoT W k) : Fs.Fls W' A l :=
  reads_kp h hk (Nat.le_refl _) hS (fun hn => by
    cases l with
    | nil => simp at hn
    | cons x l => exact ⟨x.p, rfl⟩)
theorem tgs_kp {S : Nat → Prop} {W W' : World} {A : Option Addr} {l : List Tg} (h : Tgs W W.heap.size A l) (hk : Kp S W W') (hS : ∀ k, S k → NoT W k) : Tgs W' W'.heap.size A l := fun hl => by
  obtain ⟨ad, e, h1, h2⟩ := h hl
  refine ⟨ad, e, Nat.lt_of_lt_of_le h1 hk.size, fun k hk' => ?_⟩
  obtain ⟨Ad, cd, As, cs, c0, c1, c2, c3, c4, c5⟩ := h2 k hk'
  have hl2 : (ad.add (k * 4)).block < W.heap.size := by rw [block_of_add]; exact h1
  have hc := cell_kp hk hS hl2 c0
  exact ⟨Ad, cd, As, cs, (hc 0).trans c0, (hc 1).trans c1, (hc 2).trans c2, (hc 3).trans c3, strs_kp c4 hk hS, strs_kp c5 hk hS⟩
theorem parts_kp {S : Nat → Prop} {W W' : World} {x : Op} {Ag : Option Addr} {cg : Nat} {Af : Option Addr} {cf : Nat} {Ar : Option Addr} {cr : Nat} (h : Parts W x Ag cg Af cf Ar cr) (hk : Kp S W W') (hS : ∀ k, S k → NoT W k) : Parts W' x Ag cg Af cf Ar cr :=
  ⟨tgs_kp h.g hk hS, fls_kp h.f hk hS, fls_kp h.r hk hS, h.gc, h.fc, h.rc⟩
theorem ovs_kp {S : Nat → Prop} {W W' : World} (hk : Kp S W W') (hS : ∀ k, S k → NoT W k) : ∀ {l : List Op} {cs : List Value}, OVs W l cs → OVs W' l cs
  | [], cs, h => h
  | x :: l, cs, ⟨a, b, e, ⟨Ag, cg, Af, cf, Ar, cr, e2, hp⟩, h2⟩ => ⟨a, b, e, ⟨Ag, cg, Af, cf, Ar, cr, e2, parts_kp hp hk hS⟩, ovs_kp hk hS h2⟩
theorem ops_kp {S : Nat → Prop} {W W' : World} {A : Option Addr} {l : List Op} (h : Ops.Ops W A l) (hk : Kp S W W') (hS : ∀ k, S k → NoT W k) : Ops.Ops W' A l := by
  obtain ⟨cs, h1, h2⟩ := h
  refine ⟨cs, ovs_kp hk hS h1, reads_kp h2 hk (Nat.le_refl _) hS (fun hn => ?_)⟩
  cases l with
  | nil => simp at hn
  | cons x l =>
    obtain ⟨a, b, e, ⟨Ag, cg, Af, cf, Ar, cr, e2, hp⟩, h3⟩ := h1
    exact ⟨x.n, by rw [e, e2]; rfl⟩
end Go.Proofs.YtifiipmmgnmciaaGreatDoor.Ol
/- OlMem2, what a claim needs of it (prune.py). -/
namespace Go.Proofs.YtifiipmmgnmciaaGreatDoor.Ol
open Go.RowKit
open Dk (Dk Kp NoT DkS DkAt)
open Wl (Lw LogAt)
open Ops (OkO)
set_option linter.unusedVariables false
set_option maxRecDepth 100000
structure Ol where
  d : Dk
  log : Lw
  l : List Op
structure OlAt (W : World) (bo bl b m nn : Nat) (o : Ol) : Prop where
  st : ∃ A c, W.heap[bo]? = some (.cells #[.pointer (some ⟨bl, 0, none⟩), .slice A o.l.length c, .bool false] 78 (0, 0)) ∧ o.l.length ≤ c ∧ Ops.Ops W A o.l
  log : LogAt W bl b o.log
  dk : DkAt W b m nn o.d
  ok : ∀ x ∈ o.l, OkO x
  few : o.l.length ≤ 400
theorem noT_disk {W : World} {b m nn : Nat} {d : Dk} (h : DkAt W b m nn d) : ∀ k, DkS b m k → NoT W k := fun k hk => by
  rcases hk with rfl | rfl
  · refine noT_cells h.st (fun j s e => ?_)
    match j, e with
    | 0, e => cases e
    | 1, e => cases e
    | 2, e => cases e
    | 3, e => cases e
    | 4, e => cases e
    | j + 5, e => simp at e
  · exact fun a s hb e => h.map.nocell e hb
theorem noT_log {W : World} {bl b : Nat} {x : Lw} (h : LogAt W bl b x) : NoT W bl := noT_cells h.st (fun j s e => by
  match j, e with
  | 0, e => cases e
  | 1, e => cases e
  | 2, e => cases e
  | 3, e => cases e
  | 4, e => cases e
  | j + 5, e => simp at e)
def OlS (bo bl b m : Nat) : Nat → Prop := fun k => k = b ∨ k = m ∨ k = bl ∨ k = bo
theorem OlAt.noT {W : World} {bo bl b m nn : Nat} {o : Ol} (h : OlAt W bo bl b m nn o) : ∀ k, OlS bo bl b m k → NoT W k := fun k hk => by
  rcases hk with e | e | rfl | rfl
  · exact noT_disk h.dk k (.inl e)
  · exact noT_disk h.dk k (.inr e)
  · exact noT_log h.log
  · obtain ⟨A, c, hs, _⟩ := h.st
    refine noT_cells hs (fun j s e => ?_)
    match j, e with
    | 0, e => cases e
    | 1, e => cases e
    | 2, e => cases e
    | j + 3, e => simp at e
theorem OlAt.below {W W' : World} {bo bl b m nn : Nat} {o : Ol} (h : OlAt W bo bl b m nn o) (k : Below W.heap.size W W') : OlAt W' bo bl b m nn o := by
  obtain ⟨A, c, hs, hc, ho⟩ := h.st
  exact ⟨⟨A, c, (k.block _ (Lg.lt_heap hs)).trans hs, hc, ho.below k⟩, h.log.below k, h.dk.below k, h.ok, h.few⟩
theorem OlAt.lt {W : World} {bo bl b m nn : Nat} {o : Ol} (h : OlAt W bo bl b m nn o) : bo < W.heap.size ∧ bl < W.heap.size ∧ b < W.heap.size ∧ m < W.heap.size := by
  obtain ⟨A, c, hs, _⟩ := h.st
  exact ⟨Lg.lt_heap hs, h.log.lt, Lg.lt_heap h.dk.st, h.dk.map.lt⟩
theorem OlAt.ne {W : World} {bo bl b m nn : Nat} {o : Ol} (h : OlAt W bo bl b m nn o) : bo ≠ bl ∧ bo ≠ b ∧ bo ≠ m := by
  obtain ⟨A, c, hs, _⟩ := h.st
  refine ⟨fun e => ?_, fun e => ?_, fun e => ?_⟩
  · rw [e, h.log.st] at hs
    injection hs with hs
    injection hs with _ hs _
    exact absurd hs (by decide)
  · rw [e, h.dk.st] at hs
    injection hs with hs
    injection hs with _ hs _
    exact absurd hs (by decide)
  · have hc : W.cell? ⟨bo, 0, none⟩ = some (.pointer (some ⟨bl, 0, none⟩)) := (cell_heap hs 0).trans rfl
    exact h.dk.map.nocell hc e
theorem told_any (W : World) (bo : Nat) (cs0 cs1 : Value) (h : W.heap[bo]? = some (.cells #[cs0, cs1, .bool false] 78 (0, 0))) :
    Calls Tryz.prog 58 #[.pointer (some ⟨bo, 0, none⟩), .int .i64 0] W fun e w' => e = .returned (.int .i64 0) ∧ w' = W.setCell ⟨bo, 2, none⟩ (.bool false) := by
  have c2 : W.cell? ⟨bo, 2, none⟩ = some (.bool false) := (cell_heap h 2).trans rfl
  have f2 := frozen_heap h 2
  clear h
  go_enter Tryz.func58, Tryz.ntmps58
  go_wp2_with (fail)
  go_ret
  exact ⟨rfl, rfl⟩
theorem plist_any (W : World) (bo bl b m nn : Nat) (o : Ol) (h : OlAt W bo bl b m nn o) :
    Calls Tryz.prog 15 #[.pointer (some ⟨bo, 0, none⟩)] W fun e w' => (∃ A c, e = .returned (.slice A o.l.length c) ∧ o.l.length ≤ c ∧ Ops.Ops w' A o.l) ∧ Below W.heap.size W w' := by
  obtain ⟨A, c, hs, hc, ho⟩ := h.st
  have c1 : W.cell? ⟨bo, 1, none⟩ = some (.slice A o.l.length c) := (cell_heap hs 1).trans rfl
  have CL := Lib.hid (Ops.clone_from A o.l c W W ho (Below.refl _ _) (by have := h.few; omega))
  have FN : Hid (∀ e w', Ops.CloneFrom o.l W W e w' → (∃ A c, e = .returned (.slice A o.l.length c) ∧ o.l.length ≤ c ∧ Ops.Ops w' A o.l) ∧ Below W.heap.size W w') := Lib.hid fun e w' hh => by
    obtain ⟨⟨v, cs, he, hown, hov⟩, hb⟩ := hh
    obtain ⟨A', c', rfl, hlc, hops⟩ := Ops.OwnOps.ops (v := v) ⟨cs, hown, hov.below hb⟩
    exact ⟨⟨A', c', he, hlc, hops⟩, hb⟩
  have CL2 := Lib.hid (CL.out.mono FN.out)
  clear hs hc ho h FN CL
  go_enter Tryz.func15, Tryz.ntmps15
  go_wp2_with (go_at_call 29; (with_reducible refine (CL2.out).mono ?_); rintro e w1 ⟨⟨A', c', rfl, hlc, hops⟩, hb⟩)
  go_ret
  exact ⟨⟨A', c', rfl, hlc, hops⟩, hb⟩
end Go.Proofs.YtifiipmmgnmciaaGreatDoor.Ol
/- OlRep, what a claim needs of it (prune.py). -/
namespace Go.Proofs.YtifiipmmgnmciaaGreatDoor.Ol
open Go.RowKit
open Wl (strs Rw rw_own)
open Ops (Ev OkO Parts evOf apply wrongV ApplySays)
abbrev B := List UInt8
set_option linter.unusedVariables false
set_option maxRecDepth 100000
noncomputable def rp (l : List Op) (evs : List Ev) : Nat → List Op
  | 0 => l
  | k + 1 => (apply wrongV orderB (rp l evs k) (evs.getD k Cd.zeroE)).1
structure Good (l : List Op) (recs : List B) (evs : List Ev) : Prop where
  len : recs.length ≤ 400
  same : recs.length = evs.length
  l0 : l.length ≤ 400
  ok0 : ∀ x ∈ l, OkO x
  sz : ∀ r ∈ recs, r.length ≤ 100000000
  ev : ∀ k (hk : k < recs.length) (hk' : k < evs.length), Cd.readEv recs[k] = (evs[k], 0)
  ok : ∀ e ∈ evs, OkO e.x
  ap : ∀ k (hk : k < evs.length), (apply wrongV orderB (rp l evs k) evs[k]).2 = 0
def RepSays (l : List Op) (evs : List Ev) (W : World) (e : Ending) (w' : World) : Prop :=
  (∃ A c, e = .returned (.tuple #[.slice A (rp l evs evs.length).length c, .bool true]) ∧ (rp l evs evs.length).length ≤ c ∧ Ops.Ops w' A (rp l evs evs.length)) ∧ Below W.heap.size W w'
end Go.Proofs.YtifiipmmgnmciaaGreatDoor.Ol
/- OlOpen, what a claim needs of it (prune.py). -/
namespace Go.Proofs.YtifiipmmgnmciaaGreatDoor.Ol
open Go.RowKit
open Dk (Dk Kp NoT DkS DkAt read names)
open Wl (Lw LogAt run parts take state rw_own)
open Ops (OkO)
set_option linter.unusedVariables false
set_option maxRecDepth 100000
structure Opens (d : Dk) (evs : List Ops.Ev) : Prop where
  dead : d.dead = false
  state : (read d state).2 ≠ 0
  all : ∀ n ∈ names d, n ≠ Wl.state ∧ n ∈ parts d 0
  len : d.l.length ≤ 1000000
  ok : ∀ k < (parts d 0).length, (take (run (parts d 0) d k).1 ((parts d 0).getD k [])).1.2.2 = 0
  sz : ∀ k < (parts d 0).length, (read (run (parts d 0) d k).1 ((parts d 0).getD k [])).1.length ≤ 1000000
  name : ∀ p ∈ parts d 0, p.length ≤ 1000
  few : (parts d 0).length ≤ 1000000
  good : Good [] (run (parts d 0) d (parts d 0).length).2.1 evs
end Go.Proofs.YtifiipmmgnmciaaGreatDoor.Ol
/- OlDo, what a claim needs of it (prune.py). -/
namespace Go.Proofs.YtifiipmmgnmciaaGreatDoor.Ol
open Go.RowKit
open Dk (Dk Kp NoT DkS DkAt)
open Wl (Lw LogAt appL)
open Ops (OkO Parts apply wrongV)
set_option linter.unusedVariables false
set_option maxRecDepth 100000
structure OkN (k : Int) (x : Op) : Prop where
  k0 : 0 ≤ k ∧ k ≤ 100
  s0 : 0 ≤ x.st ∧ x.st ≤ 100
  e0 : 0 ≤ x.r.e ∧ x.r.e ≤ 100
  at_ : x.r.at_.size ≤ 100000
  tx : x.r.tx.size ≤ 100000
structure DoIn (w0 W : World) (bo bl b m nn : Nat) (o : Ol) (k : Int) (x : Op) (Ag : Option Addr) (cg : Nat) (Af : Option Addr) (cf : Nat) (Ar : Option Addr) (cr : Nat) (l2 : List Op) : Prop where
  env : Lg.Env w0
  h0 : Below w0.heap.size w0 W
  hb : w0.heap.size ≤ b
  hm : w0.heap.size ≤ m
  hbl : w0.heap.size ≤ bl
  hbo : w0.heap.size ≤ bo
  at_ : OlAt W bo bl b m nn o
  okx : OkO x
  parts : Parts W x Ag cg Af cf Ar cr
  num : OkN k x
  ap : apply wrongV orderB o.l ⟨k, x⟩ = (l2, 0)
end Go.Proofs.YtifiipmmgnmciaaGreatDoor.Ol
/- OlDo2, what a claim needs of it (prune.py). -/
namespace Go.Proofs.YtifiipmmgnmciaaGreatDoor.Ol
open Go.RowKit
open Dk (Dk Kp NoT DkS DkAt)
open Wl (Lw LogAt appL)
open Ops (OkO Parts apply wrongV)
set_option linter.unusedVariables false
set_option maxRecDepth 100000
noncomputable def did (o : Ol) (k : Int) (x : Op) (l2 : List Op) : Ol := ⟨(appL o.d o.log (Cd.evB ⟨k, x⟩)).1, (appL o.d o.log (Cd.evB ⟨k, x⟩)).2.1, l2⟩
def DoSays (W : World) (bo bl b m nn : Nat) (o : Ol) (k : Int) (x : Op) (l2 : List Op) (e : Ending) (w' : World) : Prop := e = .returned (.int .i64 0) ∧ OlAt w' bo bl b m (nn + 2) (did o k x l2) ∧ Kp (OlS bo bl b m) W w'
theorem kept {W3 W4 : World} {b m bl k : Nat} (hk : Kp (fun k => k = b ∨ k = m ∨ k = bl) W3 W4) (h : k < W3.heap.size) (h1 : k ≠ b) (h2 : k ≠ m) (h3 : k ≠ bl) : W4.heap[k]? = W3.heap[k]? := hk.block k h (fun e => by rcases e with e | e | e <;> omega)
end Go.Proofs.YtifiipmmgnmciaaGreatDoor.Ol
/- OlEx, what a claim needs of it (prune.py). -/
namespace Go.Proofs.YtifiipmmgnmciaaGreatDoor.Ol
open Dk (Dk Fd read names bad)
open Wl (Lw name parts run take state frames frame two appL)
open Ops (OkO apply wrongV Ev)
set_option linter.unusedVariables false
set_option maxRecDepth 100000
def tT : Tg := ⟨⟨#[116]⟩, ⟨#[]⟩, [], []⟩
def gT : ByteArray := ⟨#[116]⟩
def oneO (st : Int) : Op := ⟨⟨#[97]⟩, [tT], [], gT, st, Ops.zeroR⟩
def ev1 : Ev := ⟨1, oneO 0⟩
def ev2 : Ev := ⟨2, oneO 0⟩
theorem check_nil : Fs.checkE [] = 0 := Fs.check_good (fun j hj _ => by simp at hj) (by simp) (fun h => by
  rcases h with ⟨i, h, _⟩ | ⟨i, h, _⟩
  · simp at h
  · simp at h)
theorem two_0 {L : Nat} {n s : B} (hb : bad n = false) (hs : s.length ≤ L) : two ⟨L, [], 0, false⟩ n s = (⟨L, [⟨n, s, s.length⟩], 0, false⟩, 0) := by
  have h1 : Dk.append ⟨L, [], 0, false⟩ n s = (⟨L, [⟨n, s, 0⟩], 0, false⟩, 0) := by
    unfold Dk.append Dk.wrong Dk.act
    simp [hb, Dk.sz, Dk.set, Dk.dat, Dk.get, Dk.firmOf]
    omega
  unfold two
  rw [h1]
  simp only [ne_eq, not_true_eq_false, if_false]
  unfold Dk.sync Dk.find Dk.wrong Dk.act
  simp [hb, Dk.set, Dk.get]
theorem two_1 {L k : Nat} {n s0 s : B} (hb : bad n = false) (hs : s0.length + s.length ≤ L) : two ⟨L, [⟨n, s0, k⟩], 0, false⟩ n s = (⟨L, [⟨n, s0 ++ s, (s0 ++ s).length⟩], 0, false⟩, 0) := by
  have hi : ¬ n < n := List.lt_irrefl _
  have h1 : Dk.append ⟨L, [⟨n, s0, k⟩], 0, false⟩ n s = (⟨L, [⟨n, s0 ++ s, k⟩], 0, false⟩, 0) := by
    unfold Dk.append Dk.wrong Dk.act
    simp [hb, Dk.sz, Dk.set, Dk.dat, Dk.get, Dk.firmOf, hi]
    omega
  unfold two
  rw [h1]
  simp only [ne_eq, not_true_eq_false, if_false]
  unfold Dk.sync Dk.find Dk.wrong Dk.act
  simp [hb, Dk.set, Dk.get, hi]
theorem n00 : bad (name 0 0) = false := by kernel_rfl
theorem stb : bad state = false := by kernel_rfl
def f1 : B := frame (Cd.evB ev1)
def f2 : B := frame (Cd.evB ev2)
def D0 (L : Nat) : Dk := ⟨L, [], 0, false⟩
def D1 (L : Nat) : Dk := ⟨L, [⟨name 0 0, f1, f1.length⟩], 0, false⟩
def D2 (L : Nat) : Dk := ⟨L, [⟨name 0 0, f1 ++ f2, (f1 ++ f2).length⟩], 0, false⟩
theorem read_none {L : Nat} {n : B} (hb : bad n = false) : read (D0 L) n = ([], 17) := by
  unfold Dk.read Dk.find Dk.wrong D0
  simp [hb, Dk.get]
end Go.Proofs.YtifiipmmgnmciaaGreatDoor.Ol
/- OlAwakeA, what a claim needs of it (prune.py). -/
namespace Go.Proofs.YtifiipmmgnmciaaGreatDoor.Ol
open Go.RowKit
open Dk (Dk Kp NoT DkS DkAt)
open Ops (Parts OkO apply wrongV)
set_option linter.unusedVariables false
set_option maxRecDepth 100000
structure St (w W : World) (bo bl b m nn : Nat) (o : Ol) : Prop where
  bw : Below w.heap.size w W
  hb : w.heap.size ≤ b
  hm : w.heap.size ≤ m
  hbl : w.heap.size ≤ bl
  hbo : w.heap.size ≤ bo
  at_ : OlAt W bo bl b m nn o
theorem St.below {w W W' : World} {bo bl b m nn : Nat} {o : Ol} (h : St w W bo bl b m nn o) (k : Below W.heap.size W W') : St w W' bo bl b m nn o := ⟨h.bw.trans (k.mono h.bw.size), h.hb, h.hm, h.hbl, h.hbo, h.at_.below k⟩
theorem St.did {w W W' : World} {bo bl b m nn : Nat} {o : Ol} (h : St w W bo bl b m nn o) {k : Int} {x : Op} {l2 : List Op} {e : Ending} (hd : DoSays W bo bl b m nn o k x l2 e W') : e = .returned (.int .i64 0) ∧ St w W' bo bl b m (nn + 2) (did o k x l2) := by
  obtain ⟨h1, h2, h3⟩ := hd
  refine ⟨h1, h.bw.trans (h3.below (fun i hi => ?_) h.bw.size), h.hb, h.hm, h.hbl, h.hbo, h2⟩
  rcases hi with rfl | rfl | rfl | rfl
  · exact h.hb
  · exact h.hm
  · exact h.hbl
  · exact h.hbo
def o0 : Ol := ⟨D0 10000, ⟨0, 0, 0, false⟩, []⟩
def o1 : Ol := ⟨D1 10000, ⟨0, 0, 1, false⟩, [oneO 1]⟩
def o2 : Ol := ⟨D2 10000, ⟨0, 0, 2, false⟩, [oneO 2]⟩
end Go.Proofs.YtifiipmmgnmciaaGreatDoor.Ol
