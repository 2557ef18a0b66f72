/- Joined by mkmerged.py: OlMem, OlMem2, OlRep, OlOpen, OlDo. -/
import Derived.Test.YtmlaolmaopjhbaaGreatDoorMi24
import Derived.Test.YtmlaolmaopjhbaaGreatDoorMi28
import Derived.Test.YtmlaolmaopjhbaaGreatDoorMi36
import Derived.Test.YtmlaolmaopjhbaaGreatDoorMi32
import Derived.Test.YtmlaolmaopjhbaaGreatDoorMi26
import Derived.Test.YtmlaolmaopjhbaaGreatDoorMi33
import Derived.Test.YtmlaolmaopjhbaaGreatDoorMi27
/- OlMem, what a claim needs of it (prune.py). -/
namespace Go.Proofs.YtmlaolmaopjhbaaGreatDoor.Ol
open Go.RowKit
open Dk (Kp NoT reads_kp)
open Ops (OV OVs Parts)
set_option linter.unusedVariables false
set_option maxRecDepth 100000
abbrev Op := Ops.Op
theorem noT_cells {W : World} {b : Nat} {cs : Array Value} {T : TypeId} {fr : Nat × Nat} (h : W.heap[b]? = some (.cells cs T fr)) (hc : ∀ (k : Nat) s, cs[k]? ≠ some (.string s)) : NoT W b := fun a s hb e => by
  unfold World.cell? at e
  rw [hb, h] at e
  simp only at e
  split at e
  · cases e
  · exact hc _ _ e
theorem cell_kp {S : Nat → Prop} {W W' : World} {ad : Addr} (hk : Kp S W W') (hS : ∀ k, S k → NoT W k) {t : ByteArray} (hlt : ad.block < W.heap.size) (h0 : W.cell? ad = some (.string t)) (j : Nat) : W'.cell? (ad.add j) = W.cell? (ad.add j) :=
  World.cell?_of_block (by rw [block_of_add]; exact hk.block _ hlt (fun hs => hS _ hs ad t rfl h0))
theorem strs_kp {S : Nat → Prop} {W W' : World} {A : Option Addr} {l : List ByteArray} (h : Strs W W.heap.size A l) (hk : Kp S W W') (hS : ∀ k, S k → NoT W k) : Strs W' W'.heap.size A l :=
  reads_kp h hk (Nat.le_refl _) hS (fun hn => by
    cases l with
    | nil => simp at hn
    | cons x l => exact ⟨x, rfl⟩)
theorem fls_kp {S : Nat → Prop} {W W' : World} {A : Option Addr} {l : List Fl} (h : Fs.Fls W A l) (hk : Kp S W W') (hS : ∀ k, S k → NoT W k) : Fs.Fls W' A l :=
  reads_kp h hk (Nat.le_refl _) hS (fun hn => by
    cases l with
    | nil => simp at hn
    | cons x l => exact ⟨x.p, rfl⟩)
theorem tgs_kp {S : Nat → Prop} {W W' : World} {A : Option Addr} {l : List Tg} (h : Tgs W W.heap.size A l) (hk : Kp S W W') (hS : ∀ k, S k → NoT W k) : Tgs W' W'.heap.size A l := fun hl => by
  obtain ⟨ad, e, h1, h2⟩ := h hl
  refine ⟨ad, e, Nat.lt_of_lt_of_le h1 hk.size, fun k hk' => ?_⟩
  obtain ⟨Ad, cd, As, cs, c0, c1, c2, c3, c4, c5⟩ := h2 k hk'
  have hl2 : (ad.add (k * 4)).block < W.heap.size := by rw [block_of_add]; exact h1
  have hc := cell_kp hk hS hl2 c0
  exact ⟨Ad, cd, As, cs, (hc 0).trans c0, (hc 1).trans c1, (hc 2).trans c2, (hc 3).trans c3, strs_kp c4 hk hS, strs_kp c5 hk hS⟩
theorem parts_kp {S : Nat → Prop} {W W' : World} {x : Op} {Ag : Option Addr} {cg : Nat} {Af : Option Addr} {cf : Nat} {Ar : Option Addr} {cr : Nat} (h : Parts W x Ag cg Af cf Ar cr) (hk : Kp S W W') (hS : ∀ k, S k → NoT W k) : Parts W' x Ag cg Af cf Ar cr :=
  ⟨tgs_kp h.g hk hS, fls_kp h.f hk hS, fls_kp h.r hk hS, h.gc, h.fc, h.rc⟩
theorem ovs_kp {S : Nat → Prop} {W W' : World} (hk : Kp S W W') (hS : ∀ k, S k → NoT W k) : ∀ {l : List Op} {cs : List Value}, OVs W l cs → OVs W' l cs
  | [], cs, h => h
  | x :: l, cs, ⟨a, b, e, ⟨Ag, cg, Af, cf, Ar, cr, e2, hp⟩, h2⟩ => ⟨a, b, e, ⟨Ag, cg, Af, cf, Ar, cr, e2, parts_kp hp hk hS⟩, ovs_kp hk hS h2⟩
theorem ops_kp {S : Nat → Prop} {W W' : World} {A : Option Addr} {l : List Op} (h : Ops.Ops W A l) (hk : Kp S W W') (hS : ∀ k, S k → NoT W k) : Ops.Ops W' A l := by
  obtain ⟨cs, h1, h2⟩ := h
  refine ⟨cs, ovs_kp hk hS h1, reads_kp h2 hk (Nat.le_refl _) hS (fun hn => ?_)⟩
  cases l with
  | nil => simp at hn
  | cons x l =>
    obtain ⟨a, b, e, ⟨Ag, cg, Af, cf, Ar, cr, e2, hp⟩, h3⟩ := h1
    exact ⟨x.n, by rw [e, e2]; rfl⟩
end Go.Proofs.YtmlaolmaopjhbaaGreatDoor.Ol
/- OlMem2, what a claim needs of it (prune.py). -/
namespace Go.Proofs.YtmlaolmaopjhbaaGreatDoor.Ol
open Go.RowKit
open Dk (Dk Kp NoT DkS DkAt)
open Wl (Lw LogAt)
open Ops (OkO)
set_option linter.unusedVariables false
set_option maxRecDepth 100000
structure Ol where
  d : Dk
  log : Lw
  l : List Op
structure OlAt (W : World) (bo bl b m nn : Nat) (o : Ol) : Prop where
  st : ∃ A c, W.heap[bo]? = some (.cells #[.pointer (some ⟨bl, 0, none⟩), .slice A o.l.length c, .bool false] 69 (0, 0)) ∧ o.l.length ≤ c ∧ Ops.Ops W A o.l
  log : LogAt W bl b o.log
  dk : DkAt W b m nn o.d
  ok : ∀ x ∈ o.l, OkO x
  few : o.l.length ≤ 400
theorem noT_disk {W : World} {b m nn : Nat} {d : Dk} (h : DkAt W b m nn d) : ∀ k, DkS b m k → NoT W k := fun k hk => by
  rcases hk with rfl | rfl
  · refine noT_cells h.st (fun j s e => ?_)
    match j, e with
    | 0, e => cases e
    | 1, e => cases e
    | 2, e => cases e
    | 3, e => cases e
    | 4, e => cases e
    | j + 5, e => simp at e
  · exact fun a s hb e => h.map.nocell e hb
theorem noT_log {W : World} {bl b : Nat} {x : Lw} (h : LogAt W bl b x) : NoT W bl := noT_cells h.st (fun j s e => by
  match j, e with
  | 0, e => cases e
  | 1, e => cases e
  | 2, e => cases e
  | 3, e => cases e
  | 4, e => cases e
  | j + 5, e => simp at e)
def OlS (bo bl b m : Nat) : Nat → Prop := fun k => k = b ∨ k = m ∨ k = bl ∨ k = bo
theorem OlAt.noT {W : World} {bo bl b m nn : Nat} {o : Ol} (h : OlAt W bo bl b m nn o) : ∀ k, OlS bo bl b m k → NoT W k := fun k hk => by
  rcases hk with e | e | rfl | rfl
  · exact noT_disk h.dk k (.inl e)
  · exact noT_disk h.dk k (.inr e)
  · exact noT_log h.log
  · obtain ⟨A, c, hs, _⟩ := h.st
    refine noT_cells hs (fun j s e => ?_)
    match j, e with
    | 0, e => cases e
    | 1, e => cases e
    | 2, e => cases e
    | j + 3, e => simp at e
theorem OlAt.below {W W' : World} {bo bl b m nn : Nat} {o : Ol} (h : OlAt W bo bl b m nn o) (k : Below W.heap.size W W') : OlAt W' bo bl b m nn o := by
  obtain ⟨A, c, hs, hc, ho⟩ := h.st
  exact ⟨⟨A, c, (k.block _ (Lg.lt_heap hs)).trans hs, hc, ho.below k⟩, h.log.below k, h.dk.below k, h.ok, h.few⟩
theorem OlAt.lt {W : World} {bo bl b m nn : Nat} {o : Ol} (h : OlAt W bo bl b m nn o) : bo < W.heap.size ∧ bl < W.heap.size ∧ b < W.heap.size ∧ m < W.heap.size := by
  obtain ⟨A, c, hs, _⟩ := h.st
  exact ⟨Lg.lt_heap hs, h.log.lt, Lg.lt_heap h.dk.st, h.dk.map.lt⟩
theorem OlAt.ne {W : World} {bo bl b m nn : Nat} {o : Ol} (h : OlAt W bo bl b m nn o) : bo ≠ bl ∧ bo ≠ b ∧ bo ≠ m := by
  obtain ⟨A, c, hs, _⟩ := h.st
  refine ⟨fun e => ?_, fun e => ?_, fun e => ?_⟩
  · rw [e, h.log.st] at hs
    injection hs with hs
    injection hs with _ hs _
    exact absurd hs (by decide)
  · rw [e, h.dk.st] at hs
    injection hs with hs
    injection hs with _ hs _
    exact absurd hs (by decide)
  · have hc : W.cell? ⟨bo, 0, none⟩ = some (.pointer (some ⟨bl, 0, none⟩)) := (cell_heap hs 0).trans rfl
    exact h.dk.map.nocell hc e
theorem told_any (W : World) (bo : Nat) (cs0 cs1 : Value) (h : W.heap[bo]? = some (.cells #[cs0, cs1, .bool false] 69 (0, 0))) :
    Calls Tryz.prog 32 #[.pointer (some ⟨bo, 0, none⟩), .int .i64 0] W fun e w' => e = .returned (.int .i64 0) ∧ w' = W.setCell ⟨bo, 2, none⟩ (.bool false) := by
  have c2 : W.cell? ⟨bo, 2, none⟩ = some (.bool false) := (cell_heap h 2).trans rfl
  have f2 := frozen_heap h 2
  clear h
  go_enter Tryz.func32, Tryz.ntmps32
  go_wp2_with (fail)
  go_ret
  exact ⟨rfl, rfl⟩
theorem plist_any (W : World) (bo bl b m nn : Nat) (o : Ol) (h : OlAt W bo bl b m nn o) :
    Calls Tryz.prog 7 #[.pointer (some ⟨bo, 0, none⟩)] W fun e w' => (∃ A c, e = .returned (.slice A o.l.length c) ∧ o.l.length ≤ c ∧ Ops.Ops w' A o.l) ∧ Below W.heap.size W w' := by
  obtain ⟨A, c, hs, hc, ho⟩ := h.st
  have c1 : W.cell? ⟨bo, 1, none⟩ = some (.slice A o.l.length c) := (cell_heap hs 1).trans rfl
  have CL := Lib.hid (Ops.clone_from A o.l c W W ho (Below.refl _ _) (by have := h.few; omega))
  have FN : Hid (∀ e w', Ops.CloneFrom o.l W W e w' → (∃ A c, e = .returned (.slice A o.l.length c) ∧ o.l.length ≤ c ∧ Ops.Ops w' A o.l) ∧ Below W.heap.size W w') := Lib.hid fun e w' hh => by
    obtain ⟨⟨v, cs, he, hown, hov⟩, hb⟩ := hh
    obtain ⟨A', c', rfl, hlc, hops⟩ := Ops.OwnOps.ops (v := v) ⟨cs, hown, hov.below hb⟩
    exact ⟨⟨A', c', he, hlc, hops⟩, hb⟩
  have CL2 := Lib.hid (CL.out.mono FN.out)
  clear hs hc ho h FN CL
  go_enter Tryz.func7, Tryz.ntmps7
  go_wp2_with (go_at_call 37; (with_reducible refine (CL2.out).mono ?_); rintro e w1 ⟨⟨A', c', rfl, hlc, hops⟩, hb⟩)
  go_ret
  exact ⟨⟨A', c', rfl, hlc, hops⟩, hb⟩
end Go.Proofs.YtmlaolmaopjhbaaGreatDoor.Ol
/- OlRep, what a claim needs of it (prune.py). -/
namespace Go.Proofs.YtmlaolmaopjhbaaGreatDoor.Ol
open Go.RowKit
open Wl (strs Rw rw_own)
open Ops (Ev OkO Parts evOf apply wrongV ApplySays)
abbrev B := List UInt8
set_option linter.unusedVariables false
set_option maxRecDepth 100000
noncomputable def rp (l : List Op) (evs : List Ev) : Nat → List Op
  | 0 => l
  | k + 1 => (apply wrongV orderB (rp l evs k) (evs.getD k Cd.zeroE)).1
structure Good (l : List Op) (recs : List B) (evs : List Ev) : Prop where
  len : recs.length ≤ 400
  same : recs.length = evs.length
  l0 : l.length ≤ 400
  ok0 : ∀ x ∈ l, OkO x
  sz : ∀ r ∈ recs, r.length ≤ 100000000
  ev : ∀ k (hk : k < recs.length) (hk' : k < evs.length), Cd.readEv recs[k] = (evs[k], 0)
  ok : ∀ e ∈ evs, OkO e.x
  ap : ∀ k (hk : k < evs.length), (apply wrongV orderB (rp l evs k) evs[k]).2 = 0
theorem rp_succ {l : List Op} {evs : List Ev} {k : Nat} (hk : k < evs.length) : rp l evs (k + 1) = (apply wrongV orderB (rp l evs k) evs[k]).1 := by
  have hget : evs.getD k Cd.zeroE = evs[k] := by rw [List.getD_eq_getElem?_getD, List.getElem?_eq_getElem hk]; rfl
  rw [rp, hget]
theorem Good.keeps {l : List Op} {recs : List B} {evs : List Ev} (h : Good l recs evs) : ∀ k ≤ evs.length, (∀ x ∈ rp l evs k, OkO x) ∧ (rp l evs k).length ≤ l.length + k
  | 0, _ => ⟨h.ok0, Nat.le_refl _⟩
  | k + 1, hk => by
    obtain ⟨h1, h2⟩ := h.keeps k (by omega)
    have h3 := h.ok _ (List.getElem_mem (show k < evs.length by omega))
    have e := rp_succ (l := l) (show k < evs.length by omega)
    generalize evs[k] = v at *
    rcases hr : apply wrongV orderB (rp l evs k) v with ⟨m, f⟩
    have h4 := Ops.apply_keeps hr h1 h3
    rw [hr] at e
    rw [e]
    exact ⟨h4.1, by have := h4.2; simp only; omega⟩
theorem read_at {r : B} {ek : Int} {ex : Op} (h : Cd.readEv r = (⟨ek, ex⟩, 0)) (hs : r.length ≤ 100000000) (W : World) (hE : Lg.Env W) :
    Calls Tryz.prog 75 #[.string (bs r)] W fun e w' => (∃ Ag cg Af cf Ar cr, e = .returned (.tuple #[.agg #[.int .i64 ek, .string ex.n, .slice Ag ex.gr.length cg, .slice Af ex.sn.length cf, .string ex.go, .int .i64 ex.st, .int .i64 ex.r.e, .string ex.r.at_, .string ex.r.tx, .slice Ar ex.r.fs.length cr], .int .i64 0]) ∧ Parts w' ex Ag cg Af cf Ar cr) ∧ Below W.heap.size W w' := by
  have := Cd.readEvent_any r hs W hE
  unfold Cd.REvSays at this
  rw [h] at this
  exact this
theorem apply_at {l1 l2 : List Op} {ek : Int} {ex : Op} (h : apply wrongV orderB l1 ⟨ek, ex⟩ = (l2, 0)) (A : Option Addr) (c : Nat) (Ag : Option Addr) (cg : Nat) (Af : Option Addr) (cf : Nat) (Ar : Option Addr) (cr : Nat) (W : World) (hE : Lg.Env W) (h1 : ∀ x ∈ l1, OkO x) (hx : OkO ex) (ho : Ops.Ops W A l1) (hl : l1.length ≤ 1000) (hc : l1.length ≤ c) (hp : Parts W ex Ag cg Af cf Ar cr) :
    Calls Tryz.prog 29 #[.slice A l1.length c, .agg #[.int .i64 ek, .string ex.n, .slice Ag ex.gr.length cg, .slice Af ex.sn.length cf, .string ex.go, .int .i64 ex.st, .int .i64 ex.r.e, .string ex.r.at_, .string ex.r.tx, .slice Ar ex.r.fs.length cr]] W fun e w' => (∃ A' c', e = .returned (.tuple #[.slice A' l2.length c', .int .i64 0]) ∧ l2.length ≤ c' ∧ Ops.Ops w' A' l2) ∧ Below W.heap.size W w' := by
  have := Ops.apply_any A l1 c ek ex Ag cg Af cf Ar cr W hE h1 hx ho hl hc hp
  rw [h] at this
  exact this
def RepSays (l : List Op) (evs : List Ev) (W : World) (e : Ending) (w' : World) : Prop :=
  (∃ A c, e = .returned (.tuple #[.slice A (rp l evs evs.length).length c, .bool true]) ∧ (rp l evs evs.length).length ≤ c ∧ Ops.Ops w' A (rp l evs evs.length)) ∧ Below W.heap.size W w'
set_option maxHeartbeats 2000000 in
theorem replay_any (A : Option Addr) (l : List Op) (c : Nat) (p : Option Addr) (cr : Nat) (g : Nat) (recs : List B) (evs : List Ev) (W : World) (hE : Lg.Env W) (hG : Good l recs evs) (hr : Ops.Ops W A l) (hc : l.length ≤ c) (hg : recs ≠ [] → g < W.heap.size) (hR : Rw recs g p W) :
    Calls Tryz.prog 28 #[.slice A l.length c, .slice p recs.length cr] W (RepSays l evs W) := by
  have HSM := Lib.hid hG.same
  have hlen := hG.len
  go_enter Tryz.func28, Tryz.ntmps28
  go_wp2_with (fail)
  go_loopw [0, 12] (fun v i wx => ∃ (k : Nat) (A : Option Addr) (c : Nat) (l1 : List Op), i = .int .i64 k ∧ k ≤ recs.length ∧ v = .slice A l1.length c ∧ Hid (rp l evs k = l1) ∧ l1.length ≤ c ∧ Ops.Ops wx A l1 ∧ Below W.heap.size W wx) (fun _ i _ => recs.length - (intOf i).toNat)
  case atStart => exact ⟨0, A, c, l, rfl, by omega, rfl, Lib.hid rfl, hc, hr, Below.refl _ _⟩
  case round =>
    obtain ⟨k, A', c', l1, rfl, hk, rfl, hl1, hlc, hops, hbx⟩ := hrel
    rename World => wx
    by_cases hlt : k < recs.length
    · have hlt' : k < evs.length := by have := HSM.out; omega
      have hne : recs ≠ [] := fun e => by rw [e] at hlt; simp at hlt
      obtain ⟨ad, rfl, hadb, hcw⟩ := hR k hlt
      have hcx : wx.cell? (ad.add k) = some (.string (bs recs[k])) := (hbx.cell (by rw [block_of_add, hadb]; exact hg hne)).trans hcw
      have hkI : (k : Int) < (recs.length : Int) := by omega
      obtain ⟨q1, q2⟩ := hG.keeps k (by have := HSM.out; omega)
      rw [hl1.out] at q1 q2
      have hev := hG.ev k hlt hlt'
      have hap := hG.ap k hlt'
      have hsc := rp_succ (l := l) hlt'
      have hok := hG.ok _ (List.getElem_mem hlt')
      have hsz := hG.sz _ (List.getElem_mem hlt)
      rw [hl1.out] at hap hsc
      generalize evs[k] = v at hev hap hsc hok
      obtain ⟨ek, ex⟩ := v
      obtain ⟨l2, hl2⟩ : ∃ l2, l2 = (apply wrongV orderB l1 ⟨ek, ex⟩).1 := ⟨_, rfl⟩
      have hap2 : apply wrongV orderB l1 ⟨ek, ex⟩ = (l2, 0) := Prod.ext hl2.symm hap
      rw [← hl2] at hsc
      have HSC := Lib.hid hsc
      have hll : l1.length ≤ 1000 := by have := hG.len; have := hG.l0; omega
      have R1 := Lib.hid (read_at hev hsz wx (hE.below hbx))
      have A1 : Hid (∀ w1 o Ag cg Af cf Ar cr, Below wx.heap.size wx w1 → Parts w1 ex Ag cg Af cf Ar cr → Calls Tryz.prog 29 #[.slice A' l1.length c', .agg #[.int .i64 ek, .string ex.n, .slice Ag ex.gr.length cg, .slice Af ex.sn.length cf, .string ex.go, .int .i64 ex.st, .int .i64 ex.r.e, .string ex.r.at_, .string ex.r.tx, .slice Ar ex.r.fs.length cr]] (w1.alloc o) fun e w' => (∃ A2 c2, e = .returned (.tuple #[.slice A2 l2.length c2, .int .i64 0]) ∧ l2.length ≤ c2 ∧ Ops.Ops w' A2 l2) ∧ Below (w1.alloc o).heap.size (w1.alloc o) w') := Lib.hid fun w1 o Ag cg Af cf Ar cr h1 hp => by
        have ha : Below w1.heap.size w1 (w1.alloc o) := (Below.refl _ _).alloc (Nat.le_refl _) _
        exact apply_at hap2 A' c' Ag cg Af cf Ar cr (w1.alloc o) (hE.below ((hbx.trans (h1.mono hbx.size)).trans (ha.mono (Nat.le_trans hbx.size h1.size)))) q1 hok ((hops.below h1).below ha) hll hlc (hp.below ha)
      have HX := Lib.hid hbx
      have HLT := Lib.hid hlt
      clear hR hr hcw hops hlc hbx hne hg hG hE hl1 hev hap hap2 hl2 hsc hok hsz q1 q2 hlt' hll HSM
      generalize bs recs[k] = q at *
      clear hlt
      go_wp2_with (first
        | (go_at_call 75; (with_reducible refine (R1.out).mono ?_); rintro e w1 ⟨⟨Ag, cg, Af, cf, Ar, cr2, rfl, hp⟩, hb1⟩; have AX := Lib.hid (fun o => A1.out w1 o Ag cg Af cf Ar cr2 hb1 hp); clear hp)
        | (go_at_call 29; (with_reducible refine (AX.out _).mono ?_); rintro e w2 ⟨⟨A2, c2, rfl, hlc2, hops2⟩, hb2⟩))
      go_roundw
      case rel => exact ⟨k + 1, A2, c2, l2, by go_num, HLT.out, rfl, HSC, hlc2, hops2, (HX.out.trans ((hb1.alloc hb1.size _).mono HX.out.size)).trans (hb2.mono (Nat.le_trans HX.out.size (hb1.alloc hb1.size _).size))⟩
      case measure => have := HLT.out; simp [intOf]; omega
    · obtain rfl : k = recs.length := by omega
      have HL1 : Hid (rp l evs evs.length = l1) := Lib.hid (by rw [← HSM.out]; exact hl1.out)
      clear hR hr hG hE hl1
      go_wp2_with (fail)
      go_ret2
      unfold RepSays
      rw [HL1.out]
      exact ⟨⟨A', c', rfl, hlc, hops⟩, hbx⟩
end Go.Proofs.YtmlaolmaopjhbaaGreatDoor.Ol
/- OlOpen, what a claim needs of it (prune.py). -/
namespace Go.Proofs.YtmlaolmaopjhbaaGreatDoor.Ol
open Go.RowKit
open Dk (Dk Kp NoT DkS DkAt read names)
open Wl (Lw LogAt run parts take state rw_own)
open Ops (OkO)
set_option linter.unusedVariables false
set_option maxRecDepth 100000
structure Opens (d : Dk) (evs : List Ops.Ev) : Prop where
  dead : d.dead = false
  state : (read d state).2 ≠ 0
  all : ∀ n ∈ names d, n ≠ Wl.state ∧ n ∈ parts d 0
  len : d.l.length ≤ 1000000
  ok : ∀ k < (parts d 0).length, (take (run (parts d 0) d k).1 ((parts d 0).getD k [])).1.2.2 = 0
  sz : ∀ k < (parts d 0).length, (read (run (parts d 0) d k).1 ((parts d 0).getD k [])).1.length ≤ 1000000
  name : ∀ p ∈ parts d 0, p.length ≤ 1000
  few : (parts d 0).length ≤ 1000000
  good : Good [] (run (parts d 0) d (parts d 0).length).2.1 evs
noncomputable def opened (d : Dk) (evs : List Ops.Ev) : Ol := ⟨(run (parts d 0) d (parts d 0).length).1, ⟨0, (run (parts d 0) d (parts d 0).length).2.2, (run (parts d 0) d (parts d 0).length).2.1.length, false⟩, rp [] evs evs.length⟩
def OlOpenSays (b m nn : Nat) (d : Dk) (evs : List Ops.Ev) (W : World) (e : Ending) (w' : World) : Prop :=
  (∃ bo bl, e = .returned (.tuple #[.pointer (some ⟨bo, 0, none⟩), .int .i64 0]) ∧ W.heap.size ≤ bo ∧ W.heap.size ≤ bl ∧ OlAt w' bo bl b m (nn + (parts d 0).length) (opened d evs)) ∧ Kp (DkS b m) W w'
theorem env_kp {w0 W W' : World} {b m : Nat} (hE : Lg.Env w0) (h0 : Below w0.heap.size w0 W) (hb : w0.heap.size ≤ b) (hm : w0.heap.size ≤ m) (k : Kp (DkS b m) W W') : Lg.Env W' ∧ Below w0.heap.size w0 W' := by
  have h := h0.trans (k.below (fun i hi => by rcases hi with rfl | rfl; exact hb; exact hm) h0.size)
  exact ⟨hE.below h, h⟩
set_option maxHeartbeats 8000000 in
theorem olopen_any (w0 : World) (hE : Lg.Env w0) (b m nn : Nat) (d : Dk) (evs : List Ops.Ev) (W : World) (h0 : Below w0.heap.size w0 W) (hb0 : w0.heap.size ≤ b) (hm0 : w0.heap.size ≤ m) (hD : DkAt W b m nn d) (h : Opens d evs) (hnn : nn ≤ 1000000) :
    Calls Tryz.prog 5 #[.pointer (some ⟨b, 0, none⟩)] W (OlOpenSays b m nn d evs W) := by
  obtain ⟨recs, hrecs⟩ : ∃ recs, recs = (run (parts d 0) d (parts d 0).length).2.1 := ⟨_, rfl⟩
  have hG : Good [] recs evs := by rw [hrecs]; exact h.good
  have hb := Lg.lt_heap hD.st
  have hm := hD.map.lt
  have OP : Hid (Calls Tryz.prog 26 #[.pointer (some ⟨b, 0, none⟩)] W fun e w' => (∃ bl A c, e = .returned (.tuple #[.pointer (some ⟨bl, 0, none⟩), .string ⟨#[]⟩, .slice A recs.length c, .int .i64 0]) ∧ W.heap.size ≤ bl ∧ w'.ownsRow (bl + 1) 9 1 (.slice A recs.length c) recs.length (Wl.strs recs) ∧ LogAt w' bl b ⟨0, (run (parts d 0) d (parts d 0).length).2.2, recs.length, false⟩) ∧ DkAt w' b m (nn + (parts d 0).length) (run (parts d 0) d (parts d 0).length).1 ∧ Kp (DkS b m) W w') := Lib.hid (by
    rw [hrecs]
    exact Wl.popen_any b m nn d W hD h.dead h.state h.all h.len hnn h.ok h.sz h.name h.few (hE.below h0).2.1)
  have RP : Hid (∀ w1 w2 A c, Kp (DkS b m) W w1 → w1.ownsRow (W.heap.size + 1) 9 1 (.slice A recs.length c) recs.length (Wl.strs recs) → Below w1.heap.size w1 w2 → Calls Tryz.prog 28 #[.slice none 0 0, .slice A recs.length c] w2 fun e w' => (∃ A2 c2, e = .returned (.tuple #[.slice A2 (rp [] evs evs.length).length c2, .bool true]) ∧ (rp [] evs evs.length).length ≤ c2 ∧ Ops.Ops w' A2 (rp [] evs evs.length)) ∧ Below w2.heap.size w2 w') := Lib.hid fun w1 w2 A c hk ho h12 => by
    obtain ⟨g, hg, hgl, hR⟩ := rw_own (own_later ho h12)
    obtain ⟨hE1, hB1⟩ := env_kp hE h0 hb0 hm0 hk
    exact replay_any none [] 0 A c g recs evs w2 (hE1.below h12) hG Ops.Ops.none_ (Nat.le_refl _) hgl hR
  have KP := hG.keeps evs.length (Nat.le_refl _)
  have hl5 := hG.len
  have hl6 := hG.same
  have EQ : Hid (opened d evs = ⟨(run (parts d 0) d (parts d 0).length).1, ⟨0, (run (parts d 0) d (parts d 0).length).2.2, recs.length, false⟩, rp [] evs evs.length⟩) := Lib.hid (by rw [hrecs]; rfl)
  have KO := Lib.hid KP.1
  have hfew : (rp [] evs evs.length).length ≤ 400 := by have := KP.2; simp at this; omega
  clear hl6
  clear hG hE h0 hb0 hm0 hD h KP hrecs
  generalize run (parts d 0) d (parts d 0).length = rr at *
  generalize hl2 : rp [] evs evs.length = l2 at *
  clear hl2
  have FN : Hid (∀ bl w1 w3 A2 c2, W.heap.size ≤ bl → LogAt w1 bl b ⟨0, rr.2.2, recs.length, false⟩ → DkAt w1 b m (nn + (parts d 0).length) rr.1 → Kp (DkS b m) W w1 → l2.length ≤ c2 → Ops.Ops w3 A2 l2 → Below (w1.alloc (.cells #[.pointer (some ⟨bl, 0, none⟩), .slice none 0 0, .bool false] 69)).heap.size (w1.alloc (.cells #[.pointer (some ⟨bl, 0, none⟩), .slice none 0 0, .bool false] 69)) w3 → w3.cell? ⟨w1.heap.size, 1, none⟩ = some (.slice none 0 0) ∧ w3.frozen? ⟨w1.heap.size, 1, none⟩ = false ∧ OlAt (w3.setCell ⟨w1.heap.size, 1, none⟩ (.slice A2 l2.length c2)) w1.heap.size bl b m (nn + (parts d 0).length) (opened d evs) ∧ Kp (DkS b m) W (w3.setCell ⟨w1.heap.size, 1, none⟩ (.slice A2 l2.length c2))) := Lib.hid fun bl w1 w3 A2 c2 hbl hlog hdk hk hc2 hops hb3 => by
    have ha : Below w1.heap.size w1 (w1.alloc (.cells #[.pointer (some ⟨bl, 0, none⟩), .slice none 0 0, .bool false] 69)) := (Below.refl _ _).alloc (Nat.le_refl _) _
    have hst : w3.heap[w1.heap.size]? = some (.cells #[.pointer (some ⟨bl, 0, none⟩), .slice none 0 0, .bool false] 69 (0, 0)) := (hb3.block _ (by simp)).trans (heap_alloc_new w1 _)
    have h13 : Below w1.heap.size w1 w3 := ha.trans (hb3.mono ha.size)
    have l1 := hlog.lt
    have l2' := Lg.lt_heap hdk.st
    have l3 := hdk.map.lt
    refine ⟨(cell_heap hst 1).trans rfl, frozen_heap hst 1, ?_, ?_⟩
    · rw [EQ.out]
      have hnt : NoT w3 w1.heap.size := noT_cells hst (fun j s e => by
        match j, e with
        | 0, e => cases e
        | 1, e => cases e
        | 2, e => cases e
        | j + 3, e => simp at e)
      refine ⟨⟨A2, c2, (heap_set hst).trans rfl, hc2, ops_kp hops ((Kp.refl (fun i => i = w1.heap.size) w3).setCell rfl _) (fun k hk => by rw [show k = w1.heap.size from hk]; exact hnt)⟩, ⟨(heap_set_ne (by omega)).trans ((h13.block _ l1).trans hlog.st)⟩, hdk.keep ((heap_set_ne (by omega)).trans (h13.block _ l2')) ((heap_set_ne (by omega)).trans (h13.block _ l3)), KO.out, hfew⟩
    · exact (hk.then h13).grown (r := some w1.heap.size) (grown_set (grown_of_below (Below.refl _ _) _) (.inr rfl) _ _) (fun k e => by injection e with e; subst e; exact .inr hk.size)
  clear EQ KO
  go_enter Tryz.func5, Tryz.ntmps5
  go_wp2_with (first
    | (go_at_call 26; (with_reducible refine (OP.out).mono ?_); rintro e w1 ⟨⟨bl, A, c, rfl, hbl, hrow, hlog⟩, hdk, hk⟩; have R2 := Lib.hid (fun w2 => RP.out w1 w2 A c hk (own_base hrow (Nat.succ_le_succ hbl))); have HR := Lib.hid hrow; clear hrow)
    | (go_at_call 28; (with_reducible refine (R2.out _ ((Below.refl _ _).alloc (Nat.le_refl _) _)).mono ?_); rintro e w3 ⟨⟨A2, c2, rfl, hc2, hops⟩, hb3⟩; obtain ⟨y1, f1, hol, hkf⟩ := FN.out bl w1 w3 A2 c2 hbl hlog hdk hk hc2 hops hb3; have HOL := Lib.hid hol; have HKF := Lib.hid hkf; have HZ := Lib.hid hk.size; clear hol hkf hops hlog hdk hk))
  go_ret2
  exact ⟨⟨w1.heap.size, bl, rfl, HZ.out, hbl, HOL.out⟩, HKF.out⟩
end Go.Proofs.YtmlaolmaopjhbaaGreatDoor.Ol
/- OlDo, what a claim needs of it (prune.py). -/
namespace Go.Proofs.YtmlaolmaopjhbaaGreatDoor.Ol
open Go.RowKit
open Dk (Dk Kp NoT DkS DkAt)
open Wl (Lw LogAt appL)
open Ops (OkO Parts apply wrongV)
set_option linter.unusedVariables false
set_option maxRecDepth 100000
structure OkN (k : Int) (x : Op) : Prop where
  k0 : 0 ≤ k ∧ k ≤ 100
  s0 : 0 ≤ x.st ∧ x.st ≤ 100
  e0 : 0 ≤ x.r.e ∧ x.r.e ≤ 100
  at_ : x.r.at_.size ≤ 100000
  tx : x.r.tx.size ≤ 100000
structure DoIn (w0 W : World) (bo bl b m nn : Nat) (o : Ol) (k : Int) (x : Op) (Ag : Option Addr) (cg : Nat) (Af : Option Addr) (cf : Nat) (Ar : Option Addr) (cr : Nat) (l2 : List Op) : Prop where
  env : Lg.Env w0
  h0 : Below w0.heap.size w0 W
  hb : w0.heap.size ≤ b
  hm : w0.heap.size ≤ m
  hbl : w0.heap.size ≤ bl
  hbo : w0.heap.size ≤ bo
  at_ : OlAt W bo bl b m nn o
  okx : OkO x
  parts : Parts W x Ag cg Af cf Ar cr
  num : OkN k x
  ap : apply wrongV orderB o.l ⟨k, x⟩ = (l2, 0)
theorem apply_ev {l1 l2 : List Op} {k : Int} {x : Op} (h : apply wrongV orderB l1 ⟨k, x⟩ = (l2, 0)) (A : Option Addr) (c : Nat) (Ag : Option Addr) (cg : Nat) (Af : Option Addr) (cf : Nat) (Ar : Option Addr) (cr : Nat) (W : World) (hE : Lg.Env W) (h1 : ∀ x ∈ l1, OkO x) (hx : OkO x) (ho : Ops.Ops W A l1) (hl : l1.length ≤ 1000) (hc : l1.length ≤ c) (hp : Parts W x Ag cg Af cf Ar cr) :
    Calls Tryz.prog 29 #[.slice A l1.length c, .agg #[.int .i64 k, .string x.n, .slice Ag x.gr.length cg, .slice Af x.sn.length cf, .string x.go, .int .i64 x.st, .int .i64 x.r.e, .string x.r.at_, .string x.r.tx, .slice Ar x.r.fs.length cr]] W fun e w' => (∃ A' c', e = .returned (.tuple #[.slice A' l2.length c', .int .i64 0]) ∧ l2.length ≤ c' ∧ Ops.Ops w' A' l2) ∧ Below W.heap.size W w' := apply_at h A c Ag cg Af cf Ar cr W hE h1 hx ho hl hc hp
set_option maxHeartbeats 8000000 in
theorem do_same (w0 W : World) (bo bl b m nn : Nat) (o : Ol) (k : Int) (x : Op) (Ag : Option Addr) (cg : Nat) (Af : Option Addr) (cf : Nat) (Ar : Option Addr) (cr : Nat) (h : DoIn w0 W bo bl b m nn o k x Ag cg Af cf Ar cr o.l) :
    Calls Tryz.prog 6 #[.pointer (some ⟨bo, 0, none⟩), .agg #[.int .i64 k, .string x.n, .slice Ag x.gr.length cg, .slice Af x.sn.length cf, .string x.go, .int .i64 x.st, .int .i64 x.r.e, .string x.r.at_, .string x.r.tx, .slice Ar x.r.fs.length cr]] W fun e w' => e = .returned (.int .i64 0) ∧ Below W.heap.size W w' := by
  obtain ⟨A, c, hst, hc, hops⟩ := h.at_.st
  obtain ⟨W0, eW⟩ : ∃ W0, W0 = W.alloc (.cells #[.int .i64 k, .string x.n, .slice Ag x.gr.length cg, .slice Af x.sn.length cf, .string x.go, .int .i64 x.st, .int .i64 x.r.e, .string x.r.at_, .string x.r.tx, .slice Ar x.r.fs.length cr] 34) := ⟨_, rfl⟩
  have B0 : Below W.heap.size W W0 := by rw [eW]; exact (Below.refl _ _).alloc (Nat.le_refl _) _
  have g0 : W0.heap[W.heap.size]? = some (.cells #[.int .i64 k, .string x.n, .slice Ag x.gr.length cg, .slice Af x.sn.length cf, .string x.go, .int .i64 x.st, .int .i64 x.r.e, .string x.r.at_, .string x.r.tx, .slice Ar x.r.fs.length cr] 34 (0, 0)) := by rw [eW]; exact heap_alloc_new _ _
  have hlt0 := Lg.lt_heap g0
  have hE := h.env.below h.h0
  have hlo := Lg.lt_heap hst
  have hfew := h.at_.few
  have CL : Hid (∀ W', Below W0.heap.size W0 W' → (W'.cell? ⟨bo, 1, none⟩ = some (.slice A o.l.length c)) ∧ W'.cell? ⟨W.heap.size, 0, none⟩ = some (.int .i64 k) ∧ W'.cell? ⟨W.heap.size, 1, none⟩ = some (.string x.n) ∧ W'.cell? ⟨W.heap.size, 2, none⟩ = some (.slice Ag x.gr.length cg) ∧ W'.cell? ⟨W.heap.size, 3, none⟩ = some (.slice Af x.sn.length cf) ∧ W'.cell? ⟨W.heap.size, 4, none⟩ = some (.string x.go) ∧ W'.cell? ⟨W.heap.size, 5, none⟩ = some (.int .i64 x.st) ∧ W'.cell? ⟨W.heap.size, 6, none⟩ = some (.int .i64 x.r.e) ∧ W'.cell? ⟨W.heap.size, 7, none⟩ = some (.string x.r.at_) ∧ W'.cell? ⟨W.heap.size, 8, none⟩ = some (.string x.r.tx) ∧ W'.cell? ⟨W.heap.size, 9, none⟩ = some (.slice Ar x.r.fs.length cr)) := Lib.hid fun W' hW => by
    have h1 : W'.heap[W.heap.size]? = _ := (hW.block _ hlt0).trans g0
    have h2 : W'.heap[bo]? = _ := (hW.block _ (Nat.lt_of_lt_of_le hlo B0.size)).trans ((B0.block _ hlo).trans hst)
    exact ⟨(cell_heap h2 1).trans rfl, (cell_heap h1 0).trans rfl, (cell_heap h1 1).trans rfl, (cell_heap h1 2).trans rfl, (cell_heap h1 3).trans rfl, (cell_heap h1 4).trans rfl, (cell_heap h1 5).trans rfl, (cell_heap h1 6).trans rfl, (cell_heap h1 7).trans rfl, (cell_heap h1 8).trans rfl, (cell_heap h1 9).trans rfl⟩
  have c2 : W0.cell? ⟨bo, 2, none⟩ = some (.bool false) := (cell_heap ((B0.block _ hlo).trans hst) 2).trans rfl
  have AP : Hid (∀ W', Below W0.heap.size W0 W' → Calls Tryz.prog 29 #[.slice A o.l.length c, .agg #[.int .i64 k, .string x.n, .slice Ag x.gr.length cg, .slice Af x.sn.length cf, .string x.go, .int .i64 x.st, .int .i64 x.r.e, .string x.r.at_, .string x.r.tx, .slice Ar x.r.fs.length cr]] W' fun e w' => (∃ A' c', e = .returned (.tuple #[.slice A' o.l.length c', .int .i64 0]) ∧ o.l.length ≤ c' ∧ Ops.Ops w' A' o.l) ∧ Below W'.heap.size W' w') := Lib.hid fun W' hW => by
    have hb := B0.trans (hW.mono B0.size)
    exact apply_ev h.ap A c Ag cg Af cf Ar cr W' (hE.below hb) h.at_.ok h.okx (hops.below hb) (by omega) hc (h.parts.below hb)
  have SM : Hid (∀ w1 A' c', Below W0.heap.size W0 w1 → Ops.Ops w1 A' o.l → Calls Tryz.prog 30 #[.slice A' o.l.length c', .slice A o.l.length c] w1 fun e w' => e = .returned (.bool true) ∧ Below w1.heap.size w1 w') := Lib.hid fun w1 A' c' hW ho => by
    have hb := B0.trans (hW.mono B0.size)
    exact Ops.osame_any A' A o.l o.l c' c w1 (hE.below hb).2.1 (by omega) (by omega) h.at_.ok h.at_.ok ho (hops.below hb) (by simp)
  have HB0 := Lib.hid B0
  clear h hE hops hc hst g0 B0 hlo hlt0 hfew
  go_enter Tryz.func6, Tryz.ntmps6
  go_upto_region 1 with (fail)
  rw [← eW]
  clear eW
  go_upto_region 5 with (fail)
  go_region_held3 (fun W' => (W'.cell? ⟨bo, 1, none⟩ = some (.slice A o.l.length c)) ∧ W'.cell? ⟨W.heap.size, 0, none⟩ = some (.int .i64 k) ∧ W'.cell? ⟨W.heap.size, 1, none⟩ = some (.string x.n) ∧ W'.cell? ⟨W.heap.size, 2, none⟩ = some (.slice Ag x.gr.length cg) ∧ W'.cell? ⟨W.heap.size, 3, none⟩ = some (.slice Af x.sn.length cf) ∧ W'.cell? ⟨W.heap.size, 4, none⟩ = some (.string x.go) ∧ W'.cell? ⟨W.heap.size, 5, none⟩ = some (.int .i64 x.st) ∧ W'.cell? ⟨W.heap.size, 6, none⟩ = some (.int .i64 x.r.e) ∧ W'.cell? ⟨W.heap.size, 7, none⟩ = some (.string x.r.at_) ∧ W'.cell? ⟨W.heap.size, 8, none⟩ = some (.string x.r.tx) ∧ W'.cell? ⟨W.heap.size, 9, none⟩ = some (.slice Ar x.r.fs.length cr)) (first | (with_reducible exact CL.out _ (Below.refl _ _).drew) | (with_reducible exact CL.out _ hx1)) (first
    | (go_at_call 29; (with_reducible refine Calls.mono (AP.out _ (Below.refl _ _).drew) ?_); rintro e w1 ⟨⟨A', c', rfl, hc', ho'⟩, hb1⟩; have hx1 := ((Below.refl W0.heap.size W0).drew).trans hb1))
  all_goals
    obtain ⟨y1, _⟩ := CL.out _ hx1
    have S1 := Lib.hid (SM.out w1 A' c' hx1 ho')
    clear ho' hc' AP SM
    go_wp2_with (go_at_call 30; (with_reducible refine (S1.out).mono ?_); rintro e w2 ⟨rfl, hb2⟩)
    go_ret
    exact ⟨rfl, HB0.out.trans ((hx1.trans (hb2.mono hx1.size)).mono HB0.out.size)⟩
end Go.Proofs.YtmlaolmaopjhbaaGreatDoor.Ol
