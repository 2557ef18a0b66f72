/- Joined by mkmerged.py: OlDo2, OlEx, OlOne, OlAwakeA. -/
import Derived.Test.YtmlaolmaopjhbaaGreatDoorMi37
/- OlDo2, what a claim needs of it (prune.py). -/
namespace Go.Proofs.YtmlaolmaopjhbaaGreatDoor.Ol
open Go.RowKit
open Dk (Dk Kp NoT DkS DkAt)
open Wl (Lw LogAt appL)
open Ops (OkO Parts apply wrongV)
set_option linter.unusedVariables false
set_option maxRecDepth 100000
noncomputable def did (o : Ol) (k : Int) (x : Op) (l2 : List Op) : Ol := ⟨(appL o.d o.log (Cd.evB ⟨k, x⟩)).1, (appL o.d o.log (Cd.evB ⟨k, x⟩)).2.1, l2⟩
def DoSays (W : World) (bo bl b m nn : Nat) (o : Ol) (k : Int) (x : Op) (l2 : List Op) (e : Ending) (w' : World) : Prop := e = .returned (.int .i64 0) ∧ OlAt w' bo bl b m (nn + 2) (did o k x l2) ∧ Kp (OlS bo bl b m) W w'
theorem kept {W3 W4 : World} {b m bl k : Nat} (hk : Kp (fun k => k = b ∨ k = m ∨ k = bl) W3 W4) (h : k < W3.heap.size) (h1 : k ≠ b) (h2 : k ≠ m) (h3 : k ≠ bl) : W4.heap[k]? = W3.heap[k]? := hk.block k h (fun e => by rcases e with e | e | e <;> omega)
set_option maxHeartbeats 8000000 in
theorem do_app (w0 W : World) (bo bl b m nn : Nat) (o : Ol) (k : Int) (x : Op) (Ag : Option Addr) (cg : Nat) (Af : Option Addr) (cf : Nat) (Ar : Option Addr) (cr : Nat) (l2 : List Op) (h : DoIn w0 W bo bl b m nn o k x Ag cg Af cf Ar cr l2) (hne : l2 ≠ o.l) (hl2 : l2.length ≤ 400) (hd : o.log.dead = false) (hmany : o.log.many < 8) (hnu : o.log.number ≤ 1000000) (hpa : o.log.part ≤ 1000000) (hlen : (Cd.evB ⟨k, x⟩).length ≤ 1000000) (hgo : (appL o.d o.log (Cd.evB ⟨k, x⟩)).2.2 = 0) (hnn : nn ≤ 1000000) :
    Calls Tryz.prog 6 #[.pointer (some ⟨bo, 0, none⟩), .agg #[.int .i64 k, .string x.n, .slice Ag x.gr.length cg, .slice Af x.sn.length cf, .string x.go, .int .i64 x.st, .int .i64 x.r.e, .string x.r.at_, .string x.r.tx, .slice Ar x.r.fs.length cr]] W (DoSays W bo bl b m nn o k x l2) := by
  obtain ⟨A, c, hst, hc, hops⟩ := h.at_.st
  obtain ⟨W0, eW⟩ : ∃ W0, W0 = W.alloc (.cells #[.int .i64 k, .string x.n, .slice Ag x.gr.length cg, .slice Af x.sn.length cf, .string x.go, .int .i64 x.st, .int .i64 x.r.e, .string x.r.at_, .string x.r.tx, .slice Ar x.r.fs.length cr] 34) := ⟨_, rfl⟩
  have B0 : Below W.heap.size W W0 := by rw [eW]; exact (Below.refl _ _).alloc (Nat.le_refl _) _
  have g0 : W0.heap[W.heap.size]? = some (.cells #[.int .i64 k, .string x.n, .slice Ag x.gr.length cg, .slice Af x.sn.length cf, .string x.go, .int .i64 x.st, .int .i64 x.r.e, .string x.r.at_, .string x.r.tx, .slice Ar x.r.fs.length cr] 34 (0, 0)) := by rw [eW]; exact heap_alloc_new _ _
  have hlt0 := Lg.lt_heap g0
  have hE := h.env.below h.h0
  obtain ⟨hlo, hlbl, hlb, hlm⟩ := h.at_.lt
  obtain ⟨n1, n2, n3⟩ := h.at_.ne
  have hfew := h.at_.few
  obtain ⟨E, hEq⟩ : ∃ E, E = Cd.evB ⟨k, x⟩ := ⟨_, rfl⟩
  have CELLS : Hid (∀ W' : World, W'.heap[W.heap.size]? = some (.cells #[.int .i64 k, .string x.n, .slice Ag x.gr.length cg, .slice Af x.sn.length cf, .string x.go, .int .i64 x.st, .int .i64 x.r.e, .string x.r.at_, .string x.r.tx, .slice Ar x.r.fs.length cr] 34 (0, 0)) → ∀ (a1 v : Value), W'.heap[bo]? = some (.cells #[.pointer (some ⟨bl, 0, none⟩), a1, v] 69 (0, 0)) → (W'.cell? ⟨bo, 0, none⟩ = some (.pointer (some ⟨bl, 0, none⟩))) ∧ W'.cell? ⟨W.heap.size, 0, none⟩ = some (.int .i64 k) ∧ W'.cell? ⟨W.heap.size, 1, none⟩ = some (.string x.n) ∧ W'.cell? ⟨W.heap.size, 2, none⟩ = some (.slice Ag x.gr.length cg) ∧ W'.cell? ⟨W.heap.size, 3, none⟩ = some (.slice Af x.sn.length cf) ∧ W'.cell? ⟨W.heap.size, 4, none⟩ = some (.string x.go) ∧ W'.cell? ⟨W.heap.size, 5, none⟩ = some (.int .i64 x.st) ∧ W'.cell? ⟨W.heap.size, 6, none⟩ = some (.int .i64 x.r.e) ∧ W'.cell? ⟨W.heap.size, 7, none⟩ = some (.string x.r.at_) ∧ W'.cell? ⟨W.heap.size, 8, none⟩ = some (.string x.r.tx) ∧ W'.cell? ⟨W.heap.size, 9, none⟩ = some (.slice Ar x.r.fs.length cr)) := Lib.hid fun W' h1 a1 v h2 => ⟨(cell_heap h2 0).trans rfl, (cell_heap h1 0).trans rfl, (cell_heap h1 1).trans rfl, (cell_heap h1 2).trans rfl, (cell_heap h1 3).trans rfl, (cell_heap h1 4).trans rfl, (cell_heap h1 5).trans rfl, (cell_heap h1 6).trans rfl, (cell_heap h1 7).trans rfl, (cell_heap h1 8).trans rfl, (cell_heap h1 9).trans rfl⟩
  have BX : Hid (∀ W', Below W0.heap.size W0 W' → W'.heap[W.heap.size]? = some (.cells #[.int .i64 k, .string x.n, .slice Ag x.gr.length cg, .slice Af x.sn.length cf, .string x.go, .int .i64 x.st, .int .i64 x.r.e, .string x.r.at_, .string x.r.tx, .slice Ar x.r.fs.length cr] 34 (0, 0)) ∧ W'.heap[bo]? = some (.cells #[.pointer (some ⟨bl, 0, none⟩), .slice A o.l.length c, .bool false] 69 (0, 0))) := Lib.hid fun W' hW => ⟨(hW.block _ hlt0).trans g0, (hW.block _ (Nat.lt_of_lt_of_le hlo B0.size)).trans ((B0.block _ hlo).trans hst)⟩
  have CL : Hid (∀ W', Below W0.heap.size W0 W' → (W'.cell? ⟨bo, 1, none⟩ = some (.slice A o.l.length c)) ∧ W'.cell? ⟨W.heap.size, 0, none⟩ = some (.int .i64 k) ∧ W'.cell? ⟨W.heap.size, 1, none⟩ = some (.string x.n) ∧ W'.cell? ⟨W.heap.size, 2, none⟩ = some (.slice Ag x.gr.length cg) ∧ W'.cell? ⟨W.heap.size, 3, none⟩ = some (.slice Af x.sn.length cf) ∧ W'.cell? ⟨W.heap.size, 4, none⟩ = some (.string x.go) ∧ W'.cell? ⟨W.heap.size, 5, none⟩ = some (.int .i64 x.st) ∧ W'.cell? ⟨W.heap.size, 6, none⟩ = some (.int .i64 x.r.e) ∧ W'.cell? ⟨W.heap.size, 7, none⟩ = some (.string x.r.at_) ∧ W'.cell? ⟨W.heap.size, 8, none⟩ = some (.string x.r.tx) ∧ W'.cell? ⟨W.heap.size, 9, none⟩ = some (.slice Ar x.r.fs.length cr)) := Lib.hid fun W' hW => by
    obtain ⟨h1, h2⟩ := BX.out W' hW
    exact ⟨(cell_heap h2 1).trans rfl, (cell_heap h1 0).trans rfl, (cell_heap h1 1).trans rfl, (cell_heap h1 2).trans rfl, (cell_heap h1 3).trans rfl, (cell_heap h1 4).trans rfl, (cell_heap h1 5).trans rfl, (cell_heap h1 6).trans rfl, (cell_heap h1 7).trans rfl, (cell_heap h1 8).trans rfl, (cell_heap h1 9).trans rfl⟩
  have CL0 : Hid (∀ W', Below W0.heap.size W0 W' → (W'.cell? ⟨bo, 0, none⟩ = some (.pointer (some ⟨bl, 0, none⟩))) ∧ W'.cell? ⟨W.heap.size, 0, none⟩ = some (.int .i64 k) ∧ W'.cell? ⟨W.heap.size, 1, none⟩ = some (.string x.n) ∧ W'.cell? ⟨W.heap.size, 2, none⟩ = some (.slice Ag x.gr.length cg) ∧ W'.cell? ⟨W.heap.size, 3, none⟩ = some (.slice Af x.sn.length cf) ∧ W'.cell? ⟨W.heap.size, 4, none⟩ = some (.string x.go) ∧ W'.cell? ⟨W.heap.size, 5, none⟩ = some (.int .i64 x.st) ∧ W'.cell? ⟨W.heap.size, 6, none⟩ = some (.int .i64 x.r.e) ∧ W'.cell? ⟨W.heap.size, 7, none⟩ = some (.string x.r.at_) ∧ W'.cell? ⟨W.heap.size, 8, none⟩ = some (.string x.r.tx) ∧ W'.cell? ⟨W.heap.size, 9, none⟩ = some (.slice Ar x.r.fs.length cr)) := Lib.hid fun W' hW => CELLS.out W' (BX.out W' hW).1 _ _ (BX.out W' hW).2
  have c2 : W0.cell? ⟨bo, 2, none⟩ = some (.bool false) := (cell_heap ((B0.block _ hlo).trans hst) 2).trans rfl
  have AP : Hid (∀ W', Below W0.heap.size W0 W' → Calls Tryz.prog 29 #[.slice A o.l.length c, .agg #[.int .i64 k, .string x.n, .slice Ag x.gr.length cg, .slice Af x.sn.length cf, .string x.go, .int .i64 x.st, .int .i64 x.r.e, .string x.r.at_, .string x.r.tx, .slice Ar x.r.fs.length cr]] W' fun e w' => (∃ A' c', e = .returned (.tuple #[.slice A' l2.length c', .int .i64 0]) ∧ l2.length ≤ c' ∧ Ops.Ops w' A' l2) ∧ Below W'.heap.size W' w') := Lib.hid fun W' hW => by
    have hb := B0.trans (hW.mono B0.size)
    exact apply_ev h.ap A c Ag cg Af cf Ar cr W' (hE.below hb) h.at_.ok h.okx (hops.below hb) (by omega) hc (h.parts.below hb)
  have OK2 : ∀ x ∈ l2, OkO x := (Ops.apply_keeps h.ap h.at_.ok h.okx).1
  have SM : Hid (∀ w1 A' c', Below W0.heap.size W0 w1 → Ops.Ops w1 A' l2 → Calls Tryz.prog 30 #[.slice A' l2.length c', .slice A o.l.length c] w1 fun e w' => e = .returned (.bool false) ∧ Below w1.heap.size w1 w') := Lib.hid fun w1 A' c' hW ho => by
    have hb := B0.trans (hW.mono B0.size)
    exact Ops.osame_any A' A l2 o.l c' c w1 (hE.below hb).2.1 (by omega) (by omega) OK2 h.at_.ok ho (hops.below hb) (by simpa using hne)
  have LN : Hid (∀ w2, Below W0.heap.size W0 w2 → Calls Tryz.prog 31 #[.pointer (some ⟨bl, 0, none⟩)] w2 fun e w' => e = .returned (.int .i64 (o.log.many : Int)) ∧ w2 = w') := Lib.hid fun w2 hW => Wl.plen_any w2 bl b o.log (h.at_.log.below (B0.trans (hW.mono B0.size)))
  have EV : Hid (∀ w2, Below W0.heap.size W0 w2 → Calls Tryz.prog 36 #[.agg #[.int .i64 k, .string x.n, .slice Ag x.gr.length cg, .slice Af x.sn.length cf, .string x.go, .int .i64 x.st, .int .i64 x.r.e, .string x.r.at_, .string x.r.tx, .slice Ar x.r.fs.length cr]] w2 fun e w' => e = .returned (.string (bs E)) ∧ Below w2.heap.size w2 w') := Lib.hid fun w2 hW => by
    have hb := B0.trans (hW.mono B0.size)
    rw [hEq]
    obtain ⟨⟨a1, a2⟩, ⟨a3, a4⟩, ⟨a5, a6⟩, a7, a8⟩ := h.num
    exact Cd.event_any k x Ag cg Af cf Ar cr w2 (hE.below hb).2.1 h.okx (h.parts.below hb) (by omega) (by omega) (by omega) (by omega) (by omega) (by omega) a7 a8
  have hE0 : 0 < E.length := by rw [hEq]; unfold Cd.evB Pk.text; simp; omega
  obtain ⟨d2, hd2⟩ : ∃ d2, d2 = (appL o.d o.log E).1 := ⟨_, rfl⟩
  obtain ⟨x2, hx2⟩ : ∃ x2, x2 = (appL o.d o.log E).2.1 := ⟨_, rfl⟩
  have APP : Hid (∀ w3, Below W0.heap.size W0 w3 → Calls Tryz.prog 35 #[.pointer (some ⟨bl, 0, none⟩), .slice (some ⟨w3.heap.size, 0, none⟩) 1 1] (w3.alloc (.cells #[.string (bs E)] 9)) fun e w' => e = .returned (.int .i64 0) ∧ DkAt w' b m (nn + 2) d2 ∧ LogAt w' bl b x2 ∧ Kp (fun k => k = b ∨ k = m ∨ k = bl) (w3.alloc (.cells #[.string (bs E)] 9)) w') := Lib.hid fun w3 hW => by
    have ha : Below w3.heap.size w3 (w3.alloc (.cells #[.string (bs E)] 9)) := (Below.refl _ _).alloc (Nat.le_refl _) _
    have hb := (B0.trans (hW.mono B0.size)).trans (ha.mono (Nat.le_trans B0.size hW.size))
    have hs : (w3.alloc (.cells #[.string (bs E)] 9)).heap[w3.heap.size]? = some (.cells #[.string (bs E)] 9 (0, 0)) := heap_alloc_new _ _
    have hst : Lg.Strs (w3.alloc (.cells #[.string (bs E)] 9)) (some ⟨w3.heap.size, 0, none⟩) [bs E] := ⟨rfl, fun _ => ⟨_, rfl, Lg.lt_heap hs, fun j u hu => by
      rw [Lg.add_eq, Lg.cell_at hs]
      simpa using hu⟩⟩
    refine (Wl.papp_any b m nn bl o.d o.log E (some ⟨w3.heap.size, 0, none⟩) 1 _ (h.at_.dk.below hb) (h.at_.log.below hb) hd hE0 (by rw [hEq]; exact hlen) hst (hE.below hb).2.1 (by unfold maxLen; omega) hnu hpa (by omega)).mono ?_
    rintro e w' ⟨h1, h2, h3, h4⟩
    rw [hEq, hgo] at h1
    rw [hd2, hx2]
    exact ⟨h1, h2, h3, h4⟩
  -- what the blocks that Do reads hold behind Append, and behind told
  have K4 : Hid (∀ w3 w4 : World, Below W0.heap.size W0 w3 → Kp (fun k => k = b ∨ k = m ∨ k = bl) (w3.alloc (.cells #[.string (bs E)] 9)) w4 → w4.heap[bo]? = some (.cells #[.pointer (some ⟨bl, 0, none⟩), .slice A o.l.length c, .bool false] 69 (0, 0)) ∧ w4.heap[W.heap.size]? = some (.cells #[.int .i64 k, .string x.n, .slice Ag x.gr.length cg, .slice Af x.sn.length cf, .string x.go, .int .i64 x.st, .int .i64 x.r.e, .string x.r.at_, .string x.r.tx, .slice Ar x.r.fs.length cr] 34 (0, 0))) := Lib.hid fun w3 w4 hW hk => by
    have ha : Below w3.heap.size w3 (w3.alloc (.cells #[.string (bs E)] 9)) := (Below.refl _ _).alloc (Nat.le_refl _) _
    obtain ⟨h1, h2⟩ := BX.out _ (hW.trans (ha.mono hW.size))
    exact ⟨(kept hk (Lg.lt_heap h2) n2 n3 n1).trans h2, (kept hk (Lg.lt_heap h1) (by omega) (by omega) (by omega)).trans h1⟩
  have FN : Hid (∀ (w1 w3 w4 : World) (A' : Option Addr) (c' : Nat), Below W0.heap.size W0 w3 → w1.heap.size ≤ w3.heap.size → Ops.Ops w3 A' l2 → l2.length ≤ c' → DkAt w4 b m (nn + 2) d2 → LogAt w4 bl b x2 → Kp (fun k => k = b ∨ k = m ∨ k = bl) (w3.alloc (.cells #[.string (bs E)] 9)) w4 → (w4.setCell ⟨bo, 2, none⟩ (.bool false)).cell? ⟨bo, 1, none⟩ = some (.slice A o.l.length c) ∧ (w4.setCell ⟨bo, 2, none⟩ (.bool false)).frozen? ⟨bo, 1, none⟩ = false ∧ DoSays W bo bl b m nn o k x l2 (.returned (.int .i64 0)) ((w4.setCell ⟨bo, 2, none⟩ (.bool false)).setCell ⟨bo, 1, none⟩ (.slice A' l2.length c'))) := Lib.hid fun w1 w3 w4 A' c' hW _ ho hc' hdk hlog hk => by
    have ha : Below w3.heap.size w3 (w3.alloc (.cells #[.string (bs E)] 9)) := (Below.refl _ _).alloc (Nat.le_refl _) _
    obtain ⟨h1, _⟩ := K4.out w3 w4 hW hk
    have h5 : (w4.setCell ⟨bo, 2, none⟩ (.bool false)).heap[bo]? = some (.cells #[.pointer (some ⟨bl, 0, none⟩), .slice A o.l.length c, .bool false] 69 (0, 0)) := (heap_set h1).trans rfl
    have hb := B0.trans (hW.mono B0.size)
    have hb3 := hb.trans (ha.mono hb.size)
    have at3 := h.at_.below hb3
    have kk : Kp (OlS bo bl b m) (w3.alloc (.cells #[.string (bs E)] 9)) ((w4.setCell ⟨bo, 2, none⟩ (.bool false)).setCell ⟨bo, 1, none⟩ (.slice A' l2.length c')) := (((hk.mono (fun i hi => by rcases hi with e | e | e; exact .inl e; exact .inr (.inl e); exact .inr (.inr (.inl e)))).setCell (p := ⟨bo, 2, none⟩) (.inr (.inr (.inr rfl))) _).setCell (p := ⟨bo, 1, none⟩) (.inr (.inr (.inr rfl))) _)
    refine ⟨(cell_heap h5 1).trans rfl, frozen_heap h5 1, rfl, ?_, (Kp.of_below hb3).trans kk⟩
    refine ⟨⟨A', c', (heap_set h5).trans rfl, hc', ops_kp (ho.below ha) kk at3.noT⟩, ⟨(heap_set_ne n1).trans ((heap_set_ne n1).trans ?_)⟩, ?_, OK2, hl2⟩
    · rw [show (did o k x l2).log = x2 from by rw [hx2, hEq]; rfl]
      exact hlog.st
    · rw [show (did o k x l2).d = d2 from by rw [hd2, hEq]; rfl]
      exact hdk.keep ((heap_set_ne n2).trans (heap_set_ne n2)) ((heap_set_ne n3).trans (heap_set_ne n3))
  have TD : Hid (∀ w3 w4 : World, Below W0.heap.size W0 w3 → Kp (fun k => k = b ∨ k = m ∨ k = bl) (w3.alloc (.cells #[.string (bs E)] 9)) w4 → Calls Tryz.prog 32 #[.pointer (some ⟨bo, 0, none⟩), .int .i64 0] w4 fun e w' => e = .returned (.int .i64 0) ∧ w' = w4.setCell ⟨bo, 2, none⟩ (.bool false)) := Lib.hid fun w3 w4 hW hk => told_any w4 bo _ _ (K4.out w3 w4 hW hk).1
  have S4 : Hid (∀ w3 w4 : World, Below W0.heap.size W0 w3 → Kp (fun k => k = b ∨ k = m ∨ k = bl) (w3.alloc (.cells #[.string (bs E)] 9)) w4 → (w4.cell? ⟨bo, 0, none⟩ = some (.pointer (some ⟨bl, 0, none⟩))) ∧ w4.cell? ⟨W.heap.size, 0, none⟩ = some (.int .i64 k) ∧ w4.cell? ⟨W.heap.size, 1, none⟩ = some (.string x.n) ∧ w4.cell? ⟨W.heap.size, 2, none⟩ = some (.slice Ag x.gr.length cg) ∧ w4.cell? ⟨W.heap.size, 3, none⟩ = some (.slice Af x.sn.length cf) ∧ w4.cell? ⟨W.heap.size, 4, none⟩ = some (.string x.go) ∧ w4.cell? ⟨W.heap.size, 5, none⟩ = some (.int .i64 x.st) ∧ w4.cell? ⟨W.heap.size, 6, none⟩ = some (.int .i64 x.r.e) ∧ w4.cell? ⟨W.heap.size, 7, none⟩ = some (.string x.r.at_) ∧ w4.cell? ⟨W.heap.size, 8, none⟩ = some (.string x.r.tx) ∧ w4.cell? ⟨W.heap.size, 9, none⟩ = some (.slice Ar x.r.fs.length cr)) := Lib.hid fun w3 w4 hW hk => CELLS.out w4 (K4.out w3 w4 hW hk).2 _ _ (K4.out w3 w4 hW hk).1
  have S5 : Hid (∀ w3 w4 : World, Below W0.heap.size W0 w3 → Kp (fun k => k = b ∨ k = m ∨ k = bl) (w3.alloc (.cells #[.string (bs E)] 9)) w4 → ((w4.setCell ⟨bo, 2, none⟩ (.bool false)).cell? ⟨bo, 0, none⟩ = some (.pointer (some ⟨bl, 0, none⟩))) ∧ (w4.setCell ⟨bo, 2, none⟩ (.bool false)).cell? ⟨W.heap.size, 0, none⟩ = some (.int .i64 k) ∧ (w4.setCell ⟨bo, 2, none⟩ (.bool false)).cell? ⟨W.heap.size, 1, none⟩ = some (.string x.n) ∧ (w4.setCell ⟨bo, 2, none⟩ (.bool false)).cell? ⟨W.heap.size, 2, none⟩ = some (.slice Ag x.gr.length cg) ∧ (w4.setCell ⟨bo, 2, none⟩ (.bool false)).cell? ⟨W.heap.size, 3, none⟩ = some (.slice Af x.sn.length cf) ∧ (w4.setCell ⟨bo, 2, none⟩ (.bool false)).cell? ⟨W.heap.size, 4, none⟩ = some (.string x.go) ∧ (w4.setCell ⟨bo, 2, none⟩ (.bool false)).cell? ⟨W.heap.size, 5, none⟩ = some (.int .i64 x.st) ∧ (w4.setCell ⟨bo, 2, none⟩ (.bool false)).cell? ⟨W.heap.size, 6, none⟩ = some (.int .i64 x.r.e) ∧ (w4.setCell ⟨bo, 2, none⟩ (.bool false)).cell? ⟨W.heap.size, 7, none⟩ = some (.string x.r.at_) ∧ (w4.setCell ⟨bo, 2, none⟩ (.bool false)).cell? ⟨W.heap.size, 8, none⟩ = some (.string x.r.tx) ∧ (w4.setCell ⟨bo, 2, none⟩ (.bool false)).cell? ⟨W.heap.size, 9, none⟩ = some (.slice Ar x.r.fs.length cr)) := Lib.hid fun w3 w4 hW hk => CELLS.out _ ((heap_set_ne (by omega)).trans (K4.out w3 w4 hW hk).2) _ _ (heap_set (K4.out w3 w4 hW hk).1)
  have hm8 : ¬ (8 : Int) ≤ (o.log.many : Int) := by omega
  have HB0 := Lib.hid B0
  clear h hE hops hc hst g0 B0 hlo hlt0 hfew hne hl2 hd hmany hnu hpa hlen hgo hnn hEq OK2 hE0 hd2 hx2 hlbl hlb hlm n1 n2 n3 CELLS BX K4
  generalize o.log.many = mn at *
  generalize DoSays W bo bl b m nn o k x l2 = Q at *
  generalize bs E = es at *
  go_enter Tryz.func6, Tryz.ntmps6
  go_upto_region 1 with (fail)
  rw [← eW]
  clear eW
  go_upto_region 5 with (fail)
  go_region_held3 (fun W' => (W'.cell? ⟨bo, 1, none⟩ = some (.slice A o.l.length c)) ∧ W'.cell? ⟨W.heap.size, 0, none⟩ = some (.int .i64 k) ∧ W'.cell? ⟨W.heap.size, 1, none⟩ = some (.string x.n) ∧ W'.cell? ⟨W.heap.size, 2, none⟩ = some (.slice Ag x.gr.length cg) ∧ W'.cell? ⟨W.heap.size, 3, none⟩ = some (.slice Af x.sn.length cf) ∧ W'.cell? ⟨W.heap.size, 4, none⟩ = some (.string x.go) ∧ W'.cell? ⟨W.heap.size, 5, none⟩ = some (.int .i64 x.st) ∧ W'.cell? ⟨W.heap.size, 6, none⟩ = some (.int .i64 x.r.e) ∧ W'.cell? ⟨W.heap.size, 7, none⟩ = some (.string x.r.at_) ∧ W'.cell? ⟨W.heap.size, 8, none⟩ = some (.string x.r.tx) ∧ W'.cell? ⟨W.heap.size, 9, none⟩ = some (.slice Ar x.r.fs.length cr)) (first | (with_reducible exact CL.out _ (Below.refl _ _).drew) | (with_reducible exact CL.out _ hx1)) (first
    | (go_at_call 29; (with_reducible refine Calls.mono (AP.out _ (Below.refl _ _).drew) ?_); rintro e w1 ⟨⟨A', c', rfl, hc', ho'⟩, hb1⟩; have hx1 := ((Below.refl W0.heap.size W0).drew).trans hb1))
  all_goals
    obtain ⟨y1, _⟩ := CL.out _ hx1
    have S1 := Lib.hid (SM.out w1 A' c' hx1 ho')
    have HO := Lib.hid ho'
    have HX1 := Lib.hid hx1
    have HC := Lib.hid hc'
    obtain ⟨z0, _⟩ := CL0.out _ hx1
    have CZ := Lib.hid (fun w2 (hb2 : Below w1.heap.size w1 w2) => (CL0.out w2 (HX1.out.trans (hb2.mono HX1.out.size))).1)
    clear ho' hc' AP SM hb1
    go_upto_region 12 with (first
      | (go_at_call 30; (with_reducible refine (S1.out).mono ?_); rintro e w2 ⟨rfl, hb2⟩; have z2 := CZ.out w2 hb2; have hx2 := HX1.out.trans (hb2.mono HX1.out.size); have L2 := Lib.hid (LN.out w2 hx2))
      | (go_at_call 31; (with_reducible refine (L2.out).mono ?_); rintro e w' ⟨rfl, rfl⟩))
    go_region_held3 (fun W' => (W'.cell? ⟨bo, 0, none⟩ = some (.pointer (some ⟨bl, 0, none⟩))) ∧ W'.cell? ⟨W.heap.size, 0, none⟩ = some (.int .i64 k) ∧ W'.cell? ⟨W.heap.size, 1, none⟩ = some (.string x.n) ∧ W'.cell? ⟨W.heap.size, 2, none⟩ = some (.slice Ag x.gr.length cg) ∧ W'.cell? ⟨W.heap.size, 3, none⟩ = some (.slice Af x.sn.length cf) ∧ W'.cell? ⟨W.heap.size, 4, none⟩ = some (.string x.go) ∧ W'.cell? ⟨W.heap.size, 5, none⟩ = some (.int .i64 x.st) ∧ W'.cell? ⟨W.heap.size, 6, none⟩ = some (.int .i64 x.r.e) ∧ W'.cell? ⟨W.heap.size, 7, none⟩ = some (.string x.r.at_) ∧ W'.cell? ⟨W.heap.size, 8, none⟩ = some (.string x.r.tx) ∧ W'.cell? ⟨W.heap.size, 9, none⟩ = some (.slice Ar x.r.fs.length cr)) (first | (with_reducible exact CL0.out _ hx2.drew) | (with_reducible exact CL0.out _ hx3) | (with_reducible exact CL0.out _ (hx3.alloc hx3.size _)) | (with_reducible exact S4.out _ _ hx3 hk4) | (with_reducible exact S5.out _ _ hx3 hk4)) (first
      | (go_at_call 36; (with_reducible refine Calls.mono (EV.out _ hx2.drew) ?_); rintro e w3 ⟨rfl, hb3⟩; have hx3 := hx2.drew.trans (hb3.mono hx2.drew.size))
      | (go_at_call 35; (with_reducible refine Calls.mono (APP.out _ hx3) ?_); rintro e w4 ⟨rfl, hd4, hl4, hk4⟩)
      | (go_at_call 32; (with_reducible refine Calls.mono (TD.out _ _ hx3 hk4) ?_); rintro e w5 ⟨rfl, rfl⟩))
    all_goals
      have hb13 : Below w1.heap.size w1 w3 := hb2.trans (((Below.refl w2.heap.size w2).drew.trans hb3).mono hb2.size)
      obtain ⟨v1, f1, hQ⟩ := FN.out w1 w3 w4 A' c' hx3 hb13.size (HO.out.below hb13) HC.out hd4 hl4 hk4
      have HQ := Lib.hid hQ
      clear hQ
      go_wp2_with (fail)
      exact HQ.out
end Go.Proofs.YtmlaolmaopjhbaaGreatDoor.Ol
/- OlEx, what a claim needs of it (prune.py). -/
namespace Go.Proofs.YtmlaolmaopjhbaaGreatDoor.Ol
open Dk (Dk Fd read names bad)
open Wl (Lw name parts run take state frames frame two appL)
open Ops (OkO apply wrongV Ev)
set_option linter.unusedVariables false
set_option maxRecDepth 100000
def tT : Tg := ⟨⟨#[116]⟩, ⟨#[]⟩, [], []⟩
def gT : ByteArray := ⟨#[116]⟩
def oneO (st : Int) : Op := ⟨⟨#[97]⟩, [tT], [], gT, st, Ops.zeroR⟩
def ev1 : Ev := ⟨1, oneO 0⟩
def ev2 : Ev := ⟨2, oneO 0⟩
theorem one_ok (st : Int) : OkO (oneO st) := by
  have ht : ∀ t ∈ [tT], t.Ok := fun t ht => by
    rw [List.mem_singleton.1 ht]; exact ⟨by decide, by decide, by decide, by decide, (fun x hx => by cases hx), fun x hx => by cases hx⟩
  exact ⟨(by show (⟨#[97]⟩ : ByteArray).size ≤ 100; decide), (by show (⟨#[116]⟩ : ByteArray).size ≤ 100; decide), by show 1 ≤ 20; omega, ht, by show 0 ≤ 60; omega, (fun f hf => by cases hf), by show 0 ≤ 60; omega, fun f hf => by cases hf⟩
theorem check_nil : Fs.checkE [] = 0 := Fs.check_good (fun j hj _ => by simp at hj) (by simp) (fun h => by
  rcases h with ⟨i, h, _⟩ | ⟨i, h, _⟩
  · simp at h
  · simp at h)
theorem one_wrong (st : Int) : Ops.wrong wrongV (oneO st) = 0 := Ops.wrong_4 (by kernel_rfl) (by kernel_rfl) check_nil (by kernel_rfl)
theorem ap1 : apply wrongV orderB [] ev1 = ([oneO 1], 0) := by
  show Ops.submit wrongV orderB [] (oneO 0) = _
  unfold Ops.submit
  rw [if_neg (by rw [one_wrong]; simp)]
  rfl
theorem ap2 : apply wrongV orderB [oneO 1] ev2 = ([oneO 2], 0) := by rfl
theorem ap3 : apply wrongV orderB [oneO 2] ev1 = ([oneO 2], 0) := by
  show Ops.submit wrongV orderB [oneO 2] (oneO 0) = _
  unfold Ops.submit
  rw [if_neg (by rw [one_wrong]; simp)]
  show (if Ops.ord orderB (oneO 2) = Ops.ord orderB (oneO 0) then _ else _) = _
  exact if_pos rfl
theorem evN (k st : Int) (hk : 0 ≤ k ∧ k ≤ 100) (hs : 0 ≤ st ∧ st ≤ 100) : OkN k (oneO st) := ⟨hk, hs, by show (0 : Int) ≤ 0 ∧ (0 : Int) ≤ 100; omega, by show (⟨#[]⟩ : ByteArray).size ≤ 100000; decide, by show (⟨#[]⟩ : ByteArray).size ≤ 100000; decide⟩
theorem back1 : Cd.readEv (Cd.evB ev1) = (ev1, 0) := Cd.ev_back (one_ok 0) ⟨by show (0 : Int) ≤ 1 ∧ (1 : Int) < 10; omega, by show (0 : Int) ≤ 0 ∧ (0 : Int) < 10; omega, by show (0 : Int) ≤ 0 ∧ (0 : Int) < 10; omega, by show (⟨#[]⟩ : ByteArray).size ≤ 100000; decide, by show (⟨#[]⟩ : ByteArray).size ≤ 100000; decide⟩
theorem back2 : Cd.readEv (Cd.evB ev2) = (ev2, 0) := Cd.ev_back (one_ok 0) ⟨by show (0 : Int) ≤ 2 ∧ (2 : Int) < 10; omega, by show (0 : Int) ≤ 0 ∧ (0 : Int) < 10; omega, by show (0 : Int) ≤ 0 ∧ (0 : Int) < 10; omega, by show (⟨#[]⟩ : ByteArray).size ≤ 100000; decide, by show (⟨#[]⟩ : ByteArray).size ≤ 100000; decide⟩
theorem len1 : (Cd.evB ev1).length ≤ 200 := by
  have : decide ((Cd.evB ev1).length ≤ 200) = true := by kernel_rfl
  simpa using this
theorem len2 : (Cd.evB ev2).length ≤ 200 := by
  have : decide ((Cd.evB ev2).length ≤ 200) = true := by kernel_rfl
  simpa using this
theorem two_0 {L : Nat} {n s : B} (hb : bad n = false) (hs : s.length ≤ L) : two ⟨L, [], 0, false⟩ n s = (⟨L, [⟨n, s, s.length⟩], 0, false⟩, 0) := by
  have h1 : Dk.append ⟨L, [], 0, false⟩ n s = (⟨L, [⟨n, s, 0⟩], 0, false⟩, 0) := by
    unfold Dk.append Dk.wrong Dk.act
    simp [hb, Dk.sz, Dk.set, Dk.dat, Dk.get, Dk.firmOf]
    omega
  unfold two
  rw [h1]
  simp only [ne_eq, not_true_eq_false, if_false]
  unfold Dk.sync Dk.find Dk.wrong Dk.act
  simp [hb, Dk.set, Dk.get]
theorem two_1 {L k : Nat} {n s0 s : B} (hb : bad n = false) (hs : s0.length + s.length ≤ L) : two ⟨L, [⟨n, s0, k⟩], 0, false⟩ n s = (⟨L, [⟨n, s0 ++ s, (s0 ++ s).length⟩], 0, false⟩, 0) := by
  have hi : ¬ n < n := List.lt_irrefl _
  have h1 : Dk.append ⟨L, [⟨n, s0, k⟩], 0, false⟩ n s = (⟨L, [⟨n, s0 ++ s, k⟩], 0, false⟩, 0) := by
    unfold Dk.append Dk.wrong Dk.act
    simp [hb, Dk.sz, Dk.set, Dk.dat, Dk.get, Dk.firmOf, hi]
    omega
  unfold two
  rw [h1]
  simp only [ne_eq, not_true_eq_false, if_false]
  unfold Dk.sync Dk.find Dk.wrong Dk.act
  simp [hb, Dk.set, Dk.get, hi]
theorem n00 : bad (name 0 0) = false := by kernel_rfl
theorem n01 : decide (name 0 0 = name 0 1) = false := by kernel_rfl
theorem nst : decide (name 0 0 = state) = false := by kernel_rfl
theorem stb : bad state = false := by kernel_rfl
theorem n01b : bad (name 0 1) = false := by kernel_rfl
def f1 : B := frame (Cd.evB ev1)
def f2 : B := frame (Cd.evB ev2)
theorem f1_len : f1.length ≤ 1000 := by
  have h := len1
  unfold f1 frame
  have h1 := Wl.short_len (Cd.evB ev1)
  have h2 := Pk.dec_len_le 7 (Wl.short (Cd.evB ev1)).length (by omega)
  have h3 := Pk.dec_len_le 7 (Cd.evB ev1).length (by omega)
  unfold Pk.text
  simp only [List.length_append, List.length_cons, List.length_nil]
  omega
theorem f2_len : f2.length ≤ 1000 := by
  have h := len2
  unfold f2 frame
  have h1 := Wl.short_len (Cd.evB ev2)
  have h2 := Pk.dec_len_le 7 (Wl.short (Cd.evB ev2)).length (by omega)
  have h3 := Pk.dec_len_le 7 (Cd.evB ev2).length (by omega)
  unfold Pk.text
  simp only [List.length_append, List.length_cons, List.length_nil]
  omega
def D0 (L : Nat) : Dk := ⟨L, [], 0, false⟩
def D1 (L : Nat) : Dk := ⟨L, [⟨name 0 0, f1, f1.length⟩], 0, false⟩
def D2 (L : Nat) : Dk := ⟨L, [⟨name 0 0, f1 ++ f2, (f1 ++ f2).length⟩], 0, false⟩
theorem appL1 {L : Nat} (hL : 3000 ≤ L) : appL (D0 L) ⟨0, 0, 0, false⟩ (Cd.evB ev1) = (D1 L, ⟨0, 0, 1, false⟩, 0) := by
  have h : two (D0 L) (name 0 0) (frame (Cd.evB ev1)) = (D1 L, 0) := two_0 n00 (by have := f1_len; show f1.length ≤ L; omega)
  have e : appL (D0 L) ⟨0, 0, 0, false⟩ (Cd.evB ev1) = ((two (D0 L) (name 0 0) (frame (Cd.evB ev1))).1, ⟨0, 0, if (two (D0 L) (name 0 0) (frame (Cd.evB ev1))).2 = 0 then 0 + 1 else 0, ((two (D0 L) (name 0 0) (frame (Cd.evB ev1))).2 == 40)⟩, (two (D0 L) (name 0 0) (frame (Cd.evB ev1))).2) := rfl
  rw [e, h]
  rfl
theorem appL2 {L : Nat} (hL : 3000 ≤ L) : appL (D1 L) ⟨0, 0, 1, false⟩ (Cd.evB ev2) = (D2 L, ⟨0, 0, 2, false⟩, 0) := by
  have h : two (D1 L) (name 0 0) (frame (Cd.evB ev2)) = (D2 L, 0) := two_1 n00 (by have := f1_len; have := f2_len; show f1.length + f2.length ≤ L; omega)
  have e : appL (D1 L) ⟨0, 0, 1, false⟩ (Cd.evB ev2) = ((two (D1 L) (name 0 0) (frame (Cd.evB ev2))).1, ⟨0, 0, if (two (D1 L) (name 0 0) (frame (Cd.evB ev2))).2 = 0 then 1 + 1 else 1, ((two (D1 L) (name 0 0) (frame (Cd.evB ev2))).2 == 40)⟩, (two (D1 L) (name 0 0) (frame (Cd.evB ev2))).2) := rfl
  rw [e, h]
  rfl
theorem read_none {L : Nat} {n : B} (hb : bad n = false) : read (D0 L) n = ([], 17) := by
  unfold Dk.read Dk.find Dk.wrong D0
  simp [hb, Dk.get]
theorem read_hit {L k : Nat} {n s : B} (hb : bad n = false) : read ⟨L, [⟨n, s, k⟩], 0, false⟩ n = (s, 0) := by
  unfold Dk.read Dk.find Dk.wrong
  simp [hb, Dk.get]
theorem read_miss {L k : Nat} {n p s : B} (hb : bad p = false) (hn : ¬ n = p) : read ⟨L, [⟨n, s, k⟩], 0, false⟩ p = ([], 17) := by
  unfold Dk.read Dk.find Dk.wrong
  simp [hb, Dk.get, hn]
theorem parts0 {L : Nat} : parts (D0 L) 0 = [] := Wl.parts_end (K := 0) (fun j hj => absurd hj (by omega)) (by rw [read_none n00]; decide)
theorem opens0 (L : Nat) : Opens (D0 L) [] where
  dead := rfl
  state := by rw [read_none stb]; decide
  all := fun n hn => by simp [names, Dk.names, D0] at hn
  len := by show 0 ≤ 1000000; omega
  ok := fun k hk => by rw [parts0] at hk; simp at hk
  sz := fun k hk => by rw [parts0] at hk; simp at hk
  name := fun p hp => by rw [parts0] at hp; simp at hp
  few := by rw [parts0]; simp
  good := by
    rw [parts0]
    exact ⟨by simp [run], by simp [run], by simp, (fun x hx => by simp at hx), (fun r hr => by simp [run] at hr), (fun k hk => by simp [run] at hk), (fun e he => by simp at he), fun k hk => by simp at hk⟩
theorem opened0 (L : Nat) : opened (D0 L) [] = ⟨D0 L, ⟨0, 0, 0, false⟩, []⟩ := by
  unfold opened
  rw [parts0]
  rfl
theorem parts2 {L : Nat} : parts (D2 L) 0 = [name 0 0] := by
  have := Wl.parts_end (d := D2 L) (n := 0) (K := 1) (fun j hj => by
    obtain rfl : j = 0 := by omega
    unfold D2
    rw [read_hit n00]) (by
    unfold D2
    rw [read_miss n01b (by simpa using n01)]
    decide)
  rw [this]
  rfl
theorem frames12 : frames (f1 ++ f2) = ([Cd.evB ev1, Cd.evB ev2], 0) := by
  have h1 := len1
  have h2 := len2
  unfold f1
  rw [Wl.frames_frame (by omega)]
  have e : frames f2 = ([Cd.evB ev2], 0) := by
    have : f2 = frame (Cd.evB ev2) ++ [] := by rw [List.append_nil]; rfl
    rw [this, Wl.frames_frame (by omega), Wl.frames_nil]
  rw [e]
theorem take2 {L : Nat} : take (D2 L) (name 0 0) = (([Cd.evB ev1, Cd.evB ev2], 0, 0), D2 L) := by
  have hi : ¬ name 0 0 < name 0 0 := List.lt_irrefl _
  have hr : read (D2 L) (name 0 0) = (f1 ++ f2, 0) := by unfold D2; exact read_hit n00
  have hs : Dk.sync (D2 L) (name 0 0) = (D2 L, 0) := by
    unfold Dk.sync Dk.find Dk.wrong Dk.act D2
    simp [n00, Dk.get, Dk.set, hi]
  unfold take
  rw [hr, hs, frames12]
  simp
theorem run2 {L : Nat} : run (parts (D2 L) 0) (D2 L) 1 = (D2 L, [Cd.evB ev1, Cd.evB ev2], 0) := by
  rw [parts2]
  have e : run [name 0 0] (D2 L) 1 = ((take (D2 L) (name 0 0)).2, [] ++ (take (D2 L) (name 0 0)).1.1, if 0 < (take (D2 L) (name 0 0)).1.2.1 then 1 else 0) := rfl
  rw [e, take2]
  simp
theorem rp2 : rp [] [ev1, ev2] 2 = [oneO 2] := by
  have e1 : rp [] [ev1, ev2] 1 = [oneO 1] := by
    rw [rp_succ (k := 0) (by simp)]
    show (apply wrongV orderB [] ev1).1 = _
    rw [ap1]
  rw [rp_succ (k := 1) (by simp), e1]
  show (apply wrongV orderB [oneO 1] ev2).1 = _
  rw [ap2]
theorem opens2 (L : Nat) : Opens (D2 L) [ev1, ev2] where
  dead := rfl
  state := by unfold D2; rw [read_miss stb (by simpa using nst)]; decide
  all := fun n hn => by
    have hn' : n = name 0 0 := by simpa [Dk.names, D2] using hn
    subst hn'
    exact ⟨by simpa using nst, by rw [parts2]; simp⟩
  len := by show 1 ≤ 1000000; omega
  ok := fun k hk => by
    rw [parts2] at hk ⊢
    obtain rfl : k = 0 := by simpa using hk
    show (take (D2 L) (name 0 0)).1.2.2 = 0
    rw [take2]
  sz := fun k hk => by
    rw [parts2] at hk ⊢
    obtain rfl : k = 0 := by simpa using hk
    show (read (D2 L) (name 0 0)).1.length ≤ 1000000
    have : read (D2 L) (name 0 0) = (f1 ++ f2, 0) := by unfold D2; exact read_hit n00
    rw [this]
    have h1 := f1_len
    have h2 := f2_len
    simp only [List.length_append]
    omega
  name := fun p hp => by
    rw [parts2, List.mem_singleton] at hp
    subst hp
    have := Wl.name_size (n := 0) (k := 0) (by omega) (by omega)
    have h3 := Pk.dec_len_le 7 0 (by omega)
    unfold Wl.name
    simp only [List.length_append, List.length_cons, List.length_nil]
    omega
  few := by rw [parts2]; simp
  good := by
    have hl : (parts (D2 L) 0).length = 1 := by rw [parts2]; rfl
    rw [hl, run2]
    have h1 := len1
    have h2 := len2
    refine ⟨by simp, by simp, by simp, (fun x hx => by simp at hx), (fun r hr => ?_), (fun k hk hk' => ?_), (fun e he => ?_), fun k hk => ?_⟩
    · simp only [List.mem_cons, List.not_mem_nil, or_false] at hr
      rcases hr with rfl | rfl <;> omega
    · have : k = 0 ∨ k = 1 := by simp at hk; omega
      rcases this with rfl | rfl
      · exact back1
      · exact back2
    · simp only [List.mem_cons, List.not_mem_nil, or_false] at he
      rcases he with rfl | rfl
      · exact one_ok 0
      · exact one_ok 0
    · have : k = 0 ∨ k = 1 := by simp at hk; omega
      rcases this with rfl | rfl
      · show (apply wrongV orderB [] ev1).2 = 0
        rw [ap1]
      · have e1 : rp [] [ev1, ev2] 1 = [oneO 1] := by
          rw [rp_succ (k := 0) (by simp)]
          show (apply wrongV orderB [] ev1).1 = _
          rw [ap1]
        rw [e1]
        show (apply wrongV orderB [oneO 1] ev2).2 = 0
        rw [ap2]
theorem opened2 (L : Nat) : opened (D2 L) [ev1, ev2] = ⟨D2 L, ⟨0, 0, 2, false⟩, [oneO 2]⟩ := by
  have hl : (parts (D2 L) 0).length = 1 := by rw [parts2]; rfl
  unfold opened
  rw [hl, run2]
  show Ol.mk _ _ (rp [] [ev1, ev2] 2) = _
  rw [rp2]
  rfl
end Go.Proofs.YtmlaolmaopjhbaaGreatDoor.Ol
/- OlOne, what a claim needs of it (prune.py). -/
namespace Go.Proofs.YtmlaolmaopjhbaaGreatDoor.Ol
open Go.RowKit
open Ops (Parts)
set_option linter.unusedVariables false
set_option maxRecDepth 100000
theorem one_tgs {w : World} {b : Nat} {T : TypeId} (h : w.heap[b]? = some (.cells #[.string ⟨#[116]⟩, .string ⟨#[]⟩, .slice none 0 0, .slice none 0 0] T (0, 0))) : Tgs w w.heap.size (some ⟨b, 0, none⟩) [tT] := fun _ => by
  refine ⟨_, rfl, Lg.lt_heap h, fun k hk => ?_⟩
  have hk2 : k < 1 := hk
  obtain rfl : k = 0 := by omega
  exact ⟨none, 0, none, 0, Lg.cell_at h 0, Lg.cell_at h 1, Lg.cell_at h 2, Lg.cell_at h 3, Reads.none_, Reads.none_⟩
theorem one_parts {w : World} {b : Nat} {T : TypeId} (h : w.heap[b]? = some (.cells #[.string ⟨#[116]⟩, .string ⟨#[]⟩, .slice none 0 0, .slice none 0 0] T (0, 0))) (st : Int) : Parts w (oneO st) (some ⟨b, 0, none⟩) 1 none 0 none 0 :=
  ⟨one_tgs h, Reads.none_, Reads.none_, Nat.le_refl _, Nat.le_refl _, Nat.le_refl _⟩
def OneSays (w : World) (e : Ending) (w' : World) : Prop := (∃ g, e = .returned (.agg #[.string ⟨#[97]⟩, .slice (some ⟨g, 0, none⟩) 1 1, .slice none 0 0, .string ⟨#[116]⟩, .int .i64 0, .int .i64 0, .string ⟨#[]⟩, .string ⟨#[]⟩, .slice none 0 0]) ∧ Parts w' (oneO 0) (some ⟨g, 0, none⟩) 1 none 0 none 0) ∧ Below w.heap.size w w'
theorem one_any (w : World) : Calls Tryz.prog 38 #[] w (OneSays w) := by
  go_enter Tryz.func38, Tryz.ntmps38
  go_wp2_with (fail)
  refine bodyPost_ret (results_cell rfl _ _ _ ⟨w.heap.size, 0, none⟩ _ _ rfl (Cd.load_op (heap_alloc_lt (heap_alloc_new w _)) rfl)) rfl ?_
  exact ⟨⟨w.heap.size + 1, rfl, one_parts (heap_alloc2_new w _ _) 0⟩, ((Below.refl _ _).alloc (Nat.le_refl _) _).alloc (by simp) _⟩
end Go.Proofs.YtmlaolmaopjhbaaGreatDoor.Ol
/- OlAwakeA, what a claim needs of it (prune.py). -/
namespace Go.Proofs.YtmlaolmaopjhbaaGreatDoor.Ol
open Go.RowKit
open Dk (Dk Kp NoT DkS DkAt)
open Ops (Parts OkO apply wrongV)
set_option linter.unusedVariables false
set_option maxRecDepth 100000
structure St (w W : World) (bo bl b m nn : Nat) (o : Ol) : Prop where
  bw : Below w.heap.size w W
  hb : w.heap.size ≤ b
  hm : w.heap.size ≤ m
  hbl : w.heap.size ≤ bl
  hbo : w.heap.size ≤ bo
  at_ : OlAt W bo bl b m nn o
theorem St.below {w W W' : World} {bo bl b m nn : Nat} {o : Ol} (h : St w W bo bl b m nn o) (k : Below W.heap.size W W') : St w W' bo bl b m nn o := ⟨h.bw.trans (k.mono h.bw.size), h.hb, h.hm, h.hbl, h.hbo, h.at_.below k⟩
theorem St.in_ {w W : World} {bo bl b m nn : Nat} {o : Ol} (h : St w W bo bl b m nn o) (hE : Lg.Env w) {g : Nat} (hp : Parts W (oneO 0) (some ⟨g, 0, none⟩) 1 none 0 none 0) {k : Int} (hk : 0 ≤ k ∧ k ≤ 100) {l2 : List Op} (ha : apply wrongV orderB o.l ⟨k, oneO 0⟩ = (l2, 0)) : DoIn w W bo bl b m nn o k (oneO 0) (some ⟨g, 0, none⟩) 1 none 0 none 0 l2 :=
  ⟨hE, h.bw, h.hb, h.hm, h.hbl, h.hbo, h.at_, one_ok 0, hp, evN k 0 hk (by omega), ha⟩
theorem St.did {w W W' : World} {bo bl b m nn : Nat} {o : Ol} (h : St w W bo bl b m nn o) {k : Int} {x : Op} {l2 : List Op} {e : Ending} (hd : DoSays W bo bl b m nn o k x l2 e W') : e = .returned (.int .i64 0) ∧ St w W' bo bl b m (nn + 2) (did o k x l2) := by
  obtain ⟨h1, h2, h3⟩ := hd
  refine ⟨h1, h.bw.trans (h3.below (fun i hi => ?_) h.bw.size), h.hb, h.hm, h.hbl, h.hbo, h2⟩
  rcases hi with rfl | rfl | rfl | rfl
  · exact h.hb
  · exact h.hm
  · exact h.hbl
  · exact h.hbo
theorem one_ne : [oneO 2] ≠ [oneO 1] := fun e => by
  have : (oneO 2).st = (oneO 1).st := by injection e with e; rw [e]
  exact absurd this (by decide)
def o0 : Ol := ⟨D0 10000, ⟨0, 0, 0, false⟩, []⟩
def o1 : Ol := ⟨D1 10000, ⟨0, 0, 1, false⟩, [oneO 1]⟩
def o2 : Ol := ⟨D2 10000, ⟨0, 0, 2, false⟩, [oneO 2]⟩
theorem did1 : did o0 1 (oneO 0) [oneO 1] = o1 := by
  unfold did
  rw [show Wl.appL o0.d o0.log (Cd.evB ⟨1, oneO 0⟩) = _ from appL1 (L := 10000) (by omega)]
  rfl
theorem did2 : did o1 2 (oneO 0) [oneO 2] = o2 := by
  unfold did
  rw [show Wl.appL o1.d o1.log (Cd.evB ⟨2, oneO 0⟩) = _ from appL2 (L := 10000) (by omega)]
  rfl
set_option maxHeartbeats 1000000 in
theorem do1 (w : World) (hE : Lg.Env w) (W : World) (bo bl b m nn g : Nat) (h : St w W bo bl b m nn o0) (hn : nn ≤ 50) (hp : Parts W (oneO 0) (some ⟨g, 0, none⟩) 1 none 0 none 0) : Calls Tryz.prog 6 #[.pointer (some ⟨bo, 0, none⟩), .agg #[.int .i64 1, .string ⟨#[97]⟩, .slice (some ⟨g, 0, none⟩) 1 1, .slice none 0 0, .string ⟨#[116]⟩, .int .i64 0, .int .i64 0, .string ⟨#[]⟩, .string ⟨#[]⟩, .slice none 0 0]] W fun e w' => e = .returned (.int .i64 0) ∧ St w w' bo bl b m (nn + 2) o1 := by
  have hD := h.in_ hE hp (k := 1) (by omega) (l2 := [oneO 1]) ap1
  refine (do_app w W bo bl b m nn o0 1 (oneO 0) _ _ _ _ _ _ [oneO 1] hD (by simp [o0]) (by simp) rfl (by show 0 < 8; omega) (by show 0 ≤ 1000000; omega) (by show 0 ≤ 1000000; omega) (Nat.le_trans len1 (by omega)) (by rw [show Wl.appL o0.d o0.log (Cd.evB ⟨1, oneO 0⟩) = _ from appL1 (L := 10000) (by omega)]) (by omega)).mono ?_
  rintro e w' hd
  have := h.did hd
  rw [did1] at this
  exact this
set_option maxHeartbeats 1000000 in
theorem do2 (w : World) (hE : Lg.Env w) (W : World) (bo bl b m nn g : Nat) (h : St w W bo bl b m nn o1) (hn : nn ≤ 50) (hp : Parts W (oneO 0) (some ⟨g, 0, none⟩) 1 none 0 none 0) : Calls Tryz.prog 6 #[.pointer (some ⟨bo, 0, none⟩), .agg #[.int .i64 2, .string ⟨#[97]⟩, .slice (some ⟨g, 0, none⟩) 1 1, .slice none 0 0, .string ⟨#[116]⟩, .int .i64 0, .int .i64 0, .string ⟨#[]⟩, .string ⟨#[]⟩, .slice none 0 0]] W fun e w' => e = .returned (.int .i64 0) ∧ St w w' bo bl b m (nn + 2) o2 := by
  have hD := h.in_ hE hp (k := 2) (by omega) (l2 := [oneO 2]) ap2
  refine (do_app w W bo bl b m nn o1 2 (oneO 0) _ _ _ _ _ _ [oneO 2] hD one_ne (by simp) rfl (by show 1 < 8; omega) (by show 0 ≤ 1000000; omega) (by show 0 ≤ 1000000; omega) (Nat.le_trans len2 (by omega)) (by rw [show Wl.appL o1.d o1.log (Cd.evB ⟨2, oneO 0⟩) = _ from appL2 (L := 10000) (by omega)]) (by omega)).mono ?_
  rintro e w' hd
  have := h.did hd
  rw [did2] at this
  exact this
set_option maxHeartbeats 1000000 in
theorem do3 (w : World) (hE : Lg.Env w) (W : World) (bo bl b m nn g : Nat) (h : St w W bo bl b m nn o2) (hn : nn ≤ 50) (hp : Parts W (oneO 0) (some ⟨g, 0, none⟩) 1 none 0 none 0) : Calls Tryz.prog 6 #[.pointer (some ⟨bo, 0, none⟩), .agg #[.int .i64 1, .string ⟨#[97]⟩, .slice (some ⟨g, 0, none⟩) 1 1, .slice none 0 0, .string ⟨#[116]⟩, .int .i64 0, .int .i64 0, .string ⟨#[]⟩, .string ⟨#[]⟩, .slice none 0 0]] W fun e w' => e = .returned (.int .i64 0) ∧ St w w' bo bl b m nn o2 := by
  have hD := h.in_ hE hp (k := 1) (by omega) (l2 := [oneO 2]) ap3
  refine (do_same w W bo bl b m nn o2 1 (oneO 0) _ _ _ _ _ _ hD).mono ?_
  rintro e w' ⟨h1, h2⟩
  exact ⟨h1, h.below h2⟩
end Go.Proofs.YtmlaolmaopjhbaaGreatDoor.Ol
