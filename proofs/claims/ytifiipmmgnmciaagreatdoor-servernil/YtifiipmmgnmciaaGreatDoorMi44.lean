/- Joined by mkmerged.py: SvDoA, SvApply, SvDo, SvEnv. -/
import Derived.Test.YtifiipmmgnmciaaGreatDoorMi42
import Derived.Test.YtifiipmmgnmciaaGreatDoorMi33
import Derived.Test.YtifiipmmgnmciaaGreatDoorMi25
import Derived.Test.YtifiipmmgnmciaaGreatDoorMi43
import Derived.Test.YtifiipmmgnmciaaGreatDoorMi32
import Derived.Test.YtifiipmmgnmciaaGreatDoorMi08
import Derived.Test.YtifiipmmgnmciaaGreatDoorMi34
import Derived.Test.YtifiipmmgnmciaaGreatDoorMi18
import Derived.Test.YtifiipmmgnmciaaGreatDoorMi23
/- SvDoA, what a claim needs of it (prune.py). -/
namespace Go.Proofs.YtifiipmmgnmciaaGreatDoor.Ol
open Go.RowKit
open Dk (Dk Kp NoT DkS DkAt)
open Wl (Lw LogAt appL)
open Ops (OkO Parts apply wrongV)
set_option linter.unusedVariables false
set_option maxRecDepth 100000
set_option maxHeartbeats 8000000 in
theorem do_at (W : World) (bo bl b m nn : Nat) (o : Ol) (k : Int) (x : Op) (Ag : Option Addr) (cg : Nat) (Af : Option Addr) (cf : Nat) (Ar : Option Addr) (cr : Nat) (l2 : List Op) (hE : Lg.Env W) (hat : OlAt W bo bl b m nn o) (hox : OkO x) (hparts : Parts W x Ag cg Af cf Ar cr) (hnum : OkN k x) (OK2 : ∀ y ∈ l2, OkO y) (hl2 : l2.length ≤ 400)
    (hap : ∀ A c, o.l.length ≤ c → Ops.Ops W A o.l → ∀ V, Below W.heap.size W V → Calls Tryz.prog 55 #[.slice A o.l.length c, .agg #[.int .i64 k, .string x.n, .slice Ag x.gr.length cg, .slice Af x.sn.length cf, .string x.go, .int .i64 x.st, .int .i64 x.r.e, .string x.r.at_, .string x.r.tx, .slice Ar x.r.fs.length cr]] V fun e w' => (∃ A' c', e = .returned (.tuple #[.slice A' l2.length c', .int .i64 0]) ∧ l2.length ≤ c' ∧ Ops.Ops w' A' l2) ∧ Below V.heap.size V w')
    (hsm : ∀ A c A' c' V, Ops.Ops W A o.l → Below W.heap.size W V → Ops.Ops V A' l2 → Calls Tryz.prog 56 #[.slice A' l2.length c', .slice A o.l.length c] V fun e w' => e = .returned (.bool false) ∧ Below V.heap.size V w') (hd : o.log.dead = false) (hmany : o.log.many < 8) (hnu : o.log.number ≤ 1000000) (hpa : o.log.part ≤ 1000000) (hlen : (Cd.evB ⟨k, x⟩).length ≤ 1000000) (hgo : (appL o.d o.log (Cd.evB ⟨k, x⟩)).2.2 = 0) (hnn : nn ≤ 1000000) :
    Calls Tryz.prog 32 #[.pointer (some ⟨bo, 0, none⟩), .agg #[.int .i64 k, .string x.n, .slice Ag x.gr.length cg, .slice Af x.sn.length cf, .string x.go, .int .i64 x.st, .int .i64 x.r.e, .string x.r.at_, .string x.r.tx, .slice Ar x.r.fs.length cr]] W (DoSays W bo bl b m nn o k x l2) := by
  obtain ⟨A, c, hst, hc, hops⟩ := hat.st
  obtain ⟨W0, eW⟩ : ∃ W0, W0 = W.alloc (.cells #[.int .i64 k, .string x.n, .slice Ag x.gr.length cg, .slice Af x.sn.length cf, .string x.go, .int .i64 x.st, .int .i64 x.r.e, .string x.r.at_, .string x.r.tx, .slice Ar x.r.fs.length cr] 92) := ⟨_, rfl⟩
  have B0 : Below W.heap.size W W0 := by rw [eW]; exact (Below.refl _ _).alloc (Nat.le_refl _) _
  have g0 : W0.heap[W.heap.size]? = some (.cells #[.int .i64 k, .string x.n, .slice Ag x.gr.length cg, .slice Af x.sn.length cf, .string x.go, .int .i64 x.st, .int .i64 x.r.e, .string x.r.at_, .string x.r.tx, .slice Ar x.r.fs.length cr] 92 (0, 0)) := by rw [eW]; exact heap_alloc_new _ _
  have hlt0 := Lg.lt_heap g0
  obtain ⟨hlo, hlbl, hlb, hlm⟩ := hat.lt
  obtain ⟨n1, n2, n3⟩ := hat.ne
  have hfew := hat.few
  obtain ⟨E, hEq⟩ : ∃ E, E = Cd.evB ⟨k, x⟩ := ⟨_, rfl⟩
  have CELLS : Hid (∀ W' : World, W'.heap[W.heap.size]? = some (.cells #[.int .i64 k, .string x.n, .slice Ag x.gr.length cg, .slice Af x.sn.length cf, .string x.go, .int .i64 x.st, .int .i64 x.r.e, .string x.r.at_, .string x.r.tx, .slice Ar x.r.fs.length cr] 92 (0, 0)) → ∀ (a1 v : Value), W'.heap[bo]? = some (.cells #[.pointer (some ⟨bl, 0, none⟩), a1, v] 78 (0, 0)) → (W'.cell? ⟨bo, 0, none⟩ = some (.pointer (some ⟨bl, 0, none⟩))) ∧ W'.cell? ⟨W.heap.size, 0, none⟩ = some (.int .i64 k) ∧ W'.cell? ⟨W.heap.size, 1, none⟩ = some (.string x.n) ∧ W'.cell? ⟨W.heap.size, 2, none⟩ = some (.slice Ag x.gr.length cg) ∧ W'.cell? ⟨W.heap.size, 3, none⟩ = some (.slice Af x.sn.length cf) ∧ W'.cell? ⟨W.heap.size, 4, none⟩ = some (.string x.go) ∧ W'.cell? ⟨W.heap.size, 5, none⟩ = some (.int .i64 x.st) ∧ W'.cell? ⟨W.heap.size, 6, none⟩ = some (.int .i64 x.r.e) ∧ W'.cell? ⟨W.heap.size, 7, none⟩ = some (.string x.r.at_) ∧ W'.cell? ⟨W.heap.size, 8, none⟩ = some (.string x.r.tx) ∧ W'.cell? ⟨W.heap.size, 9, none⟩ = some (.slice Ar x.r.fs.length cr)) := Lib.hid fun W' h1 a1 v h2 => ⟨(cell_heap h2 0).trans rfl, (cell_heap h1 0).trans rfl, (cell_heap h1 1).trans rfl, (cell_heap h1 2).trans rfl, (cell_heap h1 3).trans rfl, (cell_heap h1 4).trans rfl, (cell_heap h1 5).trans rfl, (cell_heap h1 6).trans rfl, (cell_heap h1 7).trans rfl, (cell_heap h1 8).trans rfl, (cell_heap h1 9).trans rfl⟩
  have BX : Hid (∀ W', Below W0.heap.size W0 W' → W'.heap[W.heap.size]? = some (.cells #[.int .i64 k, .string x.n, .slice Ag x.gr.length cg, .slice Af x.sn.length cf, .string x.go, .int .i64 x.st, .int .i64 x.r.e, .string x.r.at_, .string x.r.tx, .slice Ar x.r.fs.length cr] 92 (0, 0)) ∧ W'.heap[bo]? = some (.cells #[.pointer (some ⟨bl, 0, none⟩), .slice A o.l.length c, .bool false] 78 (0, 0))) := Lib.hid fun W' hW => ⟨(hW.block _ hlt0).trans g0, (hW.block _ (Nat.lt_of_lt_of_le hlo B0.size)).trans ((B0.block _ hlo).trans hst)⟩
  have CL : Hid (∀ W', Below W0.heap.size W0 W' → (W'.cell? ⟨bo, 1, none⟩ = some (.slice A o.l.length c)) ∧ W'.cell? ⟨W.heap.size, 0, none⟩ = some (.int .i64 k) ∧ W'.cell? ⟨W.heap.size, 1, none⟩ = some (.string x.n) ∧ W'.cell? ⟨W.heap.size, 2, none⟩ = some (.slice Ag x.gr.length cg) ∧ W'.cell? ⟨W.heap.size, 3, none⟩ = some (.slice Af x.sn.length cf) ∧ W'.cell? ⟨W.heap.size, 4, none⟩ = some (.string x.go) ∧ W'.cell? ⟨W.heap.size, 5, none⟩ = some (.int .i64 x.st) ∧ W'.cell? ⟨W.heap.size, 6, none⟩ = some (.int .i64 x.r.e) ∧ W'.cell? ⟨W.heap.size, 7, none⟩ = some (.string x.r.at_) ∧ W'.cell? ⟨W.heap.size, 8, none⟩ = some (.string x.r.tx) ∧ W'.cell? ⟨W.heap.size, 9, none⟩ = some (.slice Ar x.r.fs.length cr)) := Lib.hid fun W' hW => by
    obtain ⟨h1, h2⟩ := BX.out W' hW
    exact ⟨(cell_heap h2 1).trans rfl, (cell_heap h1 0).trans rfl, (cell_heap h1 1).trans rfl, (cell_heap h1 2).trans rfl, (cell_heap h1 3).trans rfl, (cell_heap h1 4).trans rfl, (cell_heap h1 5).trans rfl, (cell_heap h1 6).trans rfl, (cell_heap h1 7).trans rfl, (cell_heap h1 8).trans rfl, (cell_heap h1 9).trans rfl⟩
  have CL0 : Hid (∀ W', Below W0.heap.size W0 W' → (W'.cell? ⟨bo, 0, none⟩ = some (.pointer (some ⟨bl, 0, none⟩))) ∧ W'.cell? ⟨W.heap.size, 0, none⟩ = some (.int .i64 k) ∧ W'.cell? ⟨W.heap.size, 1, none⟩ = some (.string x.n) ∧ W'.cell? ⟨W.heap.size, 2, none⟩ = some (.slice Ag x.gr.length cg) ∧ W'.cell? ⟨W.heap.size, 3, none⟩ = some (.slice Af x.sn.length cf) ∧ W'.cell? ⟨W.heap.size, 4, none⟩ = some (.string x.go) ∧ W'.cell? ⟨W.heap.size, 5, none⟩ = some (.int .i64 x.st) ∧ W'.cell? ⟨W.heap.size, 6, none⟩ = some (.int .i64 x.r.e) ∧ W'.cell? ⟨W.heap.size, 7, none⟩ = some (.string x.r.at_) ∧ W'.cell? ⟨W.heap.size, 8, none⟩ = some (.string x.r.tx) ∧ W'.cell? ⟨W.heap.size, 9, none⟩ = some (.slice Ar x.r.fs.length cr)) := Lib.hid fun W' hW => CELLS.out W' (BX.out W' hW).1 _ _ (BX.out W' hW).2
  have c2 : W0.cell? ⟨bo, 2, none⟩ = some (.bool false) := (cell_heap ((B0.block _ hlo).trans hst) 2).trans rfl
  have AP : Hid (∀ W', Below W0.heap.size W0 W' → Calls Tryz.prog 55 #[.slice A o.l.length c, .agg #[.int .i64 k, .string x.n, .slice Ag x.gr.length cg, .slice Af x.sn.length cf, .string x.go, .int .i64 x.st, .int .i64 x.r.e, .string x.r.at_, .string x.r.tx, .slice Ar x.r.fs.length cr]] W' fun e w' => (∃ A' c', e = .returned (.tuple #[.slice A' l2.length c', .int .i64 0]) ∧ l2.length ≤ c' ∧ Ops.Ops w' A' l2) ∧ Below W'.heap.size W' w') := Lib.hid fun W' hW => by
    exact hap A c hc hops W' (B0.trans (hW.mono B0.size))
  have SM : Hid (∀ w1 A' c', Below W0.heap.size W0 w1 → Ops.Ops w1 A' l2 → Calls Tryz.prog 56 #[.slice A' l2.length c', .slice A o.l.length c] w1 fun e w' => e = .returned (.bool false) ∧ Below w1.heap.size w1 w') := Lib.hid fun w1 A' c' hW ho => by
    exact hsm A c A' c' w1 hops (B0.trans (hW.mono B0.size)) ho
  have LN : Hid (∀ w2, Below W0.heap.size W0 w2 → Calls Tryz.prog 57 #[.pointer (some ⟨bl, 0, none⟩)] w2 fun e w' => e = .returned (.int .i64 (o.log.many : Int)) ∧ w2 = w') := Lib.hid fun w2 hW => Wl.plen_any w2 bl b o.log (hat.log.below (B0.trans (hW.mono B0.size)))
  have EV : Hid (∀ w2, Below W0.heap.size W0 w2 → Calls Tryz.prog 62 #[.agg #[.int .i64 k, .string x.n, .slice Ag x.gr.length cg, .slice Af x.sn.length cf, .string x.go, .int .i64 x.st, .int .i64 x.r.e, .string x.r.at_, .string x.r.tx, .slice Ar x.r.fs.length cr]] w2 fun e w' => e = .returned (.string (bs E)) ∧ Below w2.heap.size w2 w') := Lib.hid fun w2 hW => by
    have hb := B0.trans (hW.mono B0.size)
    rw [hEq]
    obtain ⟨⟨a1, a2⟩, ⟨a3, a4⟩, ⟨a5, a6⟩, a7, a8⟩ := hnum
    exact Cd.event_any k x Ag cg Af cf Ar cr w2 (hE.below hb).2.1 hox (hparts.below hb) (by omega) (by omega) (by omega) (by omega) (by omega) (by omega) a7 a8
  have hE0 : 0 < E.length := by rw [hEq]; unfold Cd.evB Pk.text; simp; omega
  obtain ⟨d2, hd2⟩ : ∃ d2, d2 = (appL o.d o.log E).1 := ⟨_, rfl⟩
  obtain ⟨x2, hx2⟩ : ∃ x2, x2 = (appL o.d o.log E).2.1 := ⟨_, rfl⟩
  have APP : Hid (∀ w3, Below W0.heap.size W0 w3 → Calls Tryz.prog 61 #[.pointer (some ⟨bl, 0, none⟩), .slice (some ⟨w3.heap.size, 0, none⟩) 1 1] (w3.alloc (.cells #[.string (bs E)] 9)) fun e w' => e = .returned (.int .i64 0) ∧ DkAt w' b m (nn + 2) d2 ∧ LogAt w' bl b x2 ∧ Kp (fun k => k = b ∨ k = m ∨ k = bl) (w3.alloc (.cells #[.string (bs E)] 9)) w') := Lib.hid fun w3 hW => by
    have ha : Below w3.heap.size w3 (w3.alloc (.cells #[.string (bs E)] 9)) := (Below.refl _ _).alloc (Nat.le_refl _) _
    have hb := (B0.trans (hW.mono B0.size)).trans (ha.mono (Nat.le_trans B0.size hW.size))
    have hs : (w3.alloc (.cells #[.string (bs E)] 9)).heap[w3.heap.size]? = some (.cells #[.string (bs E)] 9 (0, 0)) := heap_alloc_new _ _
    have hst : Lg.Strs (w3.alloc (.cells #[.string (bs E)] 9)) (some ⟨w3.heap.size, 0, none⟩) [bs E] := ⟨rfl, fun _ => ⟨_, rfl, Lg.lt_heap hs, fun j u hu => by
      rw [Lg.add_eq, Lg.cell_at hs]
      simpa using hu⟩⟩
    refine (Wl.papp_any b m nn bl o.d o.log E (some ⟨w3.heap.size, 0, none⟩) 1 _ (hat.dk.below hb) (hat.log.below hb) hd hE0 (by rw [hEq]; exact hlen) hst (hE.below hb).2.1 (by unfold maxLen; omega) hnu hpa (by omega)).mono ?_
    rintro e w' ⟨h1, h2, h3, h4⟩
    rw [hEq, hgo] at h1
    rw [hd2, hx2]
    exact ⟨h1, h2, h3, h4⟩
  -- what the blocks that Do reads hold behind Append, and behind told
  have K4 : Hid (∀ w3 w4 : World, Below W0.heap.size W0 w3 → Kp (fun k => k = b ∨ k = m ∨ k = bl) (w3.alloc (.cells #[.string (bs E)] 9)) w4 → w4.heap[bo]? = some (.cells #[.pointer (some ⟨bl, 0, none⟩), .slice A o.l.length c, .bool false] 78 (0, 0)) ∧ w4.heap[W.heap.size]? = some (.cells #[.int .i64 k, .string x.n, .slice Ag x.gr.length cg, .slice Af x.sn.length cf, .string x.go, .int .i64 x.st, .int .i64 x.r.e, .string x.r.at_, .string x.r.tx, .slice Ar x.r.fs.length cr] 92 (0, 0))) := Lib.hid fun w3 w4 hW hk => by
    have ha : Below w3.heap.size w3 (w3.alloc (.cells #[.string (bs E)] 9)) := (Below.refl _ _).alloc (Nat.le_refl _) _
    obtain ⟨h1, h2⟩ := BX.out _ (hW.trans (ha.mono hW.size))
    exact ⟨(kept hk (Lg.lt_heap h2) n2 n3 n1).trans h2, (kept hk (Lg.lt_heap h1) (by omega) (by omega) (by omega)).trans h1⟩
  have FN : Hid (∀ (w1 w3 w4 : World) (A' : Option Addr) (c' : Nat), Below W0.heap.size W0 w3 → w1.heap.size ≤ w3.heap.size → Ops.Ops w3 A' l2 → l2.length ≤ c' → DkAt w4 b m (nn + 2) d2 → LogAt w4 bl b x2 → Kp (fun k => k = b ∨ k = m ∨ k = bl) (w3.alloc (.cells #[.string (bs E)] 9)) w4 → (w4.setCell ⟨bo, 2, none⟩ (.bool false)).cell? ⟨bo, 1, none⟩ = some (.slice A o.l.length c) ∧ (w4.setCell ⟨bo, 2, none⟩ (.bool false)).frozen? ⟨bo, 1, none⟩ = false ∧ DoSays W bo bl b m nn o k x l2 (.returned (.int .i64 0)) ((w4.setCell ⟨bo, 2, none⟩ (.bool false)).setCell ⟨bo, 1, none⟩ (.slice A' l2.length c'))) := Lib.hid fun w1 w3 w4 A' c' hW _ ho hc' hdk hlog hk => by
    have ha : Below w3.heap.size w3 (w3.alloc (.cells #[.string (bs E)] 9)) := (Below.refl _ _).alloc (Nat.le_refl _) _
    obtain ⟨h1, _⟩ := K4.out w3 w4 hW hk
    have h5 : (w4.setCell ⟨bo, 2, none⟩ (.bool false)).heap[bo]? = some (.cells #[.pointer (some ⟨bl, 0, none⟩), .slice A o.l.length c, .bool false] 78 (0, 0)) := (heap_set h1).trans rfl
    have hb := B0.trans (hW.mono B0.size)
    have hb3 := hb.trans (ha.mono hb.size)
    have at3 := hat.below hb3
    have kk : Kp (OlS bo bl b m) (w3.alloc (.cells #[.string (bs E)] 9)) ((w4.setCell ⟨bo, 2, none⟩ (.bool false)).setCell ⟨bo, 1, none⟩ (.slice A' l2.length c')) := (((hk.mono (fun i hi => by rcases hi with e | e | e; exact .inl e; exact .inr (.inl e); exact .inr (.inr (.inl e)))).setCell (p := ⟨bo, 2, none⟩) (.inr (.inr (.inr rfl))) _).setCell (p := ⟨bo, 1, none⟩) (.inr (.inr (.inr rfl))) _)
    refine ⟨(cell_heap h5 1).trans rfl, frozen_heap h5 1, rfl, ?_, (Kp.of_below hb3).trans kk⟩
    refine ⟨⟨A', c', (heap_set h5).trans rfl, hc', ops_kp (ho.below ha) kk at3.noT⟩, ⟨(heap_set_ne n1).trans ((heap_set_ne n1).trans ?_)⟩, ?_, OK2, hl2⟩
    · rw [show (did o k x l2).log = x2 from by rw [hx2, hEq]; rfl]
      exact hlog.st
    · rw [show (did o k x l2).d = d2 from by rw [hd2, hEq]; rfl]
      exact hdk.keep ((heap_set_ne n2).trans (heap_set_ne n2)) ((heap_set_ne n3).trans (heap_set_ne n3))
  have TD : Hid (∀ w3 w4 : World, Below W0.heap.size W0 w3 → Kp (fun k => k = b ∨ k = m ∨ k = bl) (w3.alloc (.cells #[.string (bs E)] 9)) w4 → Calls Tryz.prog 58 #[.pointer (some ⟨bo, 0, none⟩), .int .i64 0] w4 fun e w' => e = .returned (.int .i64 0) ∧ w' = w4.setCell ⟨bo, 2, none⟩ (.bool false)) := Lib.hid fun w3 w4 hW hk => told_any w4 bo _ _ (K4.out w3 w4 hW hk).1
  have S4 : Hid (∀ w3 w4 : World, Below W0.heap.size W0 w3 → Kp (fun k => k = b ∨ k = m ∨ k = bl) (w3.alloc (.cells #[.string (bs E)] 9)) w4 → (w4.cell? ⟨bo, 0, none⟩ = some (.pointer (some ⟨bl, 0, none⟩))) ∧ w4.cell? ⟨W.heap.size, 0, none⟩ = some (.int .i64 k) ∧ w4.cell? ⟨W.heap.size, 1, none⟩ = some (.string x.n) ∧ w4.cell? ⟨W.heap.size, 2, none⟩ = some (.slice Ag x.gr.length cg) ∧ w4.cell? ⟨W.heap.size, 3, none⟩ = some (.slice Af x.sn.length cf) ∧ w4.cell? ⟨W.heap.size, 4, none⟩ = some (.string x.go) ∧ w4.cell? ⟨W.heap.size, 5, none⟩ = some (.int .i64 x.st) ∧ w4.cell? ⟨W.heap.size, 6, none⟩ = some (.int .i64 x.r.e) ∧ w4.cell? ⟨W.heap.size, 7, none⟩ = some (.string x.r.at_) ∧ w4.cell? ⟨W.heap.size, 8, none⟩ = some (.string x.r.tx) ∧ w4.cell? ⟨W.heap.size, 9, none⟩ = some (.slice Ar x.r.fs.length cr)) := Lib.hid fun w3 w4 hW hk => CELLS.out w4 (K4.out w3 w4 hW hk).2 _ _ (K4.out w3 w4 hW hk).1
  have S5 : Hid (∀ w3 w4 : World, Below W0.heap.size W0 w3 → Kp (fun k => k = b ∨ k = m ∨ k = bl) (w3.alloc (.cells #[.string (bs E)] 9)) w4 → ((w4.setCell ⟨bo, 2, none⟩ (.bool false)).cell? ⟨bo, 0, none⟩ = some (.pointer (some ⟨bl, 0, none⟩))) ∧ (w4.setCell ⟨bo, 2, none⟩ (.bool false)).cell? ⟨W.heap.size, 0, none⟩ = some (.int .i64 k) ∧ (w4.setCell ⟨bo, 2, none⟩ (.bool false)).cell? ⟨W.heap.size, 1, none⟩ = some (.string x.n) ∧ (w4.setCell ⟨bo, 2, none⟩ (.bool false)).cell? ⟨W.heap.size, 2, none⟩ = some (.slice Ag x.gr.length cg) ∧ (w4.setCell ⟨bo, 2, none⟩ (.bool false)).cell? ⟨W.heap.size, 3, none⟩ = some (.slice Af x.sn.length cf) ∧ (w4.setCell ⟨bo, 2, none⟩ (.bool false)).cell? ⟨W.heap.size, 4, none⟩ = some (.string x.go) ∧ (w4.setCell ⟨bo, 2, none⟩ (.bool false)).cell? ⟨W.heap.size, 5, none⟩ = some (.int .i64 x.st) ∧ (w4.setCell ⟨bo, 2, none⟩ (.bool false)).cell? ⟨W.heap.size, 6, none⟩ = some (.int .i64 x.r.e) ∧ (w4.setCell ⟨bo, 2, none⟩ (.bool false)).cell? ⟨W.heap.size, 7, none⟩ = some (.string x.r.at_) ∧ (w4.setCell ⟨bo, 2, none⟩ (.bool false)).cell? ⟨W.heap.size, 8, none⟩ = some (.string x.r.tx) ∧ (w4.setCell ⟨bo, 2, none⟩ (.bool false)).cell? ⟨W.heap.size, 9, none⟩ = some (.slice Ar x.r.fs.length cr)) := Lib.hid fun w3 w4 hW hk => CELLS.out _ ((heap_set_ne (by omega)).trans (K4.out w3 w4 hW hk).2) _ _ (heap_set (K4.out w3 w4 hW hk).1)
  have hm8 : ¬ (8 : Int) ≤ (o.log.many : Int) := by omega
  have HB0 := Lib.hid B0
  clear hat hox hparts hnum hap hsm hE hops hc hst g0 B0 hlo hlt0 hfew hl2 hd hmany hnu hpa hlen hgo hnn hEq OK2 hE0 hd2 hx2 hlbl hlb hlm n1 n2 n3 CELLS BX K4
  generalize o.log.many = mn at *
  generalize DoSays W bo bl b m nn o k x l2 = Q at *
  generalize bs E = es at *
  go_enter Tryz.func32, Tryz.ntmps32
  go_upto_region 1 with (fail)
  rw [← eW]
  clear eW
  go_upto_region 5 with (fail)
  go_region_held3 (fun W' => (W'.cell? ⟨bo, 1, none⟩ = some (.slice A o.l.length c)) ∧ W'.cell? ⟨W.heap.size, 0, none⟩ = some (.int .i64 k) ∧ W'.cell? ⟨W.heap.size, 1, none⟩ = some (.string x.n) ∧ W'.cell? ⟨W.heap.size, 2, none⟩ = some (.slice Ag x.gr.length cg) ∧ W'.cell? ⟨W.heap.size, 3, none⟩ = some (.slice Af x.sn.length cf) ∧ W'.cell? ⟨W.heap.size, 4, none⟩ = some (.string x.go) ∧ W'.cell? ⟨W.heap.size, 5, none⟩ = some (.int .i64 x.st) ∧ W'.cell? ⟨W.heap.size, 6, none⟩ = some (.int .i64 x.r.e) ∧ W'.cell? ⟨W.heap.size, 7, none⟩ = some (.string x.r.at_) ∧ W'.cell? ⟨W.heap.size, 8, none⟩ = some (.string x.r.tx) ∧ W'.cell? ⟨W.heap.size, 9, none⟩ = some (.slice Ar x.r.fs.length cr)) (first | (with_reducible exact CL.out _ (Below.refl _ _).drew) | (with_reducible exact CL.out _ hx1)) (first
    | (go_at_call 55; (with_reducible refine Calls.mono (AP.out _ (Below.refl _ _).drew) ?_); rintro e w1 ⟨⟨A', c', rfl, hc', ho'⟩, hb1⟩; have hx1 := ((Below.refl W0.heap.size W0).drew).trans hb1))
  all_goals
    obtain ⟨y1, _⟩ := CL.out _ hx1
    have S1 := Lib.hid (SM.out w1 A' c' hx1 ho')
    have HO := Lib.hid ho'
    have HX1 := Lib.hid hx1
    have HC := Lib.hid hc'
    obtain ⟨z0, _⟩ := CL0.out _ hx1
    have CZ := Lib.hid (fun w2 (hb2 : Below w1.heap.size w1 w2) => (CL0.out w2 (HX1.out.trans (hb2.mono HX1.out.size))).1)
    clear ho' hc' AP SM hb1
    go_upto_region 12 with (first
      | (go_at_call 56; (with_reducible refine (S1.out).mono ?_); rintro e w2 ⟨rfl, hb2⟩; have z2 := CZ.out w2 hb2; have hx2 := HX1.out.trans (hb2.mono HX1.out.size); have L2 := Lib.hid (LN.out w2 hx2))
      | (go_at_call 57; (with_reducible refine (L2.out).mono ?_); rintro e w' ⟨rfl, rfl⟩))
    go_region_held3 (fun W' => (W'.cell? ⟨bo, 0, none⟩ = some (.pointer (some ⟨bl, 0, none⟩))) ∧ W'.cell? ⟨W.heap.size, 0, none⟩ = some (.int .i64 k) ∧ W'.cell? ⟨W.heap.size, 1, none⟩ = some (.string x.n) ∧ W'.cell? ⟨W.heap.size, 2, none⟩ = some (.slice Ag x.gr.length cg) ∧ W'.cell? ⟨W.heap.size, 3, none⟩ = some (.slice Af x.sn.length cf) ∧ W'.cell? ⟨W.heap.size, 4, none⟩ = some (.string x.go) ∧ W'.cell? ⟨W.heap.size, 5, none⟩ = some (.int .i64 x.st) ∧ W'.cell? ⟨W.heap.size, 6, none⟩ = some (.int .i64 x.r.e) ∧ W'.cell? ⟨W.heap.size, 7, none⟩ = some (.string x.r.at_) ∧ W'.cell? ⟨W.heap.size, 8, none⟩ = some (.string x.r.tx) ∧ W'.cell? ⟨W.heap.size, 9, none⟩ = some (.slice Ar x.r.fs.length cr)) (first | (with_reducible exact CL0.out _ hx2.drew) | (with_reducible exact CL0.out _ hx3) | (with_reducible exact CL0.out _ (hx3.alloc hx3.size _)) | (with_reducible exact S4.out _ _ hx3 hk4) | (with_reducible exact S5.out _ _ hx3 hk4)) (first
      | (go_at_call 62; (with_reducible refine Calls.mono (EV.out _ hx2.drew) ?_); rintro e w3 ⟨rfl, hb3⟩; have hx3 := hx2.drew.trans (hb3.mono hx2.drew.size))
      | (go_at_call 61; (with_reducible refine Calls.mono (APP.out _ hx3) ?_); rintro e w4 ⟨rfl, hd4, hl4, hk4⟩)
      | (go_at_call 58; (with_reducible refine Calls.mono (TD.out _ _ hx3 hk4) ?_); rintro e w5 ⟨rfl, rfl⟩))
    all_goals
      have hb13 : Below w1.heap.size w1 w3 := hb2.trans (((Below.refl w2.heap.size w2).drew.trans hb3).mono hb2.size)
      obtain ⟨v1, f1, hQ⟩ := FN.out w1 w3 w4 A' c' hx3 hb13.size (HO.out.below hb13) HC.out hd4 hl4 hk4
      have HQ := Lib.hid hQ
      clear hQ
      go_wp2_with (fail)
      exact HQ.out
end Go.Proofs.YtifiipmmgnmciaaGreatDoor.Ol
/- SvApply, what a claim needs of it (prune.py). -/
namespace Go.Proofs.YtifiipmmgnmciaaGreatDoor.Sv
open Go.RowKit Go.Maps
open Ops (Parts OkO apply wrongV evOf)
set_option linter.unusedVariables false
set_option maxRecDepth 100000
theorem parse_ok (b : Bool) (W : World) (hE : Lg.Env W) : ParseOk W (cmdS b) := fun V hV => by
  refine (Lg.parse_any (cmdS b) V (hE.below hV) (by cases b <;> decide)).mono ?_
  rintro e w' ⟨⟨A, k, c, rfl, hk, hs⟩, hb⟩
  rw [show (Lg.parse (Lg.tl (cmdS b))).2 = 0 by cases b <;> kernel_rfl]
  exact ⟨⟨_, rfl⟩, hb⟩
theorem spot_none {W : World} {ad : Addr} {v : Value} (h : W.cell? ad = some v) : ad.spot = none := by
  unfold World.cell? at h
  cases hs : ad.spot with
  | none => rfl
  | some k =>
    rw [hs] at h
    split at h
    · simp at h
    · cases h
theorem tgat_of (b : Bool) (W : World) (B : Nat) (Ag : Option Addr) (hg : Tgs W B Ag [tS b]) : ∃ ad Ad cd At ct, Ag = some ad ∧ TgAt W ad ⟨#[116]⟩ (cmdS b) Ad cd At ct := by
  obtain ⟨ad, rfl, hlt, hcs⟩ := hg (by simp)
  obtain ⟨Ad, cd, As, cs, h0, h1, h2, h3, h4, h5⟩ := hcs 0 (by simp)
  have e0 : ad.add (0 * 4) = ad := by simp [Addr.add]
  rw [e0] at h0 h1 h2 h3
  have hsp := spot_none h0
  exact ⟨ad, Ad, cd, As, cs, rfl, hsp, fun j v hj => by
    match j, hj with
    | 0, hj =>
      cases hj
      cases ad
      cases hsp
      exact h0
    | 1, hj => cases hj; exact h1
    | 2, hj => cases hj; exact h2
    | 3, hj => cases hj; exact h3
    | j + 4, hj => cases hj⟩
theorem name116 : Lg.nameE (Lg.tl ⟨#[116]⟩) = 0 := by kernel_rfl
theorem name97 : Lg.nameE (Lg.tl ⟨#[97]⟩) = 0 := by kernel_rfl
def OneAns (l2 : List Ops.Op) (V : World) (e : Ending) (w' : World) : Prop := (∃ A' c', e = .returned (.tuple #[.slice A' l2.length c', .int .i64 0]) ∧ l2.length ≤ c' ∧ Ops.Ops w' A' l2) ∧ Below V.heap.size V w'
theorem apply1 (b : Bool) (V : World) (hE : Lg.Env V) (A : Option Addr) (c : Nat) (Ag Af Ar : Option Addr) (cg cf cr : Nat) (hp : Parts V (oneS b 0 Ops.zeroR) Ag cg Af cf Ar cr) :
    Calls Tryz.prog 55 #[.slice A 0 c, .agg (evC 1 ⟨#[97]⟩ Ag 1 cg Af 0 cf ⟨#[116]⟩ 0 0 ⟨#[]⟩ ⟨#[]⟩ Ar 0 cr)] V (OneAns [oneS b 1 Ops.zeroR] V) := by
  obtain ⟨W1, eW⟩ : ∃ W1, W1 = V.alloc (.cells (evC 1 ⟨#[97]⟩ Ag 1 cg Af 0 cf ⟨#[116]⟩ 0 0 ⟨#[]⟩ ⟨#[]⟩ Ar 0 cr) 92) := ⟨_, rfl⟩
  have hb1 : Below V.heap.size V W1 := by rw [eW]; exact (Below.refl _ _).alloc (Nat.le_refl _) _
  obtain ⟨ad, Ad, cd, At, ct, rfl, hT⟩ := tgat_of b V _ Ag hp.g
  have SB := Lib.hid (submit1 W1 ad ⟨#[97]⟩ ⟨#[116]⟩ (cmdS b) Ad At Af A Ar cd ct cg cf c cr (hT.below hb1) (by decide) name97 (by decide) name116 (parse_ok b W1 (hE.below hb1)))
  have FN : Hid (∀ v w1, SubSays W1 ⟨#[97]⟩ ⟨#[116]⟩ ad cg Af cf (.returned (.tuple #[v, .int .i64 0])) w1 → OneAns [oneS b 1 Ops.zeroR] V (.returned (.tuple #[v, .int .i64 0])) w1) := Lib.hid fun v w1 h => by
    obtain ⟨⟨v', he, ho⟩, hb⟩ := h
    cases he
    have hbb := hb1.trans (hb.mono hb1.size)
    have hov : Ops.OV w1 (oneS b 1 Ops.zeroR) (opCells ⟨#[97]⟩ (some ad) 1 cg Af 0 cf ⟨#[116]⟩ 1 0 ⟨#[]⟩ ⟨#[]⟩ none 0 0).toList := ⟨some ad, cg, Af, cf, none, 0, rfl, (show Parts V (oneS b 1 Ops.zeroR) (some ad) cg Af cf none 0 from ⟨hp.g, hp.f, Reads.none_, hp.gc, hp.fc, Nat.le_refl _⟩).below hbb⟩
    obtain ⟨A', c', rfl, h1, h2⟩ := Ops.OwnOps.ops (l := [oneS b 1 Ops.zeroR]) ⟨_, ho, _, [], (List.append_nil _).symm, hov, rfl⟩
    exact ⟨⟨A', c', rfl, h1, h2⟩, hbb⟩
  clear hE hp hT hb1
  generalize OneAns [oneS b 1 Ops.zeroR] V = Q at *
  go_enter Tryz.func55, Tryz.ntmps55
  go_wp2_with (go_at_call 94; rw [← eW]; clear eW; (with_reducible refine (SB.out).mono ?_); rintro e w1 ⟨⟨v, rfl, ho⟩, hb⟩)
  exact FN.out _ _ ⟨⟨v, rfl, ho⟩, hb⟩
theorem apply2 (b : Bool) (V : World) (A : Option Addr) (c : Nat) (hc : 1 ≤ c) (hr : Ops.Ops V A [oneS b 1 Ops.zeroR]) (Ag Af Ar : Option Addr) (cg cf cr : Nat) (hp : Parts V (oneS b 1 Ops.zeroR) Ag cg Af cf Ar cr) :
    Calls Tryz.prog 55 #[.slice A 1 c, .agg (evC 2 ⟨#[97]⟩ Ag 1 cg Af 0 cf ⟨#[116]⟩ 1 0 ⟨#[]⟩ ⟨#[]⟩ Ar 0 cr)] V (OneAns [oneS b 2 Ops.zeroR] V) :=
  Ops.apply_put2 A [oneS b 1 Ops.zeroR] c (oneS b 1 Ops.zeroR) Ag cg Af cf Ar cr V hr (by simp) hc hp (i := 0) (by simp) (by cases b <;> rfl) (y0 := oneS b 2 Ops.zeroR) rfl
theorem apply3 (b : Bool) (V : World) (A : Option Addr) (c : Nat) (hc : 1 ≤ c) (hr : Ops.Ops V A [oneS b 2 Ops.zeroR]) (Ag Af Ar : Option Addr) (cg cf cr : Nat) (hp : Parts V (oneS b 2 (resS b)) Ag cg Af cf Ar cr) :
    Calls Tryz.prog 55 #[.slice A 1 c, .agg (evC 3 ⟨#[97]⟩ Ag 1 cg Af 0 cf ⟨#[116]⟩ 2 0 ⟨#[]⟩ ⟨#[]⟩ Ar 1 cr)] V (OneAns [oneS b 3 (resS b)] V) :=
  Ops.apply_put3 A [oneS b 2 Ops.zeroR] c (oneS b 2 (resS b)) Ag cg Af cf Ar cr V hr (by simp) hc hp (i := 0) (by simp) (by cases b <;> rfl) (y0 := oneS b 3 (resS b)) rfl
theorem opat_of {V : World} {A : Option Addr} {x : Ops.Op} (h : Ops.Ops V A [x]) : ∃ ad Ag cg Af cf Ar cr, A = some ad ∧ OpAt V ad (opCells x.n Ag x.gr.length cg Af x.sn.length cf x.go x.st x.r.e x.r.at_ x.r.tx Ar x.r.fs.length cr) := by
  obtain ⟨cs, ⟨a, b, rfl, ⟨Ag, cg, Af, cf, Ar, cr, rfl, hp⟩, hb⟩, hr⟩ := h
  have hb' : b = [] := hb
  subst hb'
  obtain ⟨ad, rfl, _, hc⟩ := hr.2 (by simp)
  have e0 : ad.add 0 = ad := rfl
  have h0 : V.cell? (ad.add 0) = some (.string x.n) := hc 0 _ rfl
  have hsp := spot_none (e0 ▸ h0)
  refine ⟨ad, Ag, cg, Af, cf, Ar, cr, rfl, hsp, fun j v hj => ?_⟩
  have : V.cell? (ad.add j) = some v := hc j v (by rw [List.append_nil]; rw [← Array.getElem?_toList] at hj; exact hj)
  obtain ⟨ab, ao, asp⟩ := ad
  obtain rfl : asp = none := hsp
  have e : (⟨ab, ao, none⟩ : Addr).add j = ⟨ab, ao + j, none⟩ := by simp [Addr.add]
  exact e ▸ this
theorem same_len (V : World) (A A' : Option Addr) (c c' n m : Nat) (h : n ≠ m) : Calls Tryz.prog 56 #[.slice A' n c', .slice A m c] V fun e w' => e = .returned (.bool false) ∧ Below V.heap.size V w' :=
  same_of A' A n m c' c V ((equal_len n m (.int .i64 0) (.int .i64 0) _ A' A c' c h V).mono fun e w' hh => ⟨hh.1, hh.2 ▸ Below.refl _ _⟩)
theorem same_st (b : Bool) (s t : Int) (r q : Ops.Rs) (hst : s ≠ t) (V : World) (A A' : Option Addr) (c c' : Nat) (h' : Ops.Ops V A' [oneS b s r]) (h : Ops.Ops V A [oneS b t q]) : Calls Tryz.prog 56 #[.slice A' 1 c', .slice A 1 c] V fun e w' => e = .returned (.bool false) ∧ Below V.heap.size V w' := by
  obtain ⟨a, Ag, cg, Af, cf, Ar, cr, rfl, ha⟩ := opat_of h'
  obtain ⟨a', Bg, dg, Bf, df, Br, dr, rfl, hb⟩ := opat_of h
  exact same_of _ _ 1 1 c' c V (equal_one _ _ _ _ _ _ _ _ _ _ _ _ _ _ _ _ _ _ _ _ _ _ s t _ _ _ _ _ _ hst V a a' ha hb)
end Go.Proofs.YtifiipmmgnmciaaGreatDoor.Sv
/- SvDo, what a claim needs of it (prune.py). -/
namespace Go.Proofs.YtifiipmmgnmciaaGreatDoor.Sv
open Go.RowKit Go.Maps
open Dk (Kp)
open Ol (Ol OlAt OlS St OkN DoIn DoSays did)
open Ops (Parts OkO apply wrongV)
open Wl (appL)
set_option linter.unusedVariables false
set_option maxRecDepth 100000
def DidS (w V : World) (bo bl bd m nn : Nat) (o' : Ol) (w' : World) : Prop := St w w' bo bl bd m (nn + 2) o' ∧ Kp (OlS bo bl bd m) V w'
theorem do_k (b : Bool) (k st : Int) (r : Ops.Rs) (o o' : Ol) (l2 : List Ol.Op) (hok : OkO (oneS b st r)) (hnum : OkN k (oneS b st r)) (hl2 : l2.length ≤ 400) (hOK : ∀ y ∈ l2, OkO y) (hdid : did o k (oneS b st r) l2 = o') (hd : o.log.dead = false) (hmany : o.log.many < 8) (hnu : o.log.number ≤ 1000000) (hpa : o.log.part ≤ 1000000) (hlen : (Cd.evB ⟨k, oneS b st r⟩).length ≤ 1000000) (hgo : (appL o.d o.log (Cd.evB ⟨k, oneS b st r⟩)).2.2 = 0)
    (w : World) (hE : Lg.Env w) (V : World) (bo bl bd m nn : Nat) (h : St w V bo bl bd m nn o) (hn : nn ≤ 50) (Ag Af Ar : Option Addr) (cg cf cr : Nat) (hp : Parts V (oneS b st r) Ag cg Af cf Ar cr)
    (hap : ∀ A c, o.l.length ≤ c → Ops.Ops V A o.l → ∀ U, Below V.heap.size V U → Calls Tryz.prog 55 #[.slice A o.l.length c, .agg (evC k ⟨#[97]⟩ Ag 1 cg Af 0 cf ⟨#[116]⟩ st r.e r.at_ r.tx Ar r.fs.length cr)] U (OneAns l2 U))
    (hsm : ∀ A c A' c' U, Ops.Ops V A o.l → Below V.heap.size V U → Ops.Ops U A' l2 → Calls Tryz.prog 56 #[.slice A' l2.length c', .slice A o.l.length c] U fun e w' => e = .returned (.bool false) ∧ Below U.heap.size U w') :
    Calls Tryz.prog 32 #[.pointer (some ⟨bo, 0, none⟩), .agg (evC k ⟨#[97]⟩ Ag 1 cg Af 0 cf ⟨#[116]⟩ st r.e r.at_ r.tx Ar r.fs.length cr)] V fun e w' => e = .returned (.int .i64 0) ∧ DidS w V bo bl bd m nn o' w' := by
  refine (Ol.do_at V bo bl bd m nn o k (oneS b st r) Ag cg Af cf Ar cr l2 (hE.below h.bw) h.at_ hok hp hnum hOK hl2 hap hsm hd hmany hnu hpa hlen hgo (by omega)).mono ?_
  rintro e w' hh
  have h2 := h.did hh
  rw [hdid] at h2
  exact ⟨h2.1, h2.2, hh.2.2⟩
theorem do_1 (b : Bool) (w : World) (hE : Lg.Env w) (V : World) (bo bl bd m nn : Nat) (h : St w V bo bl bd m nn (q0 100000)) (hn : nn ≤ 50) (Ag Af Ar : Option Addr) (cg cf cr : Nat) (hp : Parts V (oneS b 0 Ops.zeroR) Ag cg Af cf Ar cr) :
    Calls Tryz.prog 32 #[.pointer (some ⟨bo, 0, none⟩), .agg (evC 1 ⟨#[97]⟩ Ag 1 cg Af 0 cf ⟨#[116]⟩ 0 0 ⟨#[]⟩ ⟨#[]⟩ Ar 0 cr)] V fun e w' => e = .returned (.int .i64 0) ∧ DidS w V bo bl bd m nn (q1 b 100000) w' :=
  do_k b 1 0 Ops.zeroR (q0 100000) (q1 b 100000) [oneS b 1 Ops.zeroR] (oneS_ok0 b 0) (numS b 1 0 (by omega) (by omega)) (by simp) (fun y hy => by rw [List.mem_singleton.1 hy]; exact oneS_ok0 b 1) (didS1 b (by omega)) rfl (by show 0 < 8; omega) (by show 0 ≤ 1000000; omega) (by show 0 ≤ 1000000; omega) (Nat.le_trans (lenS1 b) (by omega)) (by rw [show appL (q0 100000).d (q0 100000).log (Cd.evB ⟨1, oneS b 0 Ops.zeroR⟩) = _ from appL_first (L := 100000) (lenS1 b) (by omega)]) w hE V bo bl bd m nn h hn Ag Af Ar cg cf cr hp (fun A c _ _ U hU => apply1 b U ((hE.below h.bw).below hU) A c Ag Af Ar cg cf cr (hp.below hU)) (fun A c A' c' U _ _ _ => same_len U A A' c c' 1 0 (by omega))
theorem do_2 (b : Bool) (w : World) (hE : Lg.Env w) (V : World) (bo bl bd m nn : Nat) (h : St w V bo bl bd m nn (q1 b 100000)) (hn : nn ≤ 50) (Ag Af Ar : Option Addr) (cg cf cr : Nat) (hp : Parts V (oneS b 1 Ops.zeroR) Ag cg Af cf Ar cr) :
    Calls Tryz.prog 32 #[.pointer (some ⟨bo, 0, none⟩), .agg (evC 2 ⟨#[97]⟩ Ag 1 cg Af 0 cf ⟨#[116]⟩ 1 0 ⟨#[]⟩ ⟨#[]⟩ Ar 0 cr)] V fun e w' => e = .returned (.int .i64 0) ∧ DidS w V bo bl bd m nn (q2 b 100000) w' :=
  do_k b 2 1 Ops.zeroR (q1 b 100000) (q2 b 100000) [oneS b 2 Ops.zeroR] (oneS_ok0 b 1) (numS b 2 1 (by omega) (by omega)) (by simp) (fun y hy => by rw [List.mem_singleton.1 hy]; exact oneS_ok0 b 2) (didS2 b (by omega)) rfl (by show 1 < 8; omega) (by show 0 ≤ 1000000; omega) (by show 0 ≤ 1000000; omega) (Nat.le_trans (lenS2 b) (by omega)) (by rw [show appL (q1 b 100000).d (q1 b 100000).log (Cd.evB ⟨2, oneS b 1 Ops.zeroR⟩) = _ from appL_more (L := 100000) (lenS2 b) (by have := fr_len (lenS1 b); omega)]) w hE V bo bl bd m nn h hn Ag Af Ar cg cf cr hp (fun A c hc ho U hU => apply2 b U A c hc (ho.below hU) Ag Af Ar cg cf cr (hp.below hU)) (fun A c A' c' U h1 hU h2 => same_st b 2 1 _ _ (by omega) U A A' c c' h2 (h1.below hU))
theorem do_3 (b : Bool) (w : World) (hE : Lg.Env w) (V : World) (bo bl bd m nn : Nat) (h : St w V bo bl bd m nn (q2 b 100000)) (hn : nn ≤ 50) (Ag Af Ar : Option Addr) (cg cf cr : Nat) (hp : Parts V (oneS b 2 (resS b)) Ag cg Af cf Ar cr) :
    Calls Tryz.prog 32 #[.pointer (some ⟨bo, 0, none⟩), .agg (evC 3 ⟨#[97]⟩ Ag 1 cg Af 0 cf ⟨#[116]⟩ 2 0 ⟨#[]⟩ ⟨#[]⟩ Ar 1 cr)] V fun e w' => e = .returned (.int .i64 0) ∧ DidS w V bo bl bd m nn (q3 b 100000) w' :=
  do_k b 3 2 (resS b) (q2 b 100000) (q3 b 100000) [oneS b 3 (resS b)] (oneS_okR b 2) (numSR b 3 2 (by omega) (by omega)) (by simp) (fun y hy => by rw [List.mem_singleton.1 hy]; exact oneS_okR b 3) (didS3 b (by omega)) rfl (by show 2 < 8; omega) (by show 0 ≤ 1000000; omega) (by show 0 ≤ 1000000; omega) (Nat.le_trans (lenS3 b) (by omega)) (by rw [show appL (q2 b 100000).d (q2 b 100000).log (Cd.evB ⟨3, oneS b 2 (resS b)⟩) = _ from appL_more (L := 100000) (lenS3 b) (by have := fr_len (lenS1 b); have := fr_len (lenS2 b); rw [List.length_append]; omega)]) w hE V bo bl bd m nn h hn Ag Af Ar cg cf cr hp (fun A c hc ho U hU => apply3 b U A c hc (ho.below hU) Ag Af Ar cg cf cr (hp.below hU)) (fun A c A' c' U h1 hU h2 => same_st b 3 2 _ _ (by omega) U A A' c c' h2 (h1.below hU))
end Go.Proofs.YtifiipmmgnmciaaGreatDoor.Sv
/- SvEnv, what a claim needs of it (prune.py). -/
namespace Go.Proofs.YtifiipmmgnmciaaGreatDoor.Sv
open Go.RowKit
open Dk (Kp)
set_option linter.unusedVariables false
set_option maxRecDepth 100000
noncomputable def KS (b : Bool) : ByteArray := actionB (cmdS b) [] [] 50
theorem KS_size (b : Bool) : (KS b).size ≤ maxLen := by
  have h : (KS b).size = 32 := by
    unfold KS actionB
    rw [bs_size]
    exact Blk.sum_len _
  rw [h]
  unfold maxLen
  omega
theorem actOk (b : Bool) : ActOk (cmdS b) [] [] 50 := ⟨(by cases b <;> decide), ⟨by simp, fun f hf => (by cases hf)⟩, by simp, fun x hx => (by cases hx), by omega, by omega⟩
theorem env_of (b : Bool) (W : World) (hE : Lg.Env W) (Ag Af : Option Addr) (cg cf : Nat) (hg : Tgs W W.heap.size Ag [tS b]) (hc : 1 ≤ cg) : ∃ ad Ad cd At ct, Ag = some ad ∧ Env W (some ad) Af Ad At cg cf cd ct ⟨#[116]⟩ ⟨#[116]⟩ (cmdS b) (KS b) := by
  obtain ⟨ad, Ad, cd, As, cs, rfl, ta⟩ := tgat_of b W _ Ag hg
  refine ⟨ad, Ad, cd, As, cs, rfl, ?_, ?_, ?_, ?_⟩
  · exact fun V hV => gfind_one V ad cg _ _ _ _ _ _ (ta.below hV)
  · intro V hV
    exact gcheck1 V ad cg _ _ Ad As cd cs (ta.below hV) (by decide) name116 ((parse_ok b W hE).later hV)
  · intro V hV
    exact (fcheck0 Af cf V).mono fun e w' hh => ⟨hh.1, hh.2 ▸ Below.refl _ _⟩
  · intro V hV
    exact kaction_any (cmdS b) none none [] [] 0 0 50 (actOk b) V (Ops.fsEnv (hE.below hV)) Reads.none_ Reads.none_
end Go.Proofs.YtifiipmmgnmciaaGreatDoor.Sv
