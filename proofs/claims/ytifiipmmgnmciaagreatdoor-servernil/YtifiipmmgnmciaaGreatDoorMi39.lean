/- Joined by mkmerged.py: CdEvent2, CdEvent3. -/
import Derived.Test.YtifiipmmgnmciaaGreatDoorMi38
/- CdEvent2, what a claim needs of it (prune.py). -/
namespace Go.Proofs.YtifiipmmgnmciaaGreatDoor.Cd
open Go.RowKit
open Ops (Rs Ev OkO Parts valOf evOf)
set_option linter.unusedVariables false
set_option maxRecDepth 100000
set_option maxHeartbeats 16000000 in
theorem sop_any (w0 : World) (ht : Tab w0) (b : Nat) (acc : B) (x : Op) (Ag : Option Addr) (cg : Nat) (Af : Option Addr) (cf : Nat) (Ar : Option Addr) (cr : Nat) (hx : OkO x) (hp : Parts w0 x Ag cg Af cf Ar cr) (s0 : -9223372036854775808 ≤ x.st) (s1 : x.st ≤ 9223372036854775807) (i0 : -9223372036854775808 ≤ x.r.e) (i1 : x.r.e ≤ 9223372036854775807) (ha : x.r.at_.size ≤ 100000) (hy : x.r.tx.size ≤ 100000) (hz : acc.length ≤ 10000000) (w : World) (h : Sh w0 b acc w) :
    Calls Tryz.prog 115 #[.pointer (some ⟨b, 0, none⟩), .agg #[.string x.n, .slice Ag x.gr.length cg, .slice Af x.sn.length cf, .string x.go, .int .i64 x.st, .int .i64 x.r.e, .string x.r.at_, .string x.r.tx, .slice Ar x.r.fs.length cr]] w fun e w' => e = .returned (.pointer (some ⟨b, 0, none⟩)) ∧ Sh w0 b (acc ++ opB x) w' ∧ KUs b w w' := by
  have hb := h.lt
  obtain ⟨W0, eW⟩ : ∃ W0, W0 = w.alloc (.cells #[.string x.n, .slice Ag x.gr.length cg, .slice Af x.sn.length cf, .string x.go, .int .i64 x.st, .int .i64 x.r.e, .string x.r.at_, .string x.r.tx, .slice Ar x.r.fs.length cr] 29) := ⟨_, rfl⟩
  have g0 : W0.heap[w.heap.size]? = some (.cells #[.string x.n, .slice Ag x.gr.length cg, .slice Af x.sn.length cf, .string x.go, .int .i64 x.st, .int .i64 x.r.e, .string x.r.at_, .string x.r.tx, .slice Ar x.r.fs.length cr] 29 (0, 0)) := by rw [eW]; exact heap_alloc_new _ _
  have B0 : Below w.heap.size w W0 := by rw [eW]; exact (Below.refl _ _).alloc (Nat.le_refl _) _
  have hb0 : b < W0.heap.size := Nat.lt_of_lt_of_le hb B0.size
  have s00 : Sh w0 b acc W0 := h.later B0
  have k00 : KUs b w W0 := KUs.of_below B0
  have HX : Hid (∀ W, KUs b W0 W → W.cell? ⟨w.heap.size, 0, none⟩ = some (.string x.n) ∧ W.cell? ⟨w.heap.size, 1, none⟩ = some (.slice Ag x.gr.length cg) ∧ W.cell? ⟨w.heap.size, 2, none⟩ = some (.slice Af x.sn.length cf) ∧ W.cell? ⟨w.heap.size, 3, none⟩ = some (.string x.go) ∧ W.cell? ⟨w.heap.size, 4, none⟩ = some (.int .i64 x.st) ∧ W.cell? ⟨w.heap.size, 5, none⟩ = some (.int .i64 x.r.e) ∧ W.cell? ⟨w.heap.size, 6, none⟩ = some (.string x.r.at_) ∧ W.cell? ⟨w.heap.size, 7, none⟩ = some (.string x.r.tx) ∧ W.cell? ⟨w.heap.size, 8, none⟩ = some (.slice Ar x.r.fs.length cr)) := Lib.hid fun W hk => by
    have h1 := box_kept g0 (by decide) (by omega) hk
    exact ⟨(cell_heap h1 0).trans rfl, (cell_heap h1 1).trans rfl, (cell_heap h1 2).trans rfl, (cell_heap h1 3).trans rfl, (cell_heap h1 4).trans rfl, (cell_heap h1 5).trans rfl, (cell_heap h1 6).trans rfl, (cell_heap h1 7).trans rfl, (cell_heap h1 8).trans rfl⟩
  have z0 := tlen hx.n (by decide)
  have z1 := tlen hx.go (by decide)
  have z2 := glen hx.gl hx.g
  have z3 := flen hx.fl hx.f
  have z4 := nlen s0 s1
  have z5 := text_len (Pk.list (x.gr.map Tg.b))
  have hxn := hx.n
  have hxg := hx.go
  have KG : Hid (∀ W, Sh w0 b acc W → Calls Tryz.prog 98 #[.slice Ag x.gr.length cg] W fun e w' => e = .returned (.string (bs (Pk.list (x.gr.map Tg.b)))) ∧ Below W.heap.size W w') := Lib.hid fun W hW => kgraph_any Ag x.gr cg hx.gl hx.g W (ht.on hW.1) ((hp.g.below hW.1).more hW.1.size)
  have N2 := Lib.hid (text2 w0 ht b acc x.n (bs (Pk.list (x.gr.map Tg.b))) W0 hb0 (by omega) (by rw [bs_size]; omega) (by omega))
  have N3 := Lib.hid (fun w h (_ : KUs b W0 w) => sfiles_any w0 ht b (acc ++ (Pk.text (tl x.n) ++ Pk.text (Pk.list (x.gr.map Tg.b)))) Af x.sn cf hx.fl hx.f hp.f (by simp only [List.length_append]; omega) w h)
  have N4 := Lib.hid (text1 w0 ht b (acc ++ (Pk.text (tl x.n) ++ Pk.text (Pk.list (x.gr.map Tg.b))) ++ Pk.text (Pk.list (x.sn.map Fl.b))) x.go W0 hb0 (by omega) (by simp only [List.length_append]; omega))
  have N5 := Lib.hid (num1 w0 ht b (acc ++ (Pk.text (tl x.n) ++ Pk.text (Pk.list (x.gr.map Tg.b))) ++ Pk.text (Pk.list (x.sn.map Fl.b)) ++ Pk.text (tl x.go)) x.st W0 hb0 s0 s1 (by simp only [List.length_append]; omega))
  have N6 := Lib.hid (fun w h (_ : KUs b W0 w) => sresult_any w0 ht b (acc ++ (Pk.text (tl x.n) ++ Pk.text (Pk.list (x.gr.map Tg.b))) ++ Pk.text (Pk.list (x.sn.map Fl.b)) ++ Pk.text (tl x.go) ++ Pk.text (Lib.itoa x.st)) x.r Ar cr hx.rl hx.r hp.r i0 i1 ha hy (by simp only [List.length_append]; omega) w h)
  have F : Hid (acc ++ (Pk.text (tl x.n) ++ Pk.text (Pk.list (x.gr.map Tg.b))) ++ Pk.text (Pk.list (x.sn.map Fl.b)) ++ Pk.text (tl x.go) ++ Pk.text (Lib.itoa x.st) ++ resB x.r = acc ++ opB x) := Lib.hid (by simp [opB])
  generalize acc ++ (Pk.text (tl x.n) ++ Pk.text (Pk.list (x.gr.map Tg.b))) ++ Pk.text (Pk.list (x.sn.map Fl.b)) ++ Pk.text (tl x.go) ++ Pk.text (Lib.itoa x.st) ++ resB x.r = a6 at *
  generalize acc ++ (Pk.text (tl x.n) ++ Pk.text (Pk.list (x.gr.map Tg.b))) ++ Pk.text (Pk.list (x.sn.map Fl.b)) ++ Pk.text (tl x.go) ++ Pk.text (Lib.itoa x.st) = a5 at *
  generalize acc ++ (Pk.text (tl x.n) ++ Pk.text (Pk.list (x.gr.map Tg.b))) ++ Pk.text (Pk.list (x.sn.map Fl.b)) ++ Pk.text (tl x.go) = a4 at *
  generalize acc ++ (Pk.text (tl x.n) ++ Pk.text (Pk.list (x.gr.map Tg.b))) ++ Pk.text (Pk.list (x.sn.map Fl.b)) = a3 at *
  have N2' : Hid (∀ w g, (∃ wa : World, KUs b (wa.alloc (.cells #[.string x.n, .string (bs (Pk.list (x.gr.map Tg.b)))] 9)) w ∧ KUs b W0 wa ∧ g = wa.heap.size) → Sh w0 b acc w → Calls Tryz.prog 186 #[.pointer (some ⟨b, 0, none⟩), .slice (some ⟨g, 0, none⟩) 2 2] w fun e w' => e = .returned (.pointer (some ⟨b, 0, none⟩)) ∧ Sh w0 b (acc ++ (Pk.text (tl x.n) ++ Pk.text (Pk.list (x.gr.map Tg.b)))) w' ∧ KUs b w w') := N2
  clear N2
  generalize acc ++ (Pk.text (tl x.n) ++ Pk.text (Pk.list (x.gr.map Tg.b))) = a2 at *
  generalize bs (Pk.list (x.gr.map Tg.b)) = G at *
  have NT : Hid (∀ w g n, (n = 2 ∧ (∃ wa : World, KUs b (wa.alloc (.cells #[.string x.n, .string G] 9)) w ∧ KUs b W0 wa ∧ g = wa.heap.size) ∧ Sh w0 b acc w) ∨ (n = 1 ∧ (∃ wa : World, KUs b (wa.alloc (.cells #[.string x.go] 9)) w ∧ KUs b W0 wa ∧ g = wa.heap.size) ∧ Sh w0 b a3 w) → Calls Tryz.prog 186 #[.pointer (some ⟨b, 0, none⟩), .slice (some ⟨g, 0, none⟩) n n] w fun e w' => e = .returned (.pointer (some ⟨b, 0, none⟩)) ∧ Sh w0 b (if n = 2 then a2 else a4) w' ∧ KUs b w w') := Lib.hid fun w g n h => by
    rcases h with ⟨rfl, h1, h2⟩ | ⟨rfl, h1, h2⟩
    · exact N2'.out w g h1 h2
    · exact N4.out w g h1 h2
  clear N2' N4
  clear h g0 B0 hp hx z0 z1 z2 z3 z4 z5 hxn hxg ha hy hz i0 i1 s0 s1 hb
  go_enter Tryz.func115, Tryz.ntmps115
  go_upto_region 1 with (fail)
  rw [← eW]
  clear eW
  go_region_held3 (fun W => W.cell? ⟨w.heap.size, 0, none⟩ = some (.string x.n) ∧ W.cell? ⟨w.heap.size, 1, none⟩ = some (.slice Ag x.gr.length cg) ∧ W.cell? ⟨w.heap.size, 2, none⟩ = some (.slice Af x.sn.length cf) ∧ W.cell? ⟨w.heap.size, 3, none⟩ = some (.string x.go) ∧ W.cell? ⟨w.heap.size, 4, none⟩ = some (.int .i64 x.st) ∧ W.cell? ⟨w.heap.size, 5, none⟩ = some (.int .i64 x.r.e) ∧ W.cell? ⟨w.heap.size, 6, none⟩ = some (.string x.r.at_) ∧ W.cell? ⟨w.heap.size, 7, none⟩ = some (.string x.r.tx) ∧ W.cell? ⟨w.heap.size, 8, none⟩ = some (.slice Ar x.r.fs.length cr)) (exact HX.out _ (by (repeat (first | (with_reducible exact KUs.refl _ _) | (with_reducible refine KUs.alloc ?_ _) | (with_reducible refine KUs.drew ?_) | (with_reducible refine KUs.trans ?_ k6) | (with_reducible refine KUs.trans ?_ k5) | (with_reducible refine KUs.trans ?_ k4) | (with_reducible refine KUs.trans ?_ k3) | (with_reducible refine KUs.trans ?_ k2) | (with_reducible refine KUs.trans ?_ k1))))) (first
    | (go_at_call 98; (with_reducible refine Calls.mono (KG.out _ ?_) ?_); (focus (repeat (first | (with_reducible assumption) | (with_reducible refine Sh.alloc ?_ _) | (with_reducible refine Sh.drew ?_)))); rintro e w1 ⟨rfl, hb1⟩; have hs1 : Sh w0 b acc w1 := Sh.later (by (repeat (first | (with_reducible assumption) | (with_reducible refine Sh.alloc ?_ _) | (with_reducible refine Sh.drew ?_)))) hb1; have k1 := KUs.of_below (b := b) hb1; clear hb1)
    | (go_at_call 186; (with_reducible refine Calls.mono (NT.out _ _ _ ?_) ?_); first | ((focus (exact .inl ⟨rfl, ⟨_, (by (repeat (first | (with_reducible exact KUs.refl _ _) | (with_reducible refine KUs.alloc ?_ _) | (with_reducible refine KUs.drew ?_) | (with_reducible refine KUs.trans ?_ k6) | (with_reducible refine KUs.trans ?_ k5) | (with_reducible refine KUs.trans ?_ k4) | (with_reducible refine KUs.trans ?_ k3) | (with_reducible refine KUs.trans ?_ k2) | (with_reducible refine KUs.trans ?_ k1)))), (by (repeat (first | (with_reducible exact KUs.refl _ _) | (with_reducible refine KUs.alloc ?_ _) | (with_reducible refine KUs.drew ?_) | (with_reducible refine KUs.trans ?_ k6) | (with_reducible refine KUs.trans ?_ k5) | (with_reducible refine KUs.trans ?_ k4) | (with_reducible refine KUs.trans ?_ k3) | (with_reducible refine KUs.trans ?_ k2) | (with_reducible refine KUs.trans ?_ k1)))), (by (first | (with_reducible rfl) | (simp; done) | rfl))⟩, (by (repeat (first | (with_reducible assumption) | (with_reducible refine Sh.alloc ?_ _) | (with_reducible refine Sh.drew ?_))))⟩)); rintro e w2 ⟨rfl, hs2', k2⟩; have hs2 : Sh w0 b a2 w2 := hs2'; clear hs2') | ((focus (exact .inr ⟨rfl, ⟨_, (by (repeat (first | (with_reducible exact KUs.refl _ _) | (with_reducible refine KUs.alloc ?_ _) | (with_reducible refine KUs.drew ?_) | (with_reducible refine KUs.trans ?_ k6) | (with_reducible refine KUs.trans ?_ k5) | (with_reducible refine KUs.trans ?_ k4) | (with_reducible refine KUs.trans ?_ k3) | (with_reducible refine KUs.trans ?_ k2) | (with_reducible refine KUs.trans ?_ k1)))), (by (repeat (first | (with_reducible exact KUs.refl _ _) | (with_reducible refine KUs.alloc ?_ _) | (with_reducible refine KUs.drew ?_) | (with_reducible refine KUs.trans ?_ k6) | (with_reducible refine KUs.trans ?_ k5) | (with_reducible refine KUs.trans ?_ k4) | (with_reducible refine KUs.trans ?_ k3) | (with_reducible refine KUs.trans ?_ k2) | (with_reducible refine KUs.trans ?_ k1)))), (by (first | (with_reducible rfl) | (simp; done) | rfl))⟩, (by (repeat (first | (with_reducible assumption) | (with_reducible refine Sh.alloc ?_ _) | (with_reducible refine Sh.drew ?_))))⟩)); rintro e w4 ⟨rfl, hs4', k4⟩; have hs4 : Sh w0 b a4 w4 := hs4'; clear hs4'))
    | (go_at_call 187; (with_reducible refine Calls.mono (N3.out _ ?_ ?_) ?_); (focus (repeat (first | (with_reducible assumption) | (with_reducible refine Sh.alloc ?_ _) | (with_reducible refine Sh.drew ?_)))); (focus (repeat (first | (with_reducible exact KUs.refl _ _) | (with_reducible refine KUs.alloc ?_ _) | (with_reducible refine KUs.drew ?_) | (with_reducible refine KUs.trans ?_ k6) | (with_reducible refine KUs.trans ?_ k5) | (with_reducible refine KUs.trans ?_ k4) | (with_reducible refine KUs.trans ?_ k3) | (with_reducible refine KUs.trans ?_ k2) | (with_reducible refine KUs.trans ?_ k1)))); rintro e w3 ⟨rfl, hs3, k3⟩)
    | (go_at_call 124; (with_reducible refine Calls.mono (N5.out _ _ ?_ ?_) ?_); (focus (exact ⟨_, (by (repeat (first | (with_reducible exact KUs.refl _ _) | (with_reducible refine KUs.alloc ?_ _) | (with_reducible refine KUs.drew ?_) | (with_reducible refine KUs.trans ?_ k6) | (with_reducible refine KUs.trans ?_ k5) | (with_reducible refine KUs.trans ?_ k4) | (with_reducible refine KUs.trans ?_ k3) | (with_reducible refine KUs.trans ?_ k2) | (with_reducible refine KUs.trans ?_ k1)))), (by (repeat (first | (with_reducible exact KUs.refl _ _) | (with_reducible refine KUs.alloc ?_ _) | (with_reducible refine KUs.drew ?_) | (with_reducible refine KUs.trans ?_ k6) | (with_reducible refine KUs.trans ?_ k5) | (with_reducible refine KUs.trans ?_ k4) | (with_reducible refine KUs.trans ?_ k3) | (with_reducible refine KUs.trans ?_ k2) | (with_reducible refine KUs.trans ?_ k1)))), (by (first | (with_reducible rfl) | (simp; done) | rfl))⟩)); (focus (repeat (first | (with_reducible assumption) | (with_reducible refine Sh.alloc ?_ _) | (with_reducible refine Sh.drew ?_)))); rintro e w5 ⟨rfl, hs5, k5⟩)
    | (go_at_call 188; (with_reducible refine Calls.mono (N6.out _ ?_ ?_) ?_); (focus (repeat (first | (with_reducible assumption) | (with_reducible refine Sh.alloc ?_ _) | (with_reducible refine Sh.drew ?_)))); (focus (repeat (first | (with_reducible exact KUs.refl _ _) | (with_reducible refine KUs.alloc ?_ _) | (with_reducible refine KUs.drew ?_) | (with_reducible refine KUs.trans ?_ k6) | (with_reducible refine KUs.trans ?_ k5) | (with_reducible refine KUs.trans ?_ k4) | (with_reducible refine KUs.trans ?_ k3) | (with_reducible refine KUs.trans ?_ k2) | (with_reducible refine KUs.trans ?_ k1)))); rintro e w6 ⟨rfl, hs6, k6⟩))
  all_goals
    go_wp2_with (fail)
    go_ret
    exact ⟨rfl, by rw [← F.out]; exact hs6, k00.trans (by (repeat (first | (with_reducible exact KUs.refl _ _) | (with_reducible refine KUs.alloc ?_ _) | (with_reducible refine KUs.drew ?_) | (with_reducible refine KUs.trans ?_ k6) | (with_reducible refine KUs.trans ?_ k5) | (with_reducible refine KUs.trans ?_ k4) | (with_reducible refine KUs.trans ?_ k3) | (with_reducible refine KUs.trans ?_ k2) | (with_reducible refine KUs.trans ?_ k1))))⟩
end Go.Proofs.YtifiipmmgnmciaaGreatDoor.Cd
/- CdEvent3, what a claim needs of it (prune.py). -/
namespace Go.Proofs.YtifiipmmgnmciaaGreatDoor.Cd
open Go.RowKit
open Ops (Rs Ev OkO Parts valOf evOf)
set_option linter.unusedVariables false
set_option maxRecDepth 100000
set_option maxHeartbeats 8000000 in
theorem event_any (k : Int) (x : Op) (Ag : Option Addr) (cg : Nat) (Af : Option Addr) (cf : Nat) (Ar : Option Addr) (cr : Nat) (w : World) (ht : Tab w) (hx : OkO x) (hp : Parts w x Ag cg Af cf Ar cr) (q0 : -9223372036854775808 ≤ k) (q1 : k ≤ 9223372036854775807) (s0 : -9223372036854775808 ≤ x.st) (s1 : x.st ≤ 9223372036854775807) (i0 : -9223372036854775808 ≤ x.r.e) (i1 : x.r.e ≤ 9223372036854775807) (ha : x.r.at_.size ≤ 100000) (hy : x.r.tx.size ≤ 100000) :
    Calls Tryz.prog 62 #[evOf k x Ag cg Af cf Ar cr] w fun e w' => e = .returned (.string (bs (evB ⟨k, x⟩))) ∧ Below w.heap.size w w' := by
  unfold evOf
  obtain ⟨W0, eW⟩ : ∃ W0, W0 = w.alloc (.cells #[.int .i64 k, .string x.n, .slice Ag x.gr.length cg, .slice Af x.sn.length cf, .string x.go, .int .i64 x.st, .int .i64 x.r.e, .string x.r.at_, .string x.r.tx, .slice Ar x.r.fs.length cr] 92) := ⟨_, rfl⟩
  have g0 : W0.heap[w.heap.size]? = some (.cells #[.int .i64 k, .string x.n, .slice Ag x.gr.length cg, .slice Af x.sn.length cf, .string x.go, .int .i64 x.st, .int .i64 x.r.e, .string x.r.at_, .string x.r.tx, .slice Ar x.r.fs.length cr] 92 (0, 0)) := by rw [eW]; exact heap_alloc_new _ _
  have B0 : Below w.heap.size w W0 := by rw [eW]; exact (Below.refl _ _).alloc (Nat.le_refl _) _
  have HX : Hid (∀ b W, KUs b W0 W → W0.heap.size ≤ b → W.cell? ⟨w.heap.size, 0, none⟩ = some (.int .i64 k) ∧ W.cell? ⟨w.heap.size, 1, none⟩ = some (.string x.n) ∧ W.cell? ⟨w.heap.size, 2, none⟩ = some (.slice Ag x.gr.length cg) ∧ W.cell? ⟨w.heap.size, 3, none⟩ = some (.slice Af x.sn.length cf) ∧ W.cell? ⟨w.heap.size, 4, none⟩ = some (.string x.go) ∧ W.cell? ⟨w.heap.size, 5, none⟩ = some (.int .i64 x.st) ∧ W.cell? ⟨w.heap.size, 6, none⟩ = some (.int .i64 x.r.e) ∧ W.cell? ⟨w.heap.size, 7, none⟩ = some (.string x.r.at_) ∧ W.cell? ⟨w.heap.size, 8, none⟩ = some (.string x.r.tx) ∧ W.cell? ⟨w.heap.size, 9, none⟩ = some (.slice Ar x.r.fs.length cr)) := Lib.hid fun b W hk hb => by
    have h1 := box_kept g0 (by decide) (by have := Lg.lt_heap g0; omega) hk
    exact ⟨(cell_heap h1 0).trans rfl, (cell_heap h1 1).trans rfl, (cell_heap h1 2).trans rfl, (cell_heap h1 3).trans rfl, (cell_heap h1 4).trans rfl, (cell_heap h1 5).trans rfl, (cell_heap h1 6).trans rfl, (cell_heap h1 7).trans rfl, (cell_heap h1 8).trans rfl, (cell_heap h1 9).trans rfl⟩
  have z0 := nlen q0 q1
  have N1 : Hid (∀ b w' g, (∃ wa : World, KUs b (wa.alloc (.cells #[.int .i64 k] 3)) w' ∧ g = wa.heap.size) → g ≠ b → Sh w b [] w' → Calls Tryz.prog 124 #[.pointer (some ⟨b, 0, none⟩), .slice (some ⟨g, 0, none⟩) 1 1] w' fun e w2 => e = .returned (.pointer (some ⟨b, 0, none⟩)) ∧ Sh w b (Pk.text (Lib.itoa k)) w2 ∧ KUs b w' w2) := Lib.hid fun b w' g hrow hg hs => by
    obtain ⟨wa, k1, eg⟩ := hrow
    subst eg
    refine (snum_any w ht b _ [] _ [k] 1 w' hs ((RowV.new _ wa _).kus (by decide) hg k1) (by simp) (by simpa using ⟨q0, q1⟩) (by simp; omega)).mono ?_
    rintro e w2 ⟨h1, h2, h3⟩
    exact ⟨h1, by simpa using h2, h3⟩
  have N2 := Lib.hid (fun b w' h => sop_any w ht b (Pk.text (Lib.itoa k)) x Ag cg Af cf Ar cr hx hp s0 s1 i0 i1 ha hy (by omega) w' h)
  have N3 : Hid (∀ b w', Sh w b (Pk.text (Lib.itoa k) ++ opB x) w' → Calls Tryz.prog 116 #[.pointer (some ⟨b, 0, none⟩)] w' fun e w2 => e = .returned (.string (bs (evB ⟨k, x⟩))) ∧ Below w.heap.size w w2 ∧ KUs b w' w2) := Lib.hid fun b w' h => (sstring_any w.heap.size b _ w' h.2 (by simp [Pk.text])).mono (by
    rintro e w2 ⟨h1, h2, h3⟩
    exact ⟨h1, h.1.trans h2, h3, h2.size⟩)
  clear g0 hp hx z0 ha hy i0 i1 s0 s1 q0 q1
  generalize Pk.text (Lib.itoa k) ++ opB x = a2 at *
  generalize Pk.text (Lib.itoa k) = a1 at *
  go_enter Tryz.func62, Tryz.ntmps62
  go_upto_region 1 with (fail)
  rw [← eW]
  have E0 := Lib.hid B0
  clear eW B0
  go_region_held3 (fun W => W.cell? ⟨w.heap.size, 0, none⟩ = some (.int .i64 k) ∧ W.cell? ⟨w.heap.size, 1, none⟩ = some (.string x.n) ∧ W.cell? ⟨w.heap.size, 2, none⟩ = some (.slice Ag x.gr.length cg) ∧ W.cell? ⟨w.heap.size, 3, none⟩ = some (.slice Af x.sn.length cf) ∧ W.cell? ⟨w.heap.size, 4, none⟩ = some (.string x.go) ∧ W.cell? ⟨w.heap.size, 5, none⟩ = some (.int .i64 x.st) ∧ W.cell? ⟨w.heap.size, 6, none⟩ = some (.int .i64 x.r.e) ∧ W.cell? ⟨w.heap.size, 7, none⟩ = some (.string x.r.at_) ∧ W.cell? ⟨w.heap.size, 8, none⟩ = some (.string x.r.tx) ∧ W.cell? ⟨w.heap.size, 9, none⟩ = some (.slice Ar x.r.fs.length cr)) (first | (refine HX.out W0.heap.size _ ?_ (Nat.le_refl _); (repeat (first | (with_reducible exact KUs.refl _ _) | (with_reducible refine KUs.alloc ?_ _) | (with_reducible refine KUs.drew ?_) | (with_reducible refine KUs.trans ?_ k6) | (with_reducible refine KUs.trans ?_ k5) | (with_reducible refine KUs.trans ?_ k4) | (with_reducible refine KUs.trans ?_ k3) | (with_reducible refine KUs.trans ?_ k2) | (with_reducible refine KUs.trans ?_ k1))); done) | (refine HX.out (W0.heap.size + 1) _ ?_ (Nat.le_succ _); (repeat (first | (with_reducible exact KUs.refl _ _) | (with_reducible refine KUs.alloc ?_ _) | (with_reducible refine KUs.drew ?_) | (with_reducible refine KUs.trans ?_ k6) | (with_reducible refine KUs.trans ?_ k5) | (with_reducible refine KUs.trans ?_ k4) | (with_reducible refine KUs.trans ?_ k3) | (with_reducible refine KUs.trans ?_ k2) | (with_reducible refine KUs.trans ?_ k1))); done)) (first
    | (go_at_call 124; (with_reducible refine Calls.mono (N1.out _ _ _ ?_ ?_ ?_) ?_); (focus (exact ⟨_, (by (repeat (first | (with_reducible exact KUs.refl _ _) | (with_reducible refine KUs.alloc ?_ _) | (with_reducible refine KUs.drew ?_) | (with_reducible refine KUs.trans ?_ k6) | (with_reducible refine KUs.trans ?_ k5) | (with_reducible refine KUs.trans ?_ k4) | (with_reducible refine KUs.trans ?_ k3) | (with_reducible refine KUs.trans ?_ k2) | (with_reducible refine KUs.trans ?_ k1)))), (by (first | (with_reducible rfl) | (simp; done) | rfl))⟩)); (focus (first | omega | (simp; done) | (simp; omega))); (focus (repeat (first | (with_reducible refine Sh.new (by first | (with_reducible rfl) | (simp; done) | rfl) ?_) | (with_reducible refine Sh.alloc ?_ _) | (with_reducible refine Sh.drew ?_) | (with_reducible exact E0.out) | (with_reducible refine bl_alloc ?_ _) | (with_reducible refine Below.drew ?_)))); rintro e w1 ⟨rfl, hs1, k1⟩)
    | (go_at_call 115; (with_reducible refine Calls.mono (N2.out _ _ (by assumption)) ?_); rintro e w2 ⟨rfl, hs2, k2⟩)
    | (go_at_call 116; (with_reducible refine Calls.mono (N3.out _ _ (by assumption)) ?_); rintro e w3 ⟨rfl, hb3, k3⟩))
  all_goals
    go_wp2_with (fail)
    go_ret
    exact ⟨rfl, hb3⟩
end Go.Proofs.YtifiipmmgnmciaaGreatDoor.Cd
