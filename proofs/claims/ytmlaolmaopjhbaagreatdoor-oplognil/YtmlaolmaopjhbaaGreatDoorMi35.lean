/- Joined by mkmerged.py: WlAct, WlActs, WlApp. -/
import Derived.Test.YtmlaolmaopjhbaaGreatDoorMi34
import Derived.Test.YtmlaolmaopjhbaaGreatDoorMi30
import Derived.Deep.RegionHeld3
import Derived.IntWalk
/- WlAct, what a claim needs of it (prune.py). -/
namespace Go.Proofs.YtmlaolmaopjhbaaGreatDoor.Wl
open Go.RowKit
open Dk (Dk Fd Kp DkS DkAt read find sync append sz)
open Cd (KU)
set_option linter.unusedVariables false
set_option maxRecDepth 100000
set_option maxHeartbeats 2000000 in
theorem bstring_ku (B b : Nat) (l : List UInt8) (w : World) (h : SbAt B b l w) (h0 : l ≠ []) :
    Calls Tryz.prog 96 #[.pointer (some ⟨b, 0, none⟩)] w fun e w' => e = .returned (.string (bs l)) ∧ Below B w w' ∧ KU b w w' := by
  obtain ⟨p, hB, v, hbk, hown, hne⟩ : ∃ p, Lib.BuilderAt 139 5 B b p (Lib.byteCells l) w := by
    rcases h with h | h
    · exact ⟨_, h⟩
    · exact ⟨_, h⟩
  have hl0 : l.length ≠ 0 := by simpa using h0
  rw [Lib.byteCells_length] at hown
  obtain ⟨g, cap, cur, rfl, hbg, hg, hnc, hcm, hcs, htake⟩ : ∃ g cap cur, v = .slice (some ⟨g, 0, none⟩) l.length cap ∧ B ≤ g ∧ w.heap[g]? = some (.cells cur 5 (0, 0)) ∧ l.length ≤ cap ∧ cap ≤ maxLen ∧ cur.size = cap * 1 ∧ cur.toList.take (l.length * 1) = Lib.byteCells l := by
    rcases hown.2 with ⟨_, hz⟩ | ⟨g, cap, cur, hv, r⟩
    · exact absurd hz hl0
    · exact ⟨g, cap, cur, hv, r⟩
  have c1 : w.drew.cell? ⟨b, 1, none⟩ = some (.slice (some ⟨g, 0, none⟩) l.length cap) := by
    have : w.drew.heap[b]? = some (.cells #[p, .slice (some ⟨g, 0, none⟩) l.length cap] 139 (0, 0)) := hbk
    rw [Lib.cell_of_heap this]; rfl
  have hSD : (Builtin.unsafeSliceData_ #[137] 200 #[.slice (some ⟨g, 0, none⟩) l.length cap]).run Tryz.prog w.drew = .ok (.pointer (some ⟨g, 0, none⟩)) w.drew :=
    Lib.run_unsafeSliceData_row _ _ _ _ _ _ (by omega)
  have hUS : (Builtin.unsafeString_ #[200, 3] 9 #[.pointer (some ⟨g, 0, none⟩), .int .i64 l.length]).run Tryz.prog w.drew = .ok (.string ⟨l.toArray⟩) (w.drew.freeze ⟨g, 0, none⟩ l.length) := by
    refine Lib.run_unsafeString_row w.drew 200 3 9 5 (by kernel_rfl) (by kernel_rfl) g cur.size (by have hg' : w.drew.heap[g]? = some (.cells cur 5 (0, 0)) := hg; simp [World.shape?, hg']) l h0 (by omega) (by unfold maxLen at hcm; omega) ?_
    intro j x hx
    have := hown.cells (g := g) rfl j (.int .u8 x.toNat) (by simp [Lib.byteCells, hx])
    exact this
  go_enter Tryz.func96, Tryz.ntmps96
  go_wp2
  go_region
  all_goals (go_wp2; go_ret; exact ⟨rfl, Lib.below_freeze (Below.drew (Below.refl B w)) (p := ⟨g, 0, none⟩) hbg _, Cd.KU.freeze hg⟩)
theorem notS {w : World} {b m nn k : Nat} {d : Dk} {cs : Array Value} {T : TypeId} {fr : Nat × Nat} (h : w.heap[k]? = some (.cells cs T fr)) (hT : T ≠ 84) (hD : DkAt w b m nn d) (v : Value) (hv : cs[0]? = some v) : ¬ DkS b m k := fun e => by
  rcases e with e | e
  · rw [e, hD.st] at h
    injection h with h
    injection h with _ h _
    exact hT h.symm
  · have hc : w.cell? ⟨k, 0, none⟩ = some v := by rw [Lib.cell_of_heap h]; exact hv
    exact hD.map.nocell hc e
structure AS (W : World) (Bb b m bl g0 gf gr : Nat) (file : B) (x : Lw) (row : Array Value) (w : World) : Prop where
  g0 : w.heap[g0]? = some (.cells #[.pointer (some ⟨bl, 0, none⟩)] 64 (0, 0))
  log : LogAt w bl b x
  gf : w.heap[gf]? = some (.cells #[.string (bs file)] 9 (0, 0))
  gr : w.heap[gr]? = some (.cells row 99 (0, 0))
  fr : Kp (fun k => k = b ∨ k = m ∨ k = bl) W w
theorem AS.dk {W : World} {Bb b m nn bl g0 gf gr : Nat} {file : B} {x : Lw} {row : Array Value} {w w' : World} {d : Dk} {v : Value} (h : AS W Bb b m bl g0 gf gr file x row w) (hv : row[0]? = some v) (hD : DkAt w b m nn d) (k : Kp (DkS b m) w w') : AS W Bb b m bl g0 gf gr file x row w' :=
  ⟨(k.block _ (Lg.lt_heap h.g0) (notS h.g0 (by decide) hD _ rfl)).trans h.g0, h.log.kp k (h.log.notS hD), (k.block _ (Lg.lt_heap h.gf) (notS h.gf (by decide) hD _ rfl)).trans h.gf, (k.block _ (Lg.lt_heap h.gr) (notS h.gr (by decide) hD v hv)).trans h.gr, h.fr.trans (k.mono (fun i hi => by rcases hi with e | e; exact .inl e; exact .inr (.inl e)))⟩
theorem ku_keeps {w w' : World} {b k : Nat} {cs : Array Value} {T : TypeId} {fr : Nat × Nat} (k1 : KU b w w') (h : w.heap[k]? = some (.cells cs T fr)) (hT : T ≠ 5) (hb : k ≠ b) : w'.heap[k]? = w.heap[k]? :=
  k1 k (Lg.lt_heap h) hb (fun cs' fr' e => by rw [h] at e; injection e with e; injection e with _ e _; exact hT e)
theorem sb_ne {w : World} {Bb gb k : Nat} {acc : B} {cs : Array Value} {T : TypeId} {fr : Nat × Nat} (hS : SbAt Bb gb acc w) (h : w.heap[k]? = some (.cells cs T fr)) (hT : T ≠ 139) : k ≠ gb := fun e => by
  rcases hS with ⟨_, v, hb, _⟩ | ⟨_, v, hb, _⟩
  · rw [e, hb] at h; injection h with h; injection h with _ h _; exact hT h.symm
  · rw [e, hb] at h; injection h with h; injection h with _ h _; exact hT h.symm
theorem Kp.low {S : Nat → Prop} {W w w' : World} {Bb : Nat} (h : Kp S W w) (hb : Below Bb w w') (hB : W.heap.size ≤ Bb) : Kp S W w' :=
  ⟨hb.os.trans h.os, hb.tape.trans h.tape, hb.output.trans h.output, Nat.le_trans h.size hb.size, fun i h1 h2 => (hb.block i (by omega)).trans (h.block i h1 h2)⟩
theorem AS.sb {W : World} {Bb b m bl g0 gf gr gb : Nat} {file acc : B} {x : Lw} {row : Array Value} {w w' : World} (h : AS W Bb b m bl g0 gf gr file x row w) (hB : W.heap.size ≤ Bb) (hS : SbAt Bb gb acc w) (hb : Below Bb w w') (k : KU gb w w') : AS W Bb b m bl g0 gf gr file x row w' :=
  ⟨(ku_keeps k h.g0 (by decide) (sb_ne hS h.g0 (by decide))).trans h.g0, ⟨(ku_keeps k h.log.st (by decide) (sb_ne hS h.log.st (by decide))).trans h.log.st⟩, (ku_keeps k h.gf (by decide) (sb_ne hS h.gf (by decide))).trans h.gf, (ku_keeps k h.gr (by decide) (sb_ne hS h.gr (by decide))).trans h.gr, Kp.low h.fr hb hB⟩
theorem AS.drew {W : World} {Bb b m bl g0 gf gr : Nat} {file : B} {x : Lw} {row : Array Value} {w : World} (h : AS W Bb b m bl g0 gf gr file x row w) : AS W Bb b m bl g0 gf gr file x row w.drew := ⟨h.g0, ⟨h.log.st⟩, h.gf, h.gr, h.fr.drew⟩
theorem AS.cells {W : World} {Bb b m bl g0 gf gr : Nat} {file : B} {x : Lw} {row : Array Value} {w : World} (h : AS W Bb b m bl g0 gf gr file x row w) : w.cell? ⟨g0, 0, none⟩ = some (.pointer (some ⟨bl, 0, none⟩)) ∧ w.cell? ⟨bl, 0, none⟩ = some (.pointer (some ⟨b, 0, none⟩)) ∧ w.cell? ⟨gf, 0, none⟩ = some (.string (bs file)) :=
  ⟨(cell_heap h.g0 0).trans rfl, (cell_heap h.log.st 0).trans rfl, (cell_heap h.gf 0).trans rfl⟩
set_option maxHeartbeats 4000000 in
theorem act2_any (W : World) (Bb b m nn bl g0 gf gr gb : Nat) (d : Dk) (file acc : B) (x : Lw) (row : Array Value) (v : Value) (w : World) (hv : row[0]? = some v) (hB : W.heap.size ≤ Bb) (hb : b < W.heap.size) (hm : m < W.heap.size) (h : AS W Bb b m bl g0 gf gr file x row w) (hS : SbAt Bb gb acc w) (hD : DkAt w b m nn d) (ha : acc ≠ []) (hl : acc.length ≤ 16777216) (hf : file.length ≤ 1000) (hn : nn < maxLen) :
    Calls Tryz.prog 102 #[.pointer (some ⟨g0, 0, none⟩), .pointer (some ⟨gf, 0, none⟩), .pointer (some ⟨gb, 0, none⟩)] w fun e w' => e = .returned (.int .i64 (append d file acc).2) ∧ AS W Bb b m bl g0 gf gr file x row w' ∧ DkAt w' b m (nn + 1) (append d file acc).1 := by
  have x0 := h.drew
  have S0 : SbAt Bb gb acc w.drew := hS
  have D0 : DkAt w.drew b m nn d := hD.keep rfl rfl
  have ST := Lib.hid (bstring_ku Bb gb acc w.drew S0 ha)
  have ST' : Hid (Calls Tryz.prog 96 #[.pointer (some ⟨gb, 0, none⟩)] w.drew fun e w1 => e = .returned (.string (bs acc)) ∧ AS W Bb b m bl g0 gf gr file x row w1 ∧ DkAt w1 b m nn d) := Lib.hid (ST.out.mono (by
    rintro e w1 ⟨h1, h2, h3⟩
    exact ⟨h1, x0.sb hB S0 h2 h3, D0.keep (h2.block _ (by omega)) (h2.block _ (by omega))⟩))
  have AP : Hid (∀ w1, AS W Bb b m bl g0 gf gr file x row w1 → DkAt w1 b m nn d → Calls Tryz.prog 18 #[.pointer (some ⟨b, 0, none⟩), .string (bs file), .string (bs acc)] w1 fun e w' => e = .returned (.int .i64 (append d file acc).2) ∧ AS W Bb b m bl g0 gf gr file x row w' ∧ DkAt w' b m (nn + 1) (append d file acc).1) := Lib.hid fun w1 x1 d1 =>
    (Dk.pappend_any b m nn d (bs file) (bs acc) w1 d1 (by rw [bs_size]; unfold maxLen; omega) (by rw [bs_size]; exact hl) hn).mono (by
      rintro e w' ⟨h1, h2, h3⟩
      exact ⟨h1, x1.dk hv d1 h3, h2⟩)
  obtain ⟨c0, c1, c2⟩ := x0.cells
  have CS := Lib.hid (fun w1 (x1 : AS W Bb b m bl g0 gf gr file x row w1) => x1.cells)
  clear ST hS hD h S0 D0 ha hl hf
  generalize append d file acc = r at *
  go_enter Tryz.func102, Tryz.ntmps102
  go_upto_region 1 with (fail)
  go_region_held3 (fun W => W.cell? ⟨g0, 0, none⟩ = some (.pointer (some ⟨bl, 0, none⟩)) ∧ W.cell? ⟨bl, 0, none⟩ = some (.pointer (some ⟨b, 0, none⟩)) ∧ W.cell? ⟨gf, 0, none⟩ = some (.string (bs file))) (first | (with_reducible exact ⟨c0, c1, c2⟩) | (with_reducible exact CS.out _ x1) | (with_reducible exact CS.out _ x2)) (first
    | (go_at_call 96; (with_reducible refine Calls.mono (ST'.out) ?_); rintro e w1 ⟨rfl, x1, d1⟩)
    | (go_at_call 18; (with_reducible refine Calls.mono (AP.out _ x1 d1) ?_); rintro e w2 ⟨rfl, x2, d2⟩))
  all_goals
    go_wp2_with (fail)
    go_ret
    exact ⟨rfl, x2, d2⟩
set_option maxHeartbeats 4000000 in
theorem act3_any (W : World) (Bb b m nn bl g0 gf gr : Nat) (d : Dk) (file : B) (x : Lw) (row : Array Value) (v : Value) (w : World) (hv : row[0]? = some v) (h : AS W Bb b m bl g0 gf gr file x row w) (hD : DkAt w b m nn d) (hf : file.length ≤ 1000) (hn : nn < maxLen) :
    Calls Tryz.prog 103 #[.pointer (some ⟨g0, 0, none⟩), .pointer (some ⟨gf, 0, none⟩)] w fun e w' => e = .returned (.int .i64 (sync d file).2) ∧ AS W Bb b m bl g0 gf gr file x row w' ∧ DkAt w' b m (nn + 1) (sync d file).1 := by
  have x0 := h.drew
  have D0 : DkAt w.drew b m nn d := hD.keep rfl rfl
  have AP : Hid (Calls Tryz.prog 91 #[.pointer (some ⟨b, 0, none⟩), .string (bs file)] w.drew fun e w' => e = .returned (.int .i64 (sync d file).2) ∧ AS W Bb b m bl g0 gf gr file x row w' ∧ DkAt w' b m (nn + 1) (sync d file).1) := Lib.hid
    ((Dk.psync_any b m nn d (bs file) w.drew D0 (by rw [bs_size]; unfold maxLen; omega) hn).mono (by
      rintro e w' ⟨h1, h2, h3⟩
      exact ⟨h1, x0.dk hv D0 h3, h2⟩))
  obtain ⟨c0, c1, c2⟩ := x0.cells
  have CS := Lib.hid (fun w1 (x1 : AS W Bb b m bl g0 gf gr file x row w1) => x1.cells)
  clear hD h D0 hf
  generalize sync d file = r at *
  go_enter Tryz.func103, Tryz.ntmps103
  go_upto_region 1 with (fail)
  go_region_held3 (fun W => W.cell? ⟨g0, 0, none⟩ = some (.pointer (some ⟨bl, 0, none⟩)) ∧ W.cell? ⟨bl, 0, none⟩ = some (.pointer (some ⟨b, 0, none⟩)) ∧ W.cell? ⟨gf, 0, none⟩ = some (.string (bs file))) (first | (with_reducible exact ⟨c0, c1, c2⟩) | (with_reducible exact CS.out _ x2)) (first
    | (go_at_call 91; (with_reducible refine Calls.mono (AP.out) ?_); rintro e w2 ⟨rfl, x2, d2⟩))
  all_goals
    go_wp2_with (fail)
    go_ret
    exact ⟨rfl, x2, d2⟩
end Go.Proofs.YtmlaolmaopjhbaaGreatDoor.Wl
/- WlActs, what a claim needs of it (prune.py). -/
namespace Go.Proofs.YtmlaolmaopjhbaaGreatDoor.Wl
open Go.RowKit
open Dk (Dk Fd Kp DkS DkAt read find sync append sz)
set_option linter.unusedVariables false
set_option maxRecDepth 100000
def two (d : Dk) (file acc : B) : Dk × Int := if (append d file acc).2 ≠ 0 then append d file acc else sync (append d file acc).1 file
def ActsSay (W : World) (b m nn bl g0 : Nat) (d : Dk) (file acc : B) (x : Lw) (e : Ending) (w' : World) : Prop :=
  e = .returned (.int .i64 (two d file acc).2) ∧ w'.heap[g0]? = some (.cells #[.pointer (some ⟨bl, 0, none⟩)] 64 (0, 0)) ∧ DkAt w' b m (nn + 2) (two d file acc).1 ∧ LogAt w' bl b { x with dead := ((two d file acc).2 == 40) } ∧ Kp (fun k => k = b ∨ k = m ∨ k = bl) W w'
theorem log_dead {W w : World} {Bb b m nn bl g0 gf gr : Nat} {file : B} {x : Lw} {row : Array Value} {d : Dk} (h : AS W Bb b m bl g0 gf gr file x row w) (hD : DkAt w b m nn d) (v : Bool) : (w.setCell ⟨bl, 4, none⟩ (.bool v)).heap[g0]? = some (.cells #[.pointer (some ⟨bl, 0, none⟩)] 64 (0, 0)) ∧ DkAt (w.setCell ⟨bl, 4, none⟩ (.bool v)) b m nn d ∧ LogAt (w.setCell ⟨bl, 4, none⟩ (.bool v)) bl b { x with dead := v } ∧ Kp (fun k => k = b ∨ k = m ∨ k = bl) W (w.setCell ⟨bl, 4, none⟩ (.bool v)) := by
  have hne := h.log.ne hD
  have hg : bl ≠ g0 := fun e => by
    have h1 := h.log.st
    rw [e, h.g0] at h1
    injection h1 with h1
    injection h1 with _ h1 _
    exact absurd h1 (by decide)
  exact ⟨(heap_set_ne hg).trans h.g0, hD.keep (heap_set_ne hne.1) (heap_set_ne hne.2), ⟨(heap_set h.log.st).trans rfl⟩, h.fr.setCell (.inr (.inr rfl)) _⟩
set_option maxHeartbeats 4000000 in
theorem acts_any (W : World) (Bb b m nn bl g0 gf gr gb : Nat) (d : Dk) (file acc : B) (x : Lw) (row : Array Value) (w : World) (hrow : row = #[.func (.func 102) #[] #[.pointer (some ⟨g0, 0, none⟩), .pointer (some ⟨gf, 0, none⟩), .pointer (some ⟨gb, 0, none⟩)], .func (.func 103) #[] #[.pointer (some ⟨g0, 0, none⟩), .pointer (some ⟨gf, 0, none⟩)]]) (hB : W.heap.size ≤ Bb) (hb : b < W.heap.size) (hm : m < W.heap.size) (h : AS W Bb b m bl g0 gf gr file x row w) (hS : SbAt Bb gb acc w) (hD : DkAt w b m nn d) (ha : acc ≠ []) (hl : acc.length ≤ 16777216) (hf : file.length ≤ 1000) (hn : nn + 1 < maxLen) (hx : x.dead = false) :
    Calls Tryz.prog 88 #[.pointer (some ⟨bl, 0, none⟩), .slice (some ⟨gr, 0, none⟩) 2 2] w (ActsSay W b m nn bl g0 d file acc x) := by
  have e2f := enters_of Tryz.func102 (by kernel_rfl) rfl
  have e3f := enters_of Tryz.func103 (by kernel_rfl) rfl
  have hv0 : row[0]? = some (.func (.func 102) #[] #[.pointer (some ⟨g0, 0, none⟩), .pointer (some ⟨gf, 0, none⟩), .pointer (some ⟨gb, 0, none⟩)]) := by rw [hrow]; rfl
  have hv1 : row[1]? = some (.func (.func 103) #[] #[.pointer (some ⟨g0, 0, none⟩), .pointer (some ⟨gf, 0, none⟩)]) := by rw [hrow]; rfl
  obtain ⟨e1, he1⟩ : ∃ e1, e1 = (append d file acc).2 := ⟨_, rfl⟩
  obtain ⟨d1, hd1⟩ : ∃ d1, d1 = (append d file acc).1 := ⟨_, rfl⟩
  obtain ⟨e2, he2⟩ : ∃ e2, e2 = (sync d1 file).2 := ⟨_, rfl⟩
  obtain ⟨d2, hd2⟩ : ∃ d2, d2 = (sync d1 file).1 := ⟨_, rfl⟩
  have C2 : Hid (Calls Tryz.prog 102 #[.pointer (some ⟨g0, 0, none⟩), .pointer (some ⟨gf, 0, none⟩), .pointer (some ⟨gb, 0, none⟩)] w fun e w' => e = .returned (.int .i64 e1) ∧ AS W Bb b m bl g0 gf gr file x row w' ∧ DkAt w' b m (nn + 1) d1) := Lib.hid (by rw [he1, hd1]; exact act2_any W Bb b m nn bl g0 gf gr gb d file acc x row _ w hv0 hB hb hm h hS hD ha hl hf (by omega))
  have C3 : Hid (∀ w1, AS W Bb b m bl g0 gf gr file x row w1 → DkAt w1 b m (nn + 1) d1 → Calls Tryz.prog 103 #[.pointer (some ⟨g0, 0, none⟩), .pointer (some ⟨gf, 0, none⟩)] w1 fun e w' => e = .returned (.int .i64 e2) ∧ AS W Bb b m bl g0 gf gr file x row w' ∧ DkAt w' b m (nn + 2) d2) := Lib.hid fun w1 h1 hD1 => by rw [he2, hd2]; exact act3_any W Bb b m (nn + 1) bl g0 gf gr d1 file x row _ w1 hv0 h1 hD1 hf hn
  have TW : Hid (two d file acc = if e1 ≠ 0 then (d1, e1) else (d2, e2)) := Lib.hid (by rw [he1, hd2, he2, hd1]; rfl)
  have R0 : Hid (∀ w1, AS W Bb b m bl g0 gf gr file x row w1 → w1.cell? ⟨gr, 0, none⟩ = some (.func (.func 102) #[] #[.pointer (some ⟨g0, 0, none⟩), .pointer (some ⟨gf, 0, none⟩), .pointer (some ⟨gb, 0, none⟩)])) := Lib.hid fun w1 h1 => (cell_heap h1.gr 0).trans hv0
  have R1 : Hid (∀ w1, AS W Bb b m bl g0 gf gr file x row w1 → w1.cell? ⟨gr, 1, none⟩ = some (.func (.func 103) #[] #[.pointer (some ⟨g0, 0, none⟩), .pointer (some ⟨gf, 0, none⟩)])) := Lib.hid fun w1 h1 => (cell_heap h1.gr 1).trans hv1
  have L4 : Hid (∀ w1, AS W Bb b m bl g0 gf gr file x row w1 → w1.cell? ⟨bl, 4, none⟩ = some (.bool x.dead) ∧ w1.frozen? ⟨bl, 4, none⟩ = false) := Lib.hid fun w1 h1 => ⟨(cell_heap h1.log.st 4).trans rfl, frozen_heap h1.log.st 4⟩
  have HA := Lib.hid h
  have HX := Lib.hid hx
  clear he1 hd1 he2 hd2 hrow hv0 hv1 hS hD h hx ha hl hf
  go_enter Tryz.func88, Tryz.ntmps88
  go_wp2_with (fail)
  go_loopw [10] (fun i wx => ∃ k : Nat, i = .int .i64 k ∧ Hid ((k = 0 ∧ wx = w) ∨ (k = 1 ∧ e1 = 0 ∧ AS W Bb b m bl g0 gf gr file x row wx ∧ DkAt wx b m (nn + 1) d1) ∨ (k = 2 ∧ e1 = 0 ∧ e2 = 0 ∧ AS W Bb b m bl g0 gf gr file x row wx ∧ DkAt wx b m (nn + 2) d2))) (fun i _ => 2 - (intOf i).toNat)
  case atStart => exact ⟨0, rfl, Lib.hid (.inl ⟨rfl, rfl⟩)⟩
  case round =>
    obtain ⟨k, rfl, hrel⟩ := hrel
    rename World => wx
    rcases hrel.out with ⟨rfl, rfl⟩ | ⟨rfl, he, h1, hD1⟩ | ⟨rfl, he, hee, h2, hD2⟩
    · have r0 := R0.out _ HA.out
      clear hrel
      by_cases h0 : e1 = 0
      · have E1 := Lib.hid h0
        rw [h0] at C2
        clear h0
        go_wp2_with (go_at_call 102; (with_reducible refine (C2.out).mono ?_); rintro e w1 ⟨rfl, h1, hD1⟩)
        go_roundw
        case rel => exact ⟨1, by go_num, Lib.hid (.inr (.inl ⟨rfl, E1.out, h1, hD1⟩))⟩
        case measure => simp [intOf]
      · have n1 : (e1 != 0) = true := by simpa using h0
        have T : Hid (two d file acc = (d1, e1)) := Lib.hid (by rw [TW.out, if_pos h0])
        clear TW h0 C3
        go_wp2_with (go_at_call 102; (with_reducible refine (C2.out).mono ?_); rintro e w1 ⟨rfl, h1, hD1⟩; obtain ⟨y4, f4⟩ := L4.out _ h1)
        go_ret
        unfold ActsSay
        rw [T.out]
        obtain ⟨q1, q2, q3, q4⟩ := log_dead h1 hD1 (e1 == 40)
        exact ⟨rfl, q1, q2.more (Nat.le_succ _), q3, q4⟩
    · have r1 := R1.out _ h1
      have E1 := Lib.hid he
      have C := Lib.hid (C3.out _ h1 hD1)
      clear hrel C2 C3 he h1 hD1
      by_cases h0 : e2 = 0
      · have E2 := Lib.hid h0
        rw [h0] at C
        clear h0
        go_wp2_with (go_at_call 103; (with_reducible refine (C.out).mono ?_); rintro e w1 ⟨rfl, h1, hD1⟩)
        go_roundw
        case rel => exact ⟨2, by go_num, Lib.hid (.inr (.inr ⟨rfl, E1.out, E2.out, h1, hD1⟩))⟩
        case measure => simp [intOf]
      · have n1 : (e2 != 0) = true := by simpa using h0
        have T : Hid (two d file acc = (d2, e2)) := Lib.hid (by rw [TW.out, if_neg (by simp [E1.out])])
        clear TW h0
        go_wp2_with (go_at_call 103; (with_reducible refine (C.out).mono ?_); rintro e w1 ⟨rfl, h1, hD1⟩; obtain ⟨y4, f4⟩ := L4.out _ h1)
        go_ret
        unfold ActsSay
        rw [T.out]
        obtain ⟨q1, q2, q3, q4⟩ := log_dead h1 hD1 (e2 == 40)
        exact ⟨rfl, q1, q2, q3, q4⟩
    · have T : Hid (two d file acc = (d2, 0)) := Lib.hid (by rw [TW.out, if_neg (by simp [he]), hee])
      have H2 := Lib.hid h2
      have HD2 := Lib.hid hD2
      clear hrel C2 C3 TW he hee h2 hD2
      go_wp2_with (fail)
      go_ret
      unfold ActsSay
      rw [T.out]
      refine ⟨rfl, H2.out.g0, HD2.out, ?_, H2.out.fr⟩
      have hl := H2.out.log
      have : ({ x with dead := ((0 : Int) == 40) } : Lw) = x := by cases x; simp at HX ⊢; exact HX.out
      rw [this]
      exact hl
end Go.Proofs.YtmlaolmaopjhbaaGreatDoor.Wl
/- WlApp, what a claim needs of it (prune.py). -/
namespace Go.Proofs.YtmlaolmaopjhbaaGreatDoor.Wl
open Go.RowKit
open Dk (Dk Fd Kp DkS DkAt read find sync append sz)
set_option linter.unusedVariables false
set_option maxRecDepth 100000
def appL (d : Dk) (x : Lw) (s : B) : Dk × Lw × Int :=
  ((two d (name x.number x.part) (frame s)).1, { x with dead := ((two d (name x.number x.part) (frame s)).2 == 40), many := if (two d (name x.number x.part) (frame s)).2 = 0 then x.many + 1 else x.many }, (two d (name x.number x.part) (frame s)).2)
def AppLSays (W : World) (b m nn bl : Nat) (d : Dk) (x : Lw) (s : B) (e : Ending) (w' : World) : Prop :=
  e = .returned (.int .i64 (appL d x s).2.2) ∧ DkAt w' b m (nn + 2) (appL d x s).1 ∧ LogAt w' bl b (appL d x s).2.1 ∧ Kp (fun k => k = b ∨ k = m ∨ k = bl) W w'
theorem app1_any (s : ByteArray) (h0 : 0 < s.size) (h1 : s.size ≤ 1000000) (W : World) : Calls Tryz.prog 99 #[.string s] W fun e w' => e = .returned (.bool false) ∧ W = w' := by
  have hne := Lg.some_ne (s := s) (by omega)
  have hd : (s.toList == []) = false := by simpa using hne
  have q : ¬ (1000000 : Int) < (s.size : Int) := by omega
  go_enter Tryz.func99, Tryz.ntmps99
  go_wp2_with (fail)
  go_ret
  exact ⟨rfl, rfl⟩
theorem frame_len {s : B} (h : s.length ≤ 1000000) : (frame s).length ≤ 2000000 := by
  unfold frame
  have h1 := short_len s
  have h2 := Pk.dec_len_le 7 (short s).length (by omega)
  have h3 := Pk.dec_len_le 7 s.length (by omega)
  unfold Pk.text
  simp only [List.length_append, List.length_cons, List.length_nil]
  omega
theorem frame_ne (s : B) : frame s ≠ [] := by unfold frame; exact Pk.text_ne _ _
set_option maxHeartbeats 8000000 in
theorem papp_any (b m nn bl : Nat) (d : Dk) (x : Lw) (s : B) (A : Option Addr) (c : Nat) (W : World) (hD : DkAt W b m nn d) (hG : LogAt W bl b x) (hx : x.dead = false) (h0 : 0 < s.length) (h1 : s.length ≤ 1000000) (hr : Lg.Strs W A [bs s]) (ht : Tab W) (hn : nn + 1 < maxLen) (hnu : x.number ≤ 1000000) (hpa : x.part ≤ 1000000) (hma : x.many ≤ 1000000000) :
    Calls Tryz.prog 35 #[.pointer (some ⟨bl, 0, none⟩), .slice A 1 c] W (AppLSays W b m nn bl d x s) := by
  obtain ⟨W0, eW⟩ : ∃ W0, W0 = W.alloc (.cells #[.pointer (some ⟨bl, 0, none⟩)] 64) := ⟨_, rfl⟩
  have B0 : Below W.heap.size W W0 := by rw [eW]; exact (Below.refl _ _).alloc (Nat.le_refl _) _
  have g0 : W0.heap[W.heap.size]? = some (.cells #[.pointer (some ⟨bl, 0, none⟩)] 64 (0, 0)) := by rw [eW]; exact heap_alloc_new _ _
  have hlt0 := Lg.lt_heap g0
  have hs0 := bs_size s
  have hG0 := hG.below B0
  have hD0 := hD.below B0
  have hb := Lg.lt_heap hD.st
  have hm := hD.map.lt
  have hbl := hG.lt
  have LV : Hid (Calls Tryz.prog 84 #[.pointer (some ⟨bl, 0, none⟩)] W0 fun e w' => e = .returned (.int .i64 0) ∧ W0 = w') := Lib.hid (by have := lives_any W0 bl b x hG0; rw [hx] at this; exact this)
  have CF : Hid (Calls Tryz.prog 98 #[.slice A 1 c, .func (.func 99) #[] #[]] W0 fun e w' => e = .returned (.bool false) ∧ W0 = w') := Lib.hid (by
    have := Dk.containsT_any 99 #[] (enters_of Tryz.func99 (by kernel_rfl) rfl) (fun _ => false) A [bs s] c W0 (hr.below B0) (by simp) (fun s' hs' W' => by
      rw [List.mem_singleton.1 hs']
      exact app1_any (bs s) (by omega) (by omega) W')
    simpa using this)
  have FR : Hid (∀ W', Below W0.heap.size W0 W' → Calls Tryz.prog 85 #[.string (bs s)] W' fun e w' => e = .returned (.string (bs (frame s))) ∧ Below W'.heap.size W' w') := Lib.hid fun W' hW => frame_any (bs s) (by omega) W' ((ht.on B0).on hW)
  have NM : Hid (∀ W', Below W0.heap.size W0 W' → Calls Tryz.prog 101 #[.int .i64 (x.number : Int), .int .i64 (x.part : Int)] W' fun e w' => e = .returned (.string (bs (name x.number x.part))) ∧ Below W'.heap.size W' w') := Lib.hid fun W' hW => name_any x.number x.part (by omega) (by omega) W' ((ht.on B0).on hW)
  have CL : Hid (∀ W', Below W0.heap.size W0 W' → W'.cell? ⟨W.heap.size, 0, none⟩ = some (.pointer (some ⟨bl, 0, none⟩)) ∧ W'.cell? ⟨bl, 1, none⟩ = some (.int .i64 (x.number : Int)) ∧ W'.cell? ⟨bl, 2, none⟩ = some (.int .i64 (x.part : Int))) := Lib.hid fun W' hW => ⟨(cell_heap ((hW.block _ hlt0).trans g0) 0).trans rfl, (cell_heap (hG0.below hW).st 1).trans rfl, (cell_heap (hG0.below hW).st 2).trans rfl⟩
  have HR : Hid (∀ W', Below W0.heap.size W0 W' → Lg.Strs W' A [bs s]) := Lib.hid fun W' hW => (hr.below B0).below hW
  have hfl := frame_len h1
  have hnl : (name x.number x.part).length ≤ 1000 := by
    have h2 := Pk.dec_len_le 8 x.number (by omega)
    have h3 := Pk.dec_len_le 8 x.part (by omega)
    unfold name
    simp only [List.length_append, List.length_cons, List.length_nil]
    omega
  have AC : Hid (∀ gf wc, wc.heap[gf]? = some (.cells #[.string (bs (name x.number x.part))] 9 (0, 0)) → SbAt W0.heap.size W0.heap.size (frame s) wc → Below W0.heap.size W0 wc → Calls Tryz.prog 88 #[.pointer (some ⟨bl, 0, none⟩), .slice (some ⟨wc.heap.size, 0, none⟩) 2 2] (wc.alloc (.cells #[.func (.func 102) #[] #[.pointer (some ⟨W.heap.size, 0, none⟩), .pointer (some ⟨gf, 0, none⟩), .pointer (some ⟨W0.heap.size, 0, none⟩)], .func (.func 103) #[] #[.pointer (some ⟨W.heap.size, 0, none⟩), .pointer (some ⟨gf, 0, none⟩)]] 99)) fun e w' => e = .returned (.int .i64 (two d (name x.number x.part) (frame s)).2) ∧ w'.heap[W.heap.size]? = some (.cells #[.pointer (some ⟨bl, 0, none⟩)] 64 (0, 0)) ∧ DkAt w' b m (nn + 2) (two d (name x.number x.part) (frame s)).1 ∧ LogAt w' bl b { x with dead := ((two d (name x.number x.part) (frame s)).2 == 40) } ∧ Kp (fun k => k = b ∨ k = m ∨ k = bl) W w') := Lib.hid fun gf wc hgf hsb hbx => by
    have ha : Below wc.heap.size wc (wc.alloc (.cells #[.func (.func 102) #[] #[.pointer (some ⟨W.heap.size, 0, none⟩), .pointer (some ⟨gf, 0, none⟩), .pointer (some ⟨W0.heap.size, 0, none⟩)], .func (.func 103) #[] #[.pointer (some ⟨W.heap.size, 0, none⟩), .pointer (some ⟨gf, 0, none⟩)]] 99)) := (Below.refl _ _).alloc (Nat.le_refl _) _
    have hbx2 := hbx.trans (ha.mono hbx.size)
    exact acts_any W W0.heap.size b m nn bl W.heap.size gf wc.heap.size W0.heap.size d (name x.number x.part) (frame s) x _ _ rfl B0.size hb hm ⟨(hbx2.block _ hlt0).trans g0, hG0.below hbx2, (ha.block _ (Lg.lt_heap hgf)).trans hgf, heap_alloc_new _ _, (Kp.of_below B0).trans (Kp.of_below hbx2)⟩ (hsb.later ha) (hD0.below hbx2) (frame_ne s) (by omega) hnl hn hx
  have AL : Hid (appL d x s = ((two d (name x.number x.part) (frame s)).1, { x with dead := ((two d (name x.number x.part) (frame s)).2 == 40), many := if (two d (name x.number x.part) (frame s)).2 = 0 then x.many + 1 else x.many }, (two d (name x.number x.part) (frame s)).2)) := Lib.hid rfl
  have HM := Lib.hid hma
  have HSZ : Hid ((frame s).length ≤ 2000000) := Lib.hid hfl
  clear hD hG hD0 hG0 ht g0 hx h0 h1 hs0 hr hnu hpa hma hfl hnl hb hm hbl hlt0 B0
  generalize two d (name x.number x.part) (frame s) = tw at *
  generalize name x.number x.part = file at *
  generalize frame s = fr at *
  go_enter Tryz.func35, Tryz.ntmps35
  go_upto_region 1 with (fail)
  rw [← eW]
  clear eW
  obtain ⟨c0, c1, c2⟩ := CL.out _ (Below.refl _ _)
  go_wp2_with (first
    | (go_at_call 84; (with_reducible refine (LV.out).mono ?_); rintro e w' ⟨rfl, rfl⟩)
    | (go_at_call 98; (with_reducible refine (CF.out).mono ?_); rintro e w' ⟨rfl, rfl⟩))
  clear c0 c1 c2
  go_loopw [23] (fun i wx => ∃ k : Nat, i = .int .i64 k ∧ k ≤ 1 ∧ SbAt W0.heap.size W0.heap.size (if k = 0 then [] else fr) wx ∧ Below W0.heap.size W0 wx) (fun i _ => 1 - (intOf i).toNat)
  case atStart => exact ⟨0, rfl, by omega, Lib.fresh_isBuilder _ _ W0, (Below.refl _ _).alloc (Nat.le_refl _) _⟩
  case round =>
    obtain ⟨k, rfl, hk, hsb, hbx⟩ := hrel
    rename World => wx
    by_cases hk0 : k = 0
    · subst hk0
      have hsb' : SbAt W0.heap.size W0.heap.size [] wx := hsb
      have hrx := HR.out _ hbx
      obtain ⟨ad, rfl, had, hc⟩ := hrx.2 (by simp)
      have hc0 : wx.cell? ad = some (.string (bs s)) := hc 0 _ rfl
      have F1 := Lib.hid (FR.out _ hbx)
      have zz : ([] : List UInt8).length + (bs fr).size ≤ 140737488355328 := by rw [bs_size]; have := HSZ.out; simp; omega
      have ZZ := Lib.hid zz
      have HX := Lib.hid hbx
      have HSB := Lib.hid hsb'
      clear hc hsb hsb' zz hrx
      go_wp2_with (first
        | (go_at_call 85; (with_reducible refine (F1.out).mono ?_); rintro e w1 ⟨rfl, hb1⟩; have hsb1 := HSB.out.later hb1; have hbx1 := HX.out.trans (hb1.mono HX.out.size); have hz1 := hbx1.size)
        | (go_at_call 100; (with_reducible refine (WriteString_any W0.heap.size W0.heap.size [] _ _ hsb1 ZZ.out hz1).mono ?_); rintro e w2 ⟨rfl, hsb2, hb2⟩))
      go_roundw
      case rel => exact ⟨1, by go_num, Nat.le_refl _, hsb2, hbx1.trans hb2⟩
      case measure => simp [intOf]
    · obtain rfl : k = 1 := by omega
      have hsb' : SbAt W0.heap.size W0.heap.size fr wx := hsb
      have HX := Lib.hid hbx
      have HSB := Lib.hid hsb'
      have HXD := Lib.hid hbx.drew
      obtain ⟨c0, c1, c2⟩ := CL.out _ HXD.out
      clear hsb hsb' hbx hk0 hk FR LV CF HR
      go_upto_region 14 with (fail)
      go_cut [9] from 31 to 40 (fun v9 wc => ∃ gf, v9 = .pointer (some ⟨gf, 0, none⟩) ∧ wc.heap[gf]? = some (.cells #[.string (bs file)] 9 (0, 0)) ∧ SbAt W0.heap.size W0.heap.size fr wc ∧ Below W0.heap.size W0 wc)
      case first =>
        have hxz := HX.out.size
        go_region_held3 (fun W' => W'.cell? ⟨W.heap.size, 0, none⟩ = some (.pointer (some ⟨bl, 0, none⟩)) ∧ W'.cell? ⟨bl, 1, none⟩ = some (.int .i64 (x.number : Int)) ∧ W'.cell? ⟨bl, 2, none⟩ = some (.int .i64 (x.part : Int))) (first | (with_reducible exact CL.out _ HXD.out) | (with_reducible exact CL.out _ (HX.out.alloc HX.out.size _).drew) | (with_reducible exact CL.out _ hx1) | (with_reducible exact CL.out _ (hx1.alloc hx1.size _)) | (with_reducible exact CL.out _ ((hx1.alloc hx1.size _).setCell hx1.size _)) | (with_reducible exact CL.out _ (Below.setCell hx1 hxz _))) (first
          | (go_at_call 101; (with_reducible refine Calls.mono (NM.out _ ?_) ?_); (focus (first | exact HXD.out | exact (HX.out.alloc HX.out.size _).drew)); rintro e w1 ⟨rfl, hb1⟩; first | ((have hx1 := HXD.out.trans (hb1.mono HXD.out.size)); have hy1 : Below wx.heap.size wx w1 := ((Below.refl _ _).drew).trans hb1) | ((have hx1 := ((HX.out.alloc HX.out.size (.cells #[.string ⟨#[]⟩] 9)).drew).trans (hb1.mono ((HX.out.alloc HX.out.size _).drew).size)); (have hy1 : Below wx.heap.size wx w1 := (((Below.refl wx.heap.size wx).alloc (Nat.le_refl _) (.cells #[.string ⟨#[]⟩] 9)).drew).trans (hb1.mono (by simp))); (have hz1 : w1.heap[wx.heap.size]? = some (.cells #[.string ⟨#[]⟩] 9 (0, 0)) := (hb1.block _ (by simp)).trans (heap_alloc_new wx _)); (have hc1 : w1.cell? ⟨wx.heap.size, 0, none⟩ = some (.string ⟨#[]⟩) := (cell_heap hz1 0).trans rfl); (have hf1 : w1.frozen? ⟨wx.heap.size, 0, none⟩ = false := frozen_heap hz1 0); (have HZ1 := Lib.hid hz1); clear hz1)))
        all_goals
          (try go_wp2_with (fail))
          go_meet
          first
            | exact ⟨w1.heap.size, rfl, heap_alloc_new _ _, HSB.out.later (hy1.alloc hy1.size _), hx1.alloc hx1.size _⟩
            | exact ⟨wx.heap.size, rfl, (heap_set HZ1.out).trans rfl, HSB.out.later (hy1.setCell (Nat.le_refl _) _), hx1.setCell hxz _⟩
      case rest =>
        obtain ⟨gf, rfl, hgf, hsb, hbc⟩ := hcut
        obtain ⟨c0, c1, c2⟩ := CL.out _ hbc
        have C := Lib.hid (AC.out gf wc hgf hsb hbc)
        clear AC CL NM HX HSB HXD hgf hsb hbc
        by_cases h2 : tw.2 = 0
        · have T : Hid (appL d x s = (tw.1, { x with dead := ((0 : Int) == 40), many := x.many + 1 }, 0)) := Lib.hid (by rw [AL.out, if_pos h2, h2])
          rw [h2] at C
          clear AL h2
          have hm1 : IntKind.i64.wrap ((x.many : Int) + 1) = ((x.many + 1 : Nat) : Int) := by have := HM.out; rw [IntWalk.i64_in _ (by omega)]; rfl
          have FN : Hid (∀ w3, LogAt w3 bl b { x with dead := ((0 : Int) == 40) } → DkAt w3 b m (nn + 2) tw.1 → Kp (fun k => k = b ∨ k = m ∨ k = bl) W w3 → w3.cell? ⟨bl, 3, none⟩ = some (.int .i64 (x.many : Int)) ∧ w3.frozen? ⟨bl, 3, none⟩ = false ∧ AppLSays W b m nn bl d x s (.returned (.int .i64 0)) (w3.setCell ⟨bl, 3, none⟩ (.int .i64 ((x.many + 1 : Nat) : Int)))) := Lib.hid fun w3 q3 q2 q4 => by
            refine ⟨(cell_heap q3.st 3).trans rfl, frozen_heap q3.st 3, ?_⟩
            unfold AppLSays
            rw [T.out]
            have hne := q3.ne q2
            exact ⟨rfl, q2.keep (heap_set_ne hne.1) (heap_set_ne hne.2), ⟨(heap_set q3.st).trans rfl⟩, q4.setCell (.inr (.inr rfl)) _⟩
          clear T HM
          generalize AppLSays W b m nn bl d x s = Q at *
          go_wp2_with (go_at_call 88; (with_reducible refine (C.out).mono ?_); rintro e w3 ⟨rfl, q1, q2, q3, q4⟩; (have y0 : w3.cell? ⟨W.heap.size, 0, none⟩ = some (.pointer (some ⟨bl, 0, none⟩)) := (cell_heap q1 0).trans rfl); obtain ⟨y3, f3, hQ⟩ := FN.out _ q3 q2 q4; have HQ := Lib.hid hQ; clear hQ q1 q2 q3 q4)
          exact HQ.out
        · have T : Hid (appL d x s = (tw.1, { x with dead := (tw.2 == 40), many := x.many }, tw.2)) := Lib.hid (by rw [AL.out, if_neg h2])
          have n1 : (tw.2 == 0) = false := by simpa using h2
          clear AL h2
          generalize tw.2 = e2 at *
          go_wp2_with (go_at_call 88; (with_reducible refine (C.out).mono ?_); rintro e w3 ⟨rfl, q1, q2, q3, q4⟩)
          go_ret
          unfold AppLSays
          rw [T.out]
          exact ⟨rfl, q2, q3, q4⟩
end Go.Proofs.YtmlaolmaopjhbaaGreatDoor.Wl
