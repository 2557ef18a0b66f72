/- Joined by mkmerged.py: SvSrv, SvOpenS, SvReport, SvRunS, SvCheck. -/
import Derived.Test.YtifiipmmgnmciaaGreatDoorMi30
import Derived.Test.YtifiipmmgnmciaaGreatDoorMi31
import Derived.StillTailTactics
import Derived.Test.YtifiipmmgnmciaaGreatDoorMi18
import Derived.Deep.RegionHeld3
import Derived.Test.YtifiipmmgnmciaaGreatDoorMi29
import Derived.Test.YtifiipmmgnmciaaGreatDoorMi03
/- SvSrv, what a claim needs of it (prune.py). -/
namespace Go.Proofs.YtifiipmmgnmciaaGreatDoor.Sv
open Go.RowKit Go.Maps
open Dk (Kp)
set_option linter.unusedVariables false
set_option maxRecDepth 100000
def SB (W : World) (bs bo sc cb mk : Nat) (clock : Int) : Prop := W.heap[bs]? = some (.cells #[.pointer (some ⟨bo, 0, none⟩), .pointer (some ⟨sc, 0, none⟩), .pointer (some ⟨cb, 0, none⟩), .map (some mk), .int .i64 50, .int .i64 clock] 56 (0, 0))
theorem SB.keep {W W' : World} {bs bo sc cb mk : Nat} {clock : Int} (h : SB W bs bo sc cb mk clock) (hb : W'.heap[bs]? = W.heap[bs]?) : SB W' bs bo sc cb mk clock := hb.trans h
theorem SB.lt {W : World} {bs bo sc cb mk : Nat} {clock : Int} (h : SB W bs bo sc cb mk clock) : bs < W.heap.size := Lg.lt_heap h
theorem SB.below {W W' : World} {bs bo sc cb mk : Nat} {clock : Int} (h : SB W bs bo sc cb mk clock) (hb : Below W.heap.size W W') : SB W' bs bo sc cb mk clock := h.keep (hb.block _ h.lt)
abbrev opC (n : ByteArray) (Ag : Option Addr) (lg cg : Nat) (Af : Option Addr) (lf cf : Nat) (go : ByteArray) (st er : Int) (at_ tx : ByteArray) (Ar : Option Addr) (lr cr : Nat) : Array Value :=
  #[.string n, .slice Ag lg cg, .slice Af lf cf, .string go, .int .i64 st, .int .i64 er, .string at_, .string tx, .slice Ar lr cr]
abbrev evC (k : Int) (n : ByteArray) (Ag : Option Addr) (lg cg : Nat) (Af : Option Addr) (lf cf : Nat) (go : ByteArray) (st er : Int) (at_ tx : ByteArray) (Ar : Option Addr) (lr cr : Nat) : Array Value :=
  #[.int .i64 k, .string n, .slice Ag lg cg, .slice Af lf cf, .string go, .int .i64 st, .int .i64 er, .string at_, .string tx, .slice Ar lr cr]
theorem sdo_any (R : World → World → Prop) (W : World) (bs bo sc cb mk : Nat) (clock k : Int) (n : ByteArray) (Ag : Option Addr) (lg cg : Nat) (Af : Option Addr) (lf cf : Nat) (go : ByteArray) (st er : Int) (at_ tx : ByteArray) (Ar : Option Addr) (lr cr : Nat) (h : SB W bs bo sc cb mk clock)
    (D : ∀ V, Below W.heap.size W V → Calls Tryz.prog 32 #[.pointer (some ⟨bo, 0, none⟩), .agg (evC k n Ag lg cg Af lf cf go st er at_ tx Ar lr cr)] V fun e w' => e = .returned (.int .i64 0) ∧ R V w') :
    Calls Tryz.prog 17 #[.pointer (some ⟨bs, 0, none⟩), .int .i64 k, .agg (opC n Ag lg cg Af lf cf go st er at_ tx Ar lr cr)] W fun e w' => e = .returned (.int .i64 0) ∧ ∃ V, Below W.heap.size W V ∧ R V w' := by
  obtain ⟨W0, e0⟩ : ∃ W0, W0 = W.alloc (.cells (opC n Ag lg cg Af lf cf go st er at_ tx Ar lr cr) 29) := ⟨_, rfl⟩
  have B0 : Below W.heap.size W W0 := by rw [e0]; exact (Below.refl _ _).alloc (Nat.le_refl _) _
  have z0 : W0.heap[W.heap.size]? = some (.cells (opC n Ag lg cg Af lf cf go st er at_ tx Ar lr cr) 29 (0, 0)) := by rw [e0]; exact heap_alloc_new _ _
  have c0 : W0.cell? ⟨bs, 0, none⟩ = some (.pointer (some ⟨bo, 0, none⟩)) := (cell_heap (h.below B0) 0).trans rfl
  have x0 : W0.cell? ⟨W.heap.size, 0, none⟩ = some (.string n) := (cell_heap z0 0).trans rfl
  have x1 : W0.cell? ⟨W.heap.size, 1, none⟩ = some (.slice Ag lg cg) := (cell_heap z0 1).trans rfl
  have x2 : W0.cell? ⟨W.heap.size, 2, none⟩ = some (.slice Af lf cf) := (cell_heap z0 2).trans rfl
  have x3 : W0.cell? ⟨W.heap.size, 3, none⟩ = some (.string go) := (cell_heap z0 3).trans rfl
  have x4 : W0.cell? ⟨W.heap.size, 4, none⟩ = some (.int .i64 st) := (cell_heap z0 4).trans rfl
  have x5 : W0.cell? ⟨W.heap.size, 5, none⟩ = some (.int .i64 er) := (cell_heap z0 5).trans rfl
  have x6 : W0.cell? ⟨W.heap.size, 6, none⟩ = some (.string at_) := (cell_heap z0 6).trans rfl
  have x7 : W0.cell? ⟨W.heap.size, 7, none⟩ = some (.string tx) := (cell_heap z0 7).trans rfl
  have x8 : W0.cell? ⟨W.heap.size, 8, none⟩ = some (.slice Ar lr cr) := (cell_heap z0 8).trans rfl
  have DD := Lib.hid (D W0.drew B0.drew)
  have FN : Hid (∀ w', R W0.drew w' → ∃ V, Below W.heap.size W V ∧ R V w') := Lib.hid fun w' hr => ⟨_, B0.drew, hr⟩
  clear h B0 z0 D
  go_enter Tryz.func17, Tryz.ntmps17
  go_upto_region 3 with (fail)
  rw [← e0]
  clear e0
  go_region_with (go_at_call 32; (with_reducible refine (DD.out).mono ?_); rintro e w' ⟨rfl, hR⟩; have HR := Lib.hid hR; clear hR)
  all_goals
    (try simp only [Exit.then])
    go_wp2_with (fail)
    go_ret
    exact ⟨rfl, FN.out _ HR.out⟩
theorem ssubmit_any (R : World → World → Prop) (W : World) (bs bo sc cb mk : Nat) (clock : Int) (n : ByteArray) (Ag : Option Addr) (lg cg : Nat) (Af : Option Addr) (lf cf : Nat) (go : ByteArray) (st er : Int) (at_ tx : ByteArray) (Ar : Option Addr) (lr cr : Nat) (h : SB W bs bo sc cb mk clock)
    (D : ∀ V, Below W.heap.size W V → Calls Tryz.prog 32 #[.pointer (some ⟨bo, 0, none⟩), .agg (evC 1 n Ag lg cg Af lf cf go st er at_ tx Ar lr cr)] V fun e w' => e = .returned (.int .i64 0) ∧ R V w') :
    Calls Tryz.prog 6 #[.pointer (some ⟨bs, 0, none⟩), .agg (opC n Ag lg cg Af lf cf go st er at_ tx Ar lr cr)] W fun e w' => e = .returned (.int .i64 0) ∧ ∃ V, Below W.heap.size W V ∧ R V w' := by
  obtain ⟨W0, e0⟩ : ∃ W0, W0 = W.alloc (.cells (opC n Ag lg cg Af lf cf go st er at_ tx Ar lr cr) 29) := ⟨_, rfl⟩
  have B0 : Below W.heap.size W W0 := by rw [e0]; exact (Below.refl _ _).alloc (Nat.le_refl _) _
  have z0 : W0.heap[W.heap.size]? = some (.cells (opC n Ag lg cg Af lf cf go st er at_ tx Ar lr cr) 29 (0, 0)) := by rw [e0]; exact heap_alloc_new _ _
  have x0 : W0.cell? ⟨W.heap.size, 0, none⟩ = some (.string n) := (cell_heap z0 0).trans rfl
  have x1 : W0.cell? ⟨W.heap.size, 1, none⟩ = some (.slice Ag lg cg) := (cell_heap z0 1).trans rfl
  have x2 : W0.cell? ⟨W.heap.size, 2, none⟩ = some (.slice Af lf cf) := (cell_heap z0 2).trans rfl
  have x3 : W0.cell? ⟨W.heap.size, 3, none⟩ = some (.string go) := (cell_heap z0 3).trans rfl
  have x4 : W0.cell? ⟨W.heap.size, 4, none⟩ = some (.int .i64 st) := (cell_heap z0 4).trans rfl
  have x5 : W0.cell? ⟨W.heap.size, 5, none⟩ = some (.int .i64 er) := (cell_heap z0 5).trans rfl
  have x6 : W0.cell? ⟨W.heap.size, 6, none⟩ = some (.string at_) := (cell_heap z0 6).trans rfl
  have x7 : W0.cell? ⟨W.heap.size, 7, none⟩ = some (.string tx) := (cell_heap z0 7).trans rfl
  have x8 : W0.cell? ⟨W.heap.size, 8, none⟩ = some (.slice Ar lr cr) := (cell_heap z0 8).trans rfl
  have DD := Lib.hid ((sdo_any R W0 bs bo sc cb mk clock 1 n Ag lg cg Af lf cf go st er at_ tx Ar lr cr (h.below B0) (fun V hV => D V (B0.trans (hV.mono B0.size)))).mono (R' := fun e w' => e = .returned (.int .i64 0) ∧ ∃ V, Below W.heap.size W V ∧ R V w') (fun e w' hh => by
    obtain ⟨h1, V, h2, h3⟩ := hh
    exact ⟨h1, V, B0.trans (h2.mono B0.size), h3⟩))
  clear h B0 z0 D
  go_enter Tryz.func6, Tryz.ntmps6
  go_upto_region 1 with (fail)
  rw [← e0]
  clear e0
  go_wp2_with (go_at_call 17; (with_reducible refine (DD.out).mono ?_); rintro e w' ⟨rfl, hR⟩)
  go_ret
  exact ⟨rfl, hR⟩
theorem sjoinS_any (R : World → Prop) (W : World) (bs bo sc cb mk : Nat) (clock : Int) (wk : ByteArray) (h : SB W bs bo sc cb mk clock) (J : Calls Tryz.prog 18 #[.pointer (some ⟨sc, 0, none⟩), .string wk] W fun e w' => e = .returned (.int .i64 0) ∧ R w') :
    Calls Tryz.prog 9 #[.pointer (some ⟨bs, 0, none⟩), .string wk] W fun e w' => e = .returned (.int .i64 0) ∧ R w' := by
  have c1 : W.cell? ⟨bs, 1, none⟩ = some (.pointer (some ⟨sc, 0, none⟩)) := (cell_heap h 1).trans rfl
  have JJ := Lib.hid J
  clear h J
  go_enter Tryz.func9, Tryz.ntmps9
  go_wp2_with (go_at_call 18; (with_reducible refine (JJ.out).mono ?_); rintro e w' ⟨rfl, hR⟩)
  go_ret
  exact ⟨rfl, hR⟩
end Go.Proofs.YtifiipmmgnmciaaGreatDoor.Sv
/- SvOpenS, what a claim needs of it (prune.py). -/
namespace Go.Proofs.YtifiipmmgnmciaaGreatDoor.Sv
open Go.RowKit Go.Maps
open Dk (Kp)
set_option linter.unusedVariables false
set_option maxRecDepth 100000
structure Fresh (w1 : World) (bo : Nat) (w' : World) : Prop where
  below : Below w1.heap.size w1 w'
  size : w'.heap.size = w1.heap.size + 10
  sc : ScAt w' (sbN w1.heap.size) 0 0 NoM NoM NoM
  q : QB w' w1.heap.size 0 none 0 0
  cm : Mv.VMap w' (w1.heap.size + 6) 0 NoM
  cb : CB w' (w1.heap.size + 7) (w1.heap.size + 6) 0
  tm : Mv.VMap w' (w1.heap.size + 8) 0 NoM
  sb : SB w' (w1.heap.size + 9) bo (w1.heap.size + 5) (w1.heap.size + 7) (w1.heap.size + 8) 0
def OpenSays (R : Nat → World → Prop) (e : Ending) (w' : World) : Prop := ∃ bo w1, R bo w1 ∧ e = .returned (.tuple #[.pointer (some ⟨w1.heap.size + 9, 0, none⟩), .int .i64 0]) ∧ Fresh w1 bo w'
set_option maxHeartbeats 1000000 in
theorem sopen_any (R : Nat → World → Prop) (W : World) (b : Nat) (hO : Calls Tryz.prog 45 #[.pointer (some ⟨b, 0, none⟩)] W fun e w' => ∃ bo, e = .returned (.tuple #[.pointer (some ⟨bo, 0, none⟩), .int .i64 0]) ∧ R bo w') :
    Calls Tryz.prog 25 #[.pointer (some ⟨b, 0, none⟩), .int .i64 50] W (OpenSays R) := by
  have b50a : ¬ (50 : Int) < 1 := by omega
  have b50b : ¬ (2000 : Int) < 50 := by omega
  have OO := Lib.hid hO
  have SN := Lib.hid snew_any
  have CN := Lib.hid cnew_any
  have hmm := @run_makeMap Tryz.prog
  have FN : Hid (∀ bo w1 w2 w5, R bo w1 → SNewSays w1 (.returned (.tuple #[.pointer (some ⟨w1.heap.size + 5, 0, none⟩), .int .i64 0])) w2 → w5 = ((((w2.alloc (.map #[] 0)).alloc (.cells #[.int .i64 1000, .int .i64 0, .map (some w2.heap.size)] 106)).alloc (.map #[] 0)).alloc (.cells #[.pointer (some ⟨bo, 0, none⟩), .pointer (some ⟨w1.heap.size + 5, 0, none⟩), .pointer (some ⟨w2.heap.size + 1, 0, none⟩), .map (some (w2.heap.size + 1 + 1)), .int .i64 50, .int .i64 0] 56)) → OpenSays R (.returned (.tuple #[.pointer (some ⟨w2.heap.size + 1 + 1 + 1, 0, none⟩), .int .i64 0])) w5) := Lib.hid fun bo w1 w2 w5 hr h2 e5 => by
    obtain ⟨_, s2, q2, bl2, z2⟩ := h2
    obtain ⟨n, hn⟩ : ∃ n, n = w1.heap.size := ⟨_, rfl⟩
    rw [← hn] at z2 s2 q2 bl2 e5
    rw [z2] at e5
    obtain ⟨w3, e3⟩ : ∃ w3, w3 = w2.alloc (.map #[] 0) := ⟨_, rfl⟩
    obtain ⟨_, z3, b3⟩ := alloc_next (W := w2) (o := .map #[] 0) z2
    have m3 := Mv.VMap.made w2
    rw [z2] at m3
    rw [← e3] at e5 m3 z3 b3
    obtain ⟨w4, e4⟩ : ∃ w4, w4 = w3.alloc (.cells #[.int .i64 1000, .int .i64 0, .map (some (n + 6))] 106) := ⟨_, rfl⟩
    obtain ⟨p4, z4, b4⟩ := alloc_next (W := w3) (o := .cells #[.int .i64 1000, .int .i64 0, .map (some (n + 6))] 106) z3
    rw [← e4] at e5 p4 z4 b4
    obtain ⟨w6, e6⟩ : ∃ w6, w6 = w4.alloc (.map #[] 0) := ⟨_, rfl⟩
    obtain ⟨_, z6, b6⟩ := alloc_next (W := w4) (o := .map #[] 0) z4
    have m6 := Mv.VMap.made w4
    rw [z4] at m6
    rw [← e6] at e5 m6 z6 b6
    obtain ⟨p7, z7, b7⟩ := alloc_next (W := w6) (o := .cells #[.pointer (some ⟨bo, 0, none⟩), .pointer (some ⟨n + 5, 0, none⟩), .pointer (some ⟨n + 6 + 1, 0, none⟩), .map (some (n + 6 + 1 + 1)), .int .i64 50, .int .i64 0] 56) z6
    rw [← e5] at p7 z7 b7
    have B6 : Below (n + 9) w6 w5 := b7
    have B4 : Below (n + 8) w4 w5 := b6.trans (B6.mono (by omega))
    have B3 : Below (n + 7) w3 w5 := b4.trans (B4.mono (by omega))
    have B2 : Below (n + 6) w2 w5 := b3.trans (B3.mono (by omega))
    have B2' : Below w2.heap.size w2 w5 := by rw [z2]; exact B2
    refine ⟨bo, w1, hr, by rw [z2, ← hn], ?_⟩
    refine ⟨?_, ?_, ?_, ?_, ?_, ?_, ?_, ?_⟩
    · rw [← hn]; exact bl2.trans (B2.mono (by omega))
    · rw [← hn]; omega
    · rw [← hn]; exact s2.below B2'
    · rw [← hn]; exact (B2.block _ (by omega)).trans q2
    · rw [← hn]; exact m3.keep (B3.block _ (by omega))
    · rw [← hn]; exact CB.keep (W := w4) p4 (B4.block _ (by omega))
    · rw [← hn]; exact m6.keep (B6.block _ (by omega))
    · rw [← hn]; exact p7
  generalize OpenSays R = Q at *
  clear hO
  go_enter Tryz.func25, Tryz.ntmps25
  go_wp2_with (first
    | (go_at_call 45; (with_reducible refine (OO.out).mono ?_); rintro e w1 ⟨bo, rfl, hr⟩; have HR := Lib.hid hr; clear hr)
    | (go_at_call 46; (with_reducible refine (SN.out _).mono ?_); rintro e w2 hs2; obtain rfl := hs2.1; have HS2 := Lib.hid hs2; clear hs2)
    | (go_at_call 47; (with_reducible refine (CN.out _).mono ?_); rintro e w3 ⟨rfl, rfl⟩))
  exact FN.out bo w1 w2 _ HR.out HS2.out rfl
end Go.Proofs.YtifiipmmgnmciaaGreatDoor.Sv
/- SvReport, what a claim needs of it (prune.py). -/
namespace Go.Proofs.YtifiipmmgnmciaaGreatDoor.Sv
open Go.RowKit Go.Maps
open Dk (Kp)
set_option linter.unusedVariables false
set_option maxRecDepth 100000
abbrev repC (K : ByteArray) (gf cf : Nat) : Array Value := #[.string K, .int .i64 1, .int .i64 1, .slice (some ⟨gf, 0, none⟩) 1 cf, .string ⟨#[]⟩, .int .i64 0, .string ⟨#[]⟩, .int .i64 2]
def RepSays (W : World) (s : Sb) (k n cb mc gf cf : Nat) (K : ByteArray) (rows : ByteArray → Option Value) (e : Ending) (w' : World) : Prop := e = .returned (.int .i64 0) ∧ ScAt w' s k 1 rows NoM NoM ∧ (∃ th, W.heap.size ≤ th ∧ TH w' th gf cf 1 ∧ Mv.VMap w' mc (n + 1) (oneM K th)) ∧ CB w' cb mc 1 ∧ Kp (fun j => j = s.mt ∨ j = s.ml ∨ j = cb ∨ j = mc) W w'
set_option maxHeartbeats 2000000 in
theorem sreport (W : World) (s : Sb) (k n bs bo cb mc mk gf cf : Nat) (clock : Int) (K wk : ByteArray) (rows : ByteArray → Option Value) (h : SB W bs bo s.sc cb mk clock) (hs : ScAt W s k 1 rows (Mv.putM NoM K (.bool true)) (Mv.putM NoM K (leaseV K wk))) (hc : CB W cb mc 0) (hm : Mv.VMap W mc n NoM) (hK : K.size ≤ maxLen) (hn : n ≤ 900)
    (hd1 : s.mt ≠ cb ∧ s.mt ≠ mc ∧ s.ml ≠ cb ∧ s.ml ≠ mc ∧ bs ≠ s.mt ∧ bs ≠ s.ml) (hd2 : ∀ j, j = cb ∨ j = mc → j ≠ s.sc ∧ j ≠ s.tb ∧ j ≠ s.mr ∧ j ≠ s.mt ∧ j ≠ s.ml) :
    Calls Tryz.prog 12 #[.pointer (some ⟨bs, 0, none⟩), .agg (repC K gf cf)] W (RepSays W s k n cb mc gf cf K rows) := by
  obtain ⟨W0, e0⟩ : ∃ W0, W0 = W.alloc (.cells (repC K gf cf) 46) := ⟨_, rfl⟩
  have B0 : Below W.heap.size W W0 := by rw [e0]; exact (Below.refl _ _).alloc (Nat.le_refl _) _
  have z0 : W0.heap[W.heap.size]? = some (.cells (repC K gf cf) 46 (0, 0)) := by rw [e0]; exact heap_alloc_new _ _
  have hs0 : W0.heap.size = W.heap.size + 1 := by rw [e0]; simp
  obtain ⟨l1, l2, l3, l4, l5⟩ := hs.lt
  obtain ⟨d1, d2, d3, d4, d5, d6⟩ := hd1
  have hcl := hc.lt
  have hml := hm.lt
  have hbs := h.lt
  have sb0 := h.below B0
  have c1 : W0.cell? ⟨bs, 1, none⟩ = some (.pointer (some ⟨s.sc, 0, none⟩)) := (cell_heap sb0 1).trans rfl
  have x0 : W0.cell? ⟨W.heap.size, 0, none⟩ = some (.string K) := (cell_heap z0 0).trans rfl
  have x1 : W0.cell? ⟨W.heap.size, 1, none⟩ = some (.int .i64 1) := (cell_heap z0 1).trans rfl
  have FI := Lib.hid (sfinish_any W0.drew s k K wk rows (hs.below B0.drew) hK)
  have NX : Hid (∀ w1, ScAt w1 s k 1 rows NoM NoM → Kp (fun j => j = s.mt ∨ j = s.ml) W0.drew w1 → (w1.cell? ⟨bs, 2, none⟩ = some (.pointer (some ⟨cb, 0, none⟩)) ∧ w1.heap[W.heap.size]? = some (.cells (repC K gf cf) 46 (0, 0))) ∧ Calls Tryz.prog 23 #[.pointer (some ⟨cb, 0, none⟩), .string K, .agg #[.int .i64 1, .slice (some ⟨gf, 0, none⟩) 1 cf, .string ⟨#[]⟩, .int .i64 0, .string ⟨#[]⟩, .int .i64 2]] w1.drew fun e w' => e = .returned (.int .i64 0) ∧ RepSays W s k n cb mc gf cf K rows (.returned (.int .i64 0)) w') := Lib.hid fun w1 s1 k1 => by
    have kk : Kp (fun j => j = s.mt ∨ j = s.ml) W w1.drew := ((Kp.of_below B0.drew).trans k1).drew
    have hz := kk.size
    refine ⟨⟨(cell_heap (h.keep (kk.block _ hbs (fun e => by rcases e with e | e; exact d5 e; exact d6 e))) 2).trans rfl, (k1.block _ (by show _ < W0.heap.size; omega) (fun e => by rcases e with e | e <;> omega)).trans z0⟩, (cput_new w1.drew cb mc n gf cf K (hc.keep (kk.block _ hcl (fun e => by rcases e with e | e; exact d1 e.symm; exact d3 e.symm))) (hm.keep (kk.block _ hml (fun e => by rcases e with e | e; exact d2 e.symm; exact d4 e.symm))) hK hn).mono ?_⟩
    rintro e w' ⟨rfl, ⟨th, h1, h2, h3⟩, h4, h5⟩
    exact ⟨rfl, rfl, (s1.below (Below.refl _ _).drew).kp h5 (fun j e => hd2 j e), ⟨th, Nat.le_trans hz h1, h2, h3⟩, h4, (kk.mono (fun j e => by rcases e with e | e; exact .inl e; exact .inr (.inl e))).trans (h5.mono (fun j e => by rcases e with e | e; exact .inr (.inr (.inl e)); exact .inr (.inr (.inr e))))⟩
  clear h hs hc hm hd2 sb0 B0 z0 hs0 l1 l2 l3 l4 l5 d1 d2 d3 d4 d5 d6 hcl hml hbs
  go_enter Tryz.func12, Tryz.ntmps12
  go_upto_region 3 with (fail)
  rw [← e0]
  clear e0
  go_still_tail 8, (by kernel_rfl)
  change wpList _ _ _ _ _ W0.drew
  go_upto_region 6 with (go_at_call 22; (with_reducible refine (FI.out).mono ?_); rintro e w1 ⟨rfl, s1, k1⟩; obtain ⟨⟨c2, z1⟩, PU⟩ := NX.out w1 s1 k1; have PUH := Lib.hid PU; have y0 := cell_heap z1 0; have y2 := cell_heap z1 2; have y3 := cell_heap z1 3; have y4 := cell_heap z1 4; have y5 := cell_heap z1 5; have y6 := cell_heap z1 6; have y7 := cell_heap z1 7; clear s1 k1 PU z1 NX)
  go_still_tail 8, (by kernel_rfl)
  change wpList _ _ _ _ _ w1.drew
  go_wp2_with (go_at_call 23; (with_reducible refine (PUH.out).mono ?_); rintro e w2 ⟨rfl, hR⟩)
  go_ret
  exact hR
end Go.Proofs.YtifiipmmgnmciaaGreatDoor.Sv
/- SvRunS, what a claim needs of it (prune.py). -/
namespace Go.Proofs.YtifiipmmgnmciaaGreatDoor.Sv
open Go.RowKit Go.Maps
open Dk (Kp)
set_option linter.unusedVariables false
set_option maxRecDepth 100000
abbrev noRep : Array Value := #[.string ⟨#[]⟩, .int .i64 0, .int .i64 0, .slice none 0 0, .string ⟨#[]⟩, .int .i64 0, .string ⟨#[]⟩, .int .i64 0]
abbrev goTask (K c : ByteArray) : Array Value := #[.string K, .int .i64 1, .string c, .slice none 0 0, .slice none 0 0, .int .i64 50]
abbrev outV (gf cf : Nat) : Value := .agg #[.int .i64 1, .slice (some ⟨gf, 0, none⟩) 1 cf, .string ⟨#[]⟩, .int .i64 0, .string ⟨#[]⟩, .int .i64 2]
theorem set8 {w : World} {b : Nat} {T : TypeId} {c0 c1 c2 c3 c4 c5 c6 c7 : Value} (h : w.heap[b]? = some (.cells #[c0, c1, c2, c3, c4, c5, c6, c7] T (0, 0))) (v0 v1 v2 v3 v4 v5 v6 v7 : Value) : ((((((((w.setCell ⟨b, 0, none⟩ v0).setCell ⟨b, 1, none⟩ v1).setCell ⟨b, 2, none⟩ v2).setCell ⟨b, 3, none⟩ v3).setCell ⟨b, 4, none⟩ v4).setCell ⟨b, 5, none⟩ v5).setCell ⟨b, 6, none⟩ v6).setCell ⟨b, 7, none⟩ v7).heap[b]? = some (.cells #[v0, v1, v2, v3, v4, v5, v6, v7] T (0, 0)) := by
  have h0 := (heap_set (off := 0) (v := v0) h).trans (show _ = some (Obj.cells #[v0, c1, c2, c3, c4, c5, c6, c7] T (0, 0)) from rfl)
  have h1 := (heap_set (off := 1) (v := v1) h0).trans (show _ = some (Obj.cells #[v0, v1, c2, c3, c4, c5, c6, c7] T (0, 0)) from rfl)
  have h2 := (heap_set (off := 2) (v := v2) h1).trans (show _ = some (Obj.cells #[v0, v1, v2, c3, c4, c5, c6, c7] T (0, 0)) from rfl)
  have h3 := (heap_set (off := 3) (v := v3) h2).trans (show _ = some (Obj.cells #[v0, v1, v2, v3, c4, c5, c6, c7] T (0, 0)) from rfl)
  have h4 := (heap_set (off := 4) (v := v4) h3).trans (show _ = some (Obj.cells #[v0, v1, v2, v3, v4, c5, c6, c7] T (0, 0)) from rfl)
  have h5 := (heap_set (off := 5) (v := v5) h4).trans (show _ = some (Obj.cells #[v0, v1, v2, v3, v4, v5, c6, c7] T (0, 0)) from rfl)
  have h6 := (heap_set (off := 6) (v := v6) h5).trans (show _ = some (Obj.cells #[v0, v1, v2, v3, v4, v5, v6, c7] T (0, 0)) from rfl)
  exact (heap_set (off := 7) (v := v7) h6).trans rfl
theorem below8 {B b : Nat} {W w : World} (h : Below B W w) (hb : B ≤ b) (v0 v1 v2 v3 v4 v5 v6 v7 : Value) : Below B W ((((((((w.setCell ⟨b, 0, none⟩ v0).setCell ⟨b, 1, none⟩ v1).setCell ⟨b, 2, none⟩ v2).setCell ⟨b, 3, none⟩ v3).setCell ⟨b, 4, none⟩ v4).setCell ⟨b, 5, none⟩ v5).setCell ⟨b, 6, none⟩ v6).setCell ⟨b, 7, none⟩ v7) :=
  (((((((h.setCell (p := ⟨b, 0, none⟩) hb _).setCell (p := ⟨b, 1, none⟩) hb _).setCell (p := ⟨b, 2, none⟩) hb _).setCell (p := ⟨b, 3, none⟩) hb _).setCell (p := ⟨b, 4, none⟩) hb _).setCell (p := ⟨b, 5, none⟩) hb _).setCell (p := ⟨b, 6, none⟩) hb _).setCell (p := ⟨b, 7, none⟩) hb _
def RunAns (F : World → Nat → Prop) (W : World) (e : Ending) (w' : World) : Prop := (∃ gf cf, e = .returned (outV gf cf) ∧ W.heap.size ≤ gf ∧ gf < w'.heap.size ∧ 1 ≤ cf ∧ F w' gf) ∧ Below W.heap.size W w'
def RunSaysS (F : World → Nat → Prop) (K : ByteArray) (W : World) (e : Ending) (w' : World) : Prop := (∃ gf cf, e = .returned (.agg (repC K gf cf)) ∧ W.heap.size ≤ gf ∧ gf < w'.heap.size ∧ 1 ≤ cf ∧ F w' gf) ∧ Below W.heap.size W w'
set_option maxHeartbeats 4000000 in
theorem srun_any (F : World → Nat → Prop) (W : World) (K c : ByteArray) (hF : ∀ V V' g, F V g → V'.heap[g]? = V.heap[g]? → F V' g)
    (hP : ∀ V, Below W.heap.size W V → Calls Tryz.prog 48 #[.string c] V fun e w' => ∃ L cap, e = .returned (.tuple #[.slice L 1 cap, .int .i64 0]) ∧ Below V.heap.size V w' ∧
      ∀ V2, Below w'.heap.size w' V2 → Calls Tryz.prog 49 #[.slice L 1 cap, .slice none 0 0, .slice none 0 0, .int .i64 50] V2 (RunAns F V2)) :
    Calls Tryz.prog 27 #[.agg (goTask K c)] W (RunSaysS F K W) := by
  obtain ⟨W0, e0⟩ : ∃ W0, W0 = (W.alloc (.cells (goTask K c) 34)).alloc (.cells noRep 46) := ⟨_, rfl⟩
  have B0 : Below W.heap.size W W0 := by rw [e0]; exact ((Below.refl _ _).alloc (Nat.le_refl _) _).alloc (by simp) _
  have hz0 : W0.heap.size = W.heap.size + 2 := by rw [e0]; simp
  have x0 : W0.heap[W.heap.size]? = some (.cells (goTask K c) 34 (0, 0)) := by rw [e0]; exact Lg.heap_two
  have r0 : W0.heap[W.heap.size + 1]? = some (.cells noRep 46 (0, 0)) := by rw [e0]; exact heap_alloc2_new W _ _
  have y2 : W0.cell? ⟨W.heap.size, 2, none⟩ = some (.string c) := (cell_heap x0 2).trans rfl
  have PP := Lib.hid (hP W0 B0)
  have NX : Hid (∀ w1 L cap, Below W0.heap.size W0 w1 → (∀ V2, Below w1.heap.size w1 V2 → Calls Tryz.prog 49 #[.slice L 1 cap, .slice none 0 0, .slice none 0 0, .int .i64 50] V2 (RunAns F V2)) → (w1.cell? ⟨W.heap.size, 0, none⟩ = some (.string K) ∧ w1.cell? ⟨W.heap.size, 1, none⟩ = some (.int .i64 1) ∧ w1.cell? ⟨W.heap.size, 3, none⟩ = some (.slice none 0 0) ∧ w1.cell? ⟨W.heap.size, 4, none⟩ = some (.slice none 0 0) ∧ w1.cell? ⟨W.heap.size, 5, none⟩ = some (.int .i64 50)) ∧
      Calls Tryz.prog 49 #[.slice L 1 cap, .slice none 0 0, .slice none 0 0, .int .i64 50] w1.drew fun e w2 => ∃ gf cf, e = .returned (outV gf cf) ∧ w2.heap[W.heap.size]? = some (.cells (goTask K c) 34 (0, 0)) ∧ w2.heap[W.heap.size + 1]? = some (.cells noRep 46 (0, 0)) ∧ ((((((((w2.setCell ⟨W.heap.size + 1, 0, none⟩ (.string K)).setCell ⟨W.heap.size + 1, 1, none⟩ (.int .i64 1)).setCell ⟨W.heap.size + 1, 2, none⟩ (.int .i64 1)).setCell ⟨W.heap.size + 1, 3, none⟩ (.slice (some ⟨gf, 0, none⟩) 1 cf)).setCell ⟨W.heap.size + 1, 4, none⟩ (.string ⟨#[]⟩)).setCell ⟨W.heap.size + 1, 5, none⟩ (.int .i64 0)).setCell ⟨W.heap.size + 1, 6, none⟩ (.string ⟨#[]⟩)).setCell ⟨W.heap.size + 1, 7, none⟩ (.int .i64 2)).heap[W.heap.size]? = some (.cells (goTask K c) 34 (0, 0)) ∧ (RunSaysS F K W (.returned (.agg (repC K gf cf))) ((((((((w2.setCell ⟨W.heap.size + 1, 0, none⟩ (.string K)).setCell ⟨W.heap.size + 1, 1, none⟩ (.int .i64 1)).setCell ⟨W.heap.size + 1, 2, none⟩ (.int .i64 1)).setCell ⟨W.heap.size + 1, 3, none⟩ (.slice (some ⟨gf, 0, none⟩) 1 cf)).setCell ⟨W.heap.size + 1, 4, none⟩ (.string ⟨#[]⟩)).setCell ⟨W.heap.size + 1, 5, none⟩ (.int .i64 0)).setCell ⟨W.heap.size + 1, 6, none⟩ (.string ⟨#[]⟩)).setCell ⟨W.heap.size + 1, 7, none⟩ (.int .i64 2)))) := Lib.hid fun w1 L cap h1 hR => by
    have x1 := (h1.block _ (by omega)).trans x0
    have s1 := h1.size
    refine ⟨⟨(cell_heap x1 0).trans rfl, (cell_heap x1 1).trans rfl, (cell_heap x1 3).trans rfl, (cell_heap x1 4).trans rfl, (cell_heap x1 5).trans rfl⟩, (hR w1.drew (Below.refl _ _).drew).mono ?_⟩
    rintro e w2 ⟨⟨gf, cf, rfl, g1, g2, g3, g4⟩, h2⟩
    have b2 : Below W0.heap.size W0 w2 := (h1.drew).trans (h2.mono (by show _ ≤ w1.heap.size; exact s1))
    have g1' : w1.heap.size ≤ gf := g1
    have r2 := (b2.block _ (by omega)).trans r0
    have nx : W.heap.size + 1 ≠ W.heap.size := by omega
    refine ⟨gf, cf, rfl, (b2.block _ (by omega)).trans x0, r2, (by
      rw [heap_set_ne nx, heap_set_ne nx, heap_set_ne nx, heap_set_ne nx, heap_set_ne nx, heap_set_ne nx, heap_set_ne nx, heap_set_ne nx]
      exact (b2.block _ (by omega)).trans x0), ⟨gf, cf, rfl, by omega, by simpa using g2, g3, hF _ _ _ g4 ?_⟩, below8 (B0.trans (b2.mono (by omega))) (by omega) _ _ _ _ _ _ _ _⟩
    have ne : W.heap.size + 1 ≠ gf := by omega
    rw [heap_set_ne ne, heap_set_ne ne, heap_set_ne ne, heap_set_ne ne, heap_set_ne ne, heap_set_ne ne, heap_set_ne ne, heap_set_ne ne]
  clear B0 hz0 x0 r0 hP hF
  generalize hQ : RunSaysS F K W = Q at NX
  go_enter Tryz.func27, Tryz.ntmps27
  go_upto_region 1 with (fail)
  rw [← e0]
  clear e0
  go_upto_region 2 with (go_at_call 48; (with_reducible refine (PP.out).mono ?_); rintro e w1 ⟨L, cap, rfl, h1, hR⟩)
  obtain ⟨⟨a0, a1, a3, a4, a5⟩, hB⟩ := NX.out w1 L cap h1 hR
  have BB := Lib.hid hB
  clear NX PP y2 h1 hR hB
  have S1 : w1.drew.cell? ⟨W.heap.size, 0, none⟩ = some (.string K) ∧ w1.drew.cell? ⟨W.heap.size, 1, none⟩ = some (.int .i64 1) ∧ w1.drew.cell? ⟨W.heap.size, 3, none⟩ = some (.slice none 0 0) ∧ w1.drew.cell? ⟨W.heap.size, 4, none⟩ = some (.slice none 0 0) ∧ w1.drew.cell? ⟨W.heap.size, 5, none⟩ = some (.int .i64 50) := ⟨a0, a1, a3, a4, a5⟩
  have SX : Hid (∀ V : World, V.heap[W.heap.size]? = some (.cells (goTask K c) 34 (0, 0)) → V.cell? ⟨W.heap.size, 0, none⟩ = some (.string K) ∧ V.cell? ⟨W.heap.size, 1, none⟩ = some (.int .i64 1) ∧ V.cell? ⟨W.heap.size, 3, none⟩ = some (.slice none 0 0) ∧ V.cell? ⟨W.heap.size, 4, none⟩ = some (.slice none 0 0) ∧ V.cell? ⟨W.heap.size, 5, none⟩ = some (.int .i64 50)) := Lib.hid fun V x => ⟨(cell_heap x 0).trans rfl, (cell_heap x 1).trans rfl, (cell_heap x 3).trans rfl, (cell_heap x 4).trans rfl, (cell_heap x 5).trans rfl⟩
  go_region_held3 (fun V => V.cell? ⟨W.heap.size, 0, none⟩ = some (.string K) ∧ V.cell? ⟨W.heap.size, 1, none⟩ = some (.int .i64 1) ∧ V.cell? ⟨W.heap.size, 3, none⟩ = some (.slice none 0 0) ∧ V.cell? ⟨W.heap.size, 4, none⟩ = some (.slice none 0 0) ∧ V.cell? ⟨W.heap.size, 5, none⟩ = some (.int .i64 50)) (first | (with_reducible exact S1) | (with_reducible exact SX.out _ X2.out) | (with_reducible exact SX.out _ X3.out) | go_keep) (first | (go_at_call 49; (with_reducible refine (BB.out).mono ?_); rintro e w2 ⟨gf, cf, rfl, z2, q2, x3, hq⟩; have HQ := Lib.hid hq; have Z2 := Lib.hid q2; have X2 := Lib.hid z2; have X3 := Lib.hid x3; have u0 := cell_heap q2 0; have u1 := cell_heap q2 1; have u2 := cell_heap q2 2; have u3 := cell_heap q2 3; have u4 := cell_heap q2 4; have u5 := cell_heap q2 5; have u6 := cell_heap q2 6; have u7 := cell_heap q2 7; have f0 := frozen_heap q2 0; have f1 := frozen_heap q2 1; have f2 := frozen_heap q2 2; have f3 := frozen_heap q2 3; have f4 := frozen_heap q2 4; have f5 := frozen_heap q2 5; have f6 := frozen_heap q2 6; have f7 := frozen_heap q2 7; clear hq q2 z2 x3))
  go_wp2_with (fail)
  refine bodyPost_ret_by (results_row1 rfl _ _ (W.heap.size + 1) _ _ (0, 0) _ rfl (set8 Z2.out _ _ _ _ _ _ _ _) rfl rfl (by kernel_rfl)) rfl ?_
  exact HQ.out
end Go.Proofs.YtifiipmmgnmciaaGreatDoor.Sv
/- SvCheck, what a claim needs of it (prune.py). -/
namespace Go.Proofs.YtifiipmmgnmciaaGreatDoor.Sv
open Go.RowKit Go.Maps
open Dk (Kp)
set_option linter.unusedVariables false
set_option maxRecDepth 100000
theorem fcheck0 (A : Option Addr) (c : Nat) (W : World) : Calls Tryz.prog 68 #[.slice A 0 c] W fun e w' => e = .returned (.int .i64 0) ∧ W = w' := by
  go_enter Tryz.func68, Tryz.ntmps68
  go_wp2_with (fail)
  go_loopw [9] (fun v wr => v = .int .i64 0 ∧ wr = W) (fun _ _ => 0)
  case atStart => exact ⟨rfl, rfl⟩
  case round =>
    obtain ⟨rfl, rfl⟩ := hrel
    go_wp2_with (fail)
    go_loopw [29] (fun v wx => v = .int .i64 0 ∧ wx = wr) (fun _ _ => 0)
    case atStart => exact ⟨rfl, rfl⟩
    case round =>
      obtain ⟨rfl, rfl⟩ := hrel
      go_wp2_with (fail)
      go_ret
      exact ⟨rfl, rfl⟩
theorem twice0 (A : Option Addr) (c : Nat) (W : World) : Calls Tryz.prog 192 #[.slice A 0 c] W fun e w' => e = .returned (.bool false) ∧ Below W.heap.size W w' := by
  have hmm := @run_makeMap Tryz.prog
  go_enter Tryz.func192, Tryz.ntmps192
  go_wp2_with (fail)
  go_loopw [9] (fun v wr => v = .int .i64 0 ∧ Below W.heap.size W wr) (fun _ _ => 0)
  case atStart => exact ⟨rfl, (Below.refl _ _).alloc (Nat.le_refl _) _⟩
  case round =>
    obtain ⟨rfl, hb⟩ := hrel
    go_wp2_with (fail)
    go_ret
    exact ⟨rfl, hb⟩
theorem indexS0 (A : Option Addr) (c : Nat) (f : Value) (W : World) : Calls Tryz.prog 43 #[.slice A 0 c, f] W fun e w' => e = .returned (.int .i64 (-1)) ∧ W = w' := by
  go_enter Tryz.func43, Tryz.ntmps43
  go_wp2_with (fail)
  go_loopw [8] (fun v8 wr => v8 = .int .i64 0 ∧ wr = W) (fun _ _ => 0)
  case atStart => exact ⟨rfl, rfl⟩
  case round =>
    obtain ⟨rfl, rfl⟩ := hrel
    go_wp2_with (fail)
    go_ret
    exact ⟨rfl, rfl⟩
theorem containsS0 (A : Option Addr) (c : Nat) (f : Value) (W : World) : Calls Tryz.prog 118 #[.slice A 0 c, f] W fun e w' => e = .returned (.bool false) ∧ W = w' := by
  go_enter Tryz.func118, Tryz.ntmps118
  go_wp2_with (go_at_call 43; (with_reducible refine (indexS0 _ _ _ _).mono ?_); rintro e w' ⟨rfl, rfl⟩)
  go_ret
  exact ⟨rfl, rfl⟩
theorem indexT0 (A : Option Addr) (c : Nat) (f : Value) (W : World) : Calls Tryz.prog 128 #[.slice A 0 c, f] W fun e w' => e = .returned (.int .i64 (-1)) ∧ W = w' := by
  go_enter Tryz.func128, Tryz.ntmps128
  go_wp2_with (fail)
  go_loopw [8] (fun v8 wr => v8 = .int .i64 0 ∧ wr = W) (fun _ _ => 0)
  case atStart => exact ⟨rfl, rfl⟩
  case round =>
    obtain ⟨rfl, rfl⟩ := hrel
    go_wp2_with (fail)
    go_ret
    exact ⟨rfl, rfl⟩
abbrev noTg : Array Value := #[.string ⟨#[]⟩, .string ⟨#[]⟩, .slice none 0 0, .slice none 0 0]
theorem gfind0 (A : Option Addr) (c : Nat) (s : ByteArray) (W : World) : Calls Tryz.prog 66 #[.slice A 0 c, .string s] W fun e w' => e = .returned (.tuple #[.agg noTg, .bool false]) ∧ Below W.heap.size W w' := by
  obtain ⟨W2, eW⟩ : ∃ W2, W2 = (W.alloc (.cells #[.string s] 9)).alloc (.cells noTg 122) := ⟨_, rfl⟩
  have hb2 : Below W.heap.size W W2 := by rw [eW]; exact ((Below.refl _ _).alloc (Nat.le_refl _) _).alloc (by simp) _
  have k1 : W2.heap[W.heap.size + 1]? = some (.cells noTg 122 (0, 0)) := by rw [eW]; exact heap_alloc2_new W _ _
  have y0 : W2.cell? ⟨W.heap.size + 1, 0, none⟩ = some (.string ⟨#[]⟩) := (cell_heap k1 0).trans rfl
  have y1 : W2.cell? ⟨W.heap.size + 1, 1, none⟩ = some (.string ⟨#[]⟩) := (cell_heap k1 1).trans rfl
  have y2 : W2.cell? ⟨W.heap.size + 1, 2, none⟩ = some (.slice none 0 0) := (cell_heap k1 2).trans rfl
  have y3 : W2.cell? ⟨W.heap.size + 1, 3, none⟩ = some (.slice none 0 0) := (cell_heap k1 3).trans rfl
  have f0 := frozen_heap k1 0
  have f1 := frozen_heap k1 1
  have f2 := frozen_heap k1 2
  have f3 := frozen_heap k1 3
  have s0 : W2.setCell ⟨W.heap.size + 1, 0, none⟩ (.string ⟨#[]⟩) = W2 := set_same k1 rfl
  have s1 : W2.setCell ⟨W.heap.size + 1, 1, none⟩ (.string ⟨#[]⟩) = W2 := set_same k1 rfl
  have s2 : W2.setCell ⟨W.heap.size + 1, 2, none⟩ (.slice none 0 0) = W2 := set_same k1 rfl
  have s3 : W2.setCell ⟨W.heap.size + 1, 3, none⟩ (.slice none 0 0) = W2 := set_same k1 rfl
  have K1 := Lib.hid k1
  have HB := Lib.hid hb2
  clear k1 hb2
  go_enter Tryz.func66, Tryz.ntmps66
  go_wp2_with (go_at_call 128; rw [← eW]; clear eW; (with_reducible refine (indexT0 _ _ _ _).mono ?_); rintro e w1 ⟨rfl, rfl⟩)
  (try simp only [Exit.inBlock, Exit.then])
  refine bodyPost_ret_by (Lg.results_cell_row2 rfl _ _ (W.heap.size + 1) 122 _ (0, 0) _ rfl K1.out rfl rfl (by kernel_rfl)) rfl ?_
  exact ⟨rfl, HB.out⟩
abbrev tgC (n c : ByteArray) (Ad : Option Addr) (cd : Nat) (As : Option Addr) (cs : Nat) : Array Value := #[.string n, .string c, .slice Ad 0 cd, .slice As 0 cs]
theorem alone1 (n c : ByteArray) (Ad As : Option Addr) (cd cs : Nat) (W : World) (hP : ∀ V, Below W.heap.size W V → Calls Tryz.prog 48 #[.string c] V fun e w' => (∃ v, e = .returned (.tuple #[v, .int .i64 0])) ∧ Below V.heap.size V w') :
    Calls Tryz.prog 130 #[.agg (tgC n c Ad cd As cs)] W fun e w' => e = .returned (.int .i64 0) ∧ Below W.heap.size W w' := by
  obtain ⟨W0, e0⟩ : ∃ W0, W0 = W.alloc (.cells (tgC n c Ad cd As cs) 122) := ⟨_, rfl⟩
  have B0 : Below W.heap.size W W0 := by rw [e0]; exact (Below.refl _ _).alloc (Nat.le_refl _) _
  have z0 : W0.heap[W.heap.size]? = some (.cells (tgC n c Ad cd As cs) 122 (0, 0)) := by rw [e0]; exact heap_alloc_new _ _
  have x1 : W0.cell? ⟨W.heap.size, 1, none⟩ = some (.string c) := (cell_heap z0 1).trans rfl
  have PP := Lib.hid (hP W0 B0)
  have CL : Hid (∀ V, Below W0.heap.size W0 V → V.cell? ⟨W.heap.size, 2, none⟩ = some (.slice Ad 0 cd) ∧ V.cell? ⟨W.heap.size, 3, none⟩ = some (.slice As 0 cs) ∧ Below W.heap.size W V) := Lib.hid fun V hV => by
    have z := (hV.block _ (Lg.lt_heap z0)).trans z0
    exact ⟨(cell_heap z 2).trans rfl, (cell_heap z 3).trans rfl, B0.trans (hV.mono B0.size)⟩
  have TW : Hid (∀ A c V, Below W0.heap.size W0 V → Calls Tryz.prog 192 #[.slice A 0 c] V fun e w' => e = .returned (.bool false) ∧ Below W0.heap.size W0 w') := Lib.hid fun A c V hV => (twice0 A c V).mono fun e w' hh => ⟨hh.1, hV.trans (hh.2.mono hV.size)⟩
  clear B0 z0 hP
  go_enter Tryz.func130, Tryz.ntmps130
  go_upto_region 1 with (fail)
  rw [← e0]
  clear e0
  go_wp2_with (first
    | (go_at_call 48; (with_reducible refine (PP.out).mono ?_); rintro e w1 ⟨⟨v, rfl⟩, h1⟩; obtain ⟨a2, a3, _⟩ := CL.out _ h1)
    | (go_at_call 192; (with_reducible refine (TW.out _ _ _ h2).mono ?_); rintro e w3 ⟨rfl, h3⟩; obtain ⟨c2, c3, hF⟩ := CL.out _ h3)
    | (go_at_call 192; (with_reducible refine (TW.out _ _ _ h1).mono ?_); rintro e w2 ⟨rfl, h2⟩; obtain ⟨b2, b3, _⟩ := CL.out _ h2)
    | (go_at_call 118; (with_reducible refine (containsS0 _ _ _ _).mono ?_); rintro e w' ⟨rfl, rfl⟩))
  go_ret
  exact ⟨rfl, hF⟩
end Go.Proofs.YtifiipmmgnmciaaGreatDoor.Sv
