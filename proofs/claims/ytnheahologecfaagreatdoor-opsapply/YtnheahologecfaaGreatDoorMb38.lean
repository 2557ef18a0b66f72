/- Joined by mkmerged.py: OpRApply. -/
import Derived.Test.YtnheahologecfaaGreatDoorMb37
import Derived.Test.YtnheahologecfaaGreatDoorMb33
/- OpRApply, what a claim needs of it (prune.py). -/
namespace Go.Proofs.YtnheahologecfaaGreatDoor.Ops
open Go.RowKit
open Gr (idx NoneTo idx_hit idx_miss idx_cases)
set_option linter.unusedVariables false
set_option maxRecDepth 100000
theorem reads_upto {w : World} {B size n i : Nat} {A : Option Addr} {xs : List Value} (h : Reads w B size A n xs) (hi : i ≤ n) : Reads w B size A i (xs.take (i * size)) := by
  refine ⟨by rw [List.length_take, h.1]; exact Nat.min_eq_left (Nat.mul_le_mul_right _ hi), fun hp => ?_⟩
  obtain ⟨ad, e, hb, hc⟩ := h.2 (by omega)
  refine ⟨ad, e, hb, fun j u hu => hc j u ?_⟩
  rw [List.getElem?_take] at hu
  split at hu
  · exact hu
  · cases hu
theorem rput_fin {w w7 : World} {B i : Nat} {v3 : Value} {l : List Op} {cs : List Value} {y : Op} {Og : Option Addr} {og : Nat} {Of : Option Addr} {of : Nat} {Yr : Option Addr} {yr : Nat} (hb : Below w.heap.size w w7) (hv : OVs w l cs) (hp : Parts w y Og og Of of Yr yr) (hi : i < l.length)
    (ho : w7.ownsRow B 29 9 v3 (i + 1 + (l.length - (i + 1))) (cs.take (i * 9) ++ cellsOf y Og og Of of Yr yr ++ cs.drop ((i + 1) * 9))) : ApplySays (l.set i y) 0 w (.returned (.tuple #[v3, .int .i64 0])) w7 := by
  have e : (l.set i y).length = l.length := by simp
  rw [show i + 1 + (l.length - (i + 1)) = l.length by omega] at ho
  obtain ⟨A3, c3, rfl, hc⟩ := own_sliceO ho
  have hs := OVs.set hv hi (⟨Og, og, Of, of, Yr, yr, rfl, hp⟩ : OV w y (cellsOf y Og og Of of Yr yr))
  exact ⟨⟨A3, c3, by rw [e], by rw [e]; exact hc, _, hs.below hb, by rw [e]; exact Reads.of_own ho⟩, hb⟩
set_option maxHeartbeats 2000000 in
theorem rapply_sub (A : Option Addr) (l : List Op) (c : Nat) (x : Op) (Ag : Option Addr) (cg : Nat) (Af : Option Addr) (cf : Nat) (Ar : Option Addr) (cr : Nat) (w : World) (hl : ∀ y ∈ l, OkO y) (hx : OkO x) (hr : Ops w A l) (hll : l.length ≤ 1000) (hlc : l.length ≤ c) (hp : Parts w x Ag cg Af cf Ar cr) (hcap : Caps w Ag x.gr.length) :
    Calls Tryz.prog 18 #[.slice A l.length c, evOf 1 x Ag cg Af cf Ar cr] w (ApplySays (apply wrongV orderB l ⟨1, x⟩).1 (apply wrongV orderB l ⟨1, x⟩).2 w) := by
  rw [apply_1]
  obtain ⟨W1, eW⟩ : ∃ W1, W1 = w.alloc (.cells #[.int .i64 1, .string x.n, .slice Ag x.gr.length cg, .slice Af x.sn.length cf, .string x.go, .int .i64 x.st, .int .i64 x.r.e, .string x.r.at_, .string x.r.tx, .slice Ar x.r.fs.length cr] 31) := ⟨_, rfl⟩
  have hb1 : Below w.heap.size w W1 := by rw [eW]; exact (Below.refl _ _).alloc (Nat.le_refl _) _
  have SB := Lib.hid (rsubmit_any A l c x Ag cg Af cf Ar cr W1 hl hx (hr.below hb1) hll hlc (hp.below hb1) (Caps.below hcap hp.g hb1))
  unfold valOf at SB
  clear hl hx hr hp hcap
  generalize submit wrongV orderB l x = mf at *
  obtain ⟨m, f⟩ := mf
  unfold evOf
  go_enter Tryz.func18, Tryz.ntmps18
  go_wp2_with (go_at_call 46; rw [← eW]; clear eW; (with_reducible refine (SB.out).mono ?_); rintro e w1 ⟨⟨A', c', rfl, hc', ho⟩, hb⟩)
  go_ret2
  exact ApplySays.from_ hb1 ⟨⟨A', c', rfl, hc', ho⟩, hb⟩
set_option maxHeartbeats 2000000 in
theorem rapply_noarg (A : Option Addr) (l : List Op) (c : Nat) (k : Int) (x : Op) (Ag : Option Addr) (cg : Nat) (Af : Option Addr) (cf : Nat) (Ar : Option Addr) (cr : Nat) (w : World) (h1 : k ≠ 1) (hk : ¬ (k = 2 ∨ k = 3 ∨ k = 4)) :
    Calls Tryz.prog 18 #[.slice A l.length c, evOf k x Ag cg Af cf Ar cr] w (ApplySays (apply wrongV orderB l ⟨k, x⟩).1 (apply wrongV orderB l ⟨k, x⟩).2 w) := by
  rw [apply_arg h1 hk]
  have j1 : (k == 1) = false := by simpa using h1
  have j2 : (k != 2) = true := by simp; omega
  have j3 : (k != 3) = true := by simp; omega
  have j4 : (k != 4) = true := by simp; omega
  clear h1 hk
  unfold evOf
  go_enter Tryz.func18, Tryz.ntmps18
  go_wp2_with (fail)
  go_ret2
  exact ApplySays.none_ rfl ((Below.refl _ _).alloc (Nat.le_refl _) _)
set_option maxHeartbeats 2000000 in
theorem rapply_noname (A : Option Addr) (l : List Op) (c : Nat) (k : Int) (x : Op) (Ag : Option Addr) (cg : Nat) (Af : Option Addr) (cf : Nat) (Ar : Option Addr) (cr : Nat) (w : World) (hk : k = 2 ∨ k = 3 ∨ k = 4) (hr : Ops w A l) (hll : l.length ≤ 1000) (h1 : idx (named x.n) l = -1) (hf : l.find? (named x.n) = none) :
    Calls Tryz.prog 18 #[.slice A l.length c, evOf k x Ag cg Af cf Ar cr] w (ApplySays (apply wrongV orderB l ⟨k, x⟩).1 (apply wrongV orderB l ⟨k, x⟩).2 w) := by
  rw [apply_non hk hf]
  obtain ⟨W1, eW⟩ : ∃ W1, W1 = w.alloc (.cells #[.int .i64 k, .string x.n, .slice Ag x.gr.length cg, .slice Af x.sn.length cf, .string x.go, .int .i64 x.st, .int .i64 x.r.e, .string x.r.at_, .string x.r.tx, .slice Ar x.r.fs.length cr] 31) := ⟨_, rfl⟩
  have hb1 : Below w.heap.size w W1 := by rw [eW]; exact (Below.refl _ _).alloc (Nat.le_refl _) _
  have AT := rat_any A l c x.n W1 (hr.below hb1) (by omega)
  rw [h1] at AT
  have ATH := Lib.hid AT
  clear AT hr h1 hf
  unfold evOf
  rcases hk with rfl | rfl | rfl
  all_goals
    go_enter Tryz.func18, Tryz.ntmps18
    go_wp2_with (go_at_call 47; rw [← eW]; clear eW; (with_reducible refine (ATH.out).mono ?_); rintro e w1 ⟨rfl, rfl⟩)
    go_ret2
    exact ApplySays.none_ rfl hb1
set_option maxHeartbeats 8000000 in
theorem rapply_bad2 (A : Option Addr) (l : List Op) (c : Nat) (x : Op) (Ag : Option Addr) (cg : Nat) (Af : Option Addr) (cf : Nat) (Ar : Option Addr) (cr : Nat) (w : World) (hr : Ops w A l) (hll : l.length ≤ 1000) (hlc : l.length ≤ c) (hcm : c ≤ maxLen) (hp : Parts w x Ag cg Af cf Ar cr) {i : Nat} (hi : i < l.length) (h1 : idx (named x.n) l = i) (ht : turned l[i] ⟨2, x⟩ = none) :
    Calls Tryz.prog 18 #[.slice A l.length c, evOf 2 x Ag cg Af cf Ar cr] w (ApplySays [] 43 w) := by
  obtain ⟨W1, eW⟩ : ∃ W1, W1 = w.alloc (.cells #[.int .i64 2, .string x.n, .slice Ag x.gr.length cg, .slice Af x.sn.length cf, .string x.go, .int .i64 x.st, .int .i64 x.r.e, .string x.r.at_, .string x.r.tx, .slice Ar x.r.fs.length cr] 31) := ⟨_, rfl⟩
  have hb1 : Below w.heap.size w W1 := by rw [eW]; exact (Below.refl _ _).alloc (Nat.le_refl _) _
  have k1 : W1.heap[w.heap.size]? = some (.cells #[.int .i64 2, .string x.n, .slice Ag x.gr.length cg, .slice Af x.sn.length cf, .string x.go, .int .i64 x.st, .int .i64 x.r.e, .string x.r.at_, .string x.r.tx, .slice Ar x.r.fs.length cr] 31 (0, 0)) := by rw [eW]; exact heap_alloc_new w _
  have AT := rat_any A l c x.n W1 (hr.below hb1) (by omega)
  rw [h1] at AT
  have ATH := Lib.hid AT
  have n0 : ¬ (i : Int) < 0 := by omega
  have hiI : (i : Int) < (l.length : Int) := by omega
  obtain ⟨cs, hv, hrd⟩ := hr
  obtain ⟨ad, Og, og, Of, of, Or, or_, rfl, had, hps, d0, d1, d2, d3, d4, d5, d6, d7, d8⟩ := Ops.nine_at (⟨cs, hv, hrd⟩ : Ops w A l) hi
  have HT : Hid ((if l[i].st = 1 then some { l[i] with st := 2 } else none) = none) := Lib.hid ht
  have hq : ∀ j u, w.cell? ⟨(ad.add (i * 9)).block, j, none⟩ = some u → W1.cell? ⟨(ad.add (i * 9)).block, j, none⟩ = some u := fun j u h => (hb1.cell (by show (ad.add (i * 9)).block < _; rw [block_of_add]; exact had)).trans h
  have s0 : W1.cell? (ad.add (i * 9)) = some (.string l[i].n) := (hb1.cell (by rw [block_of_add]; exact had)).trans d0
  have s1 := hq _ _ d1
  have s2 := hq _ _ d2
  have s3 := hq _ _ d3
  have s4 := hq _ _ d4
  have s5 := hq _ _ d5
  have s6 := hq _ _ d6
  have s7 := hq _ _ d7
  have s8 := hq _ _ d8
  obtain ⟨q0, q1, q2, q3, q4, q5, q6, q7, q8, q9⟩ : W1.cell? ⟨w.heap.size, 0, none⟩ = some (.int .i64 2) ∧ W1.cell? ⟨w.heap.size, 1, none⟩ = some (.string x.n) ∧ W1.cell? ⟨w.heap.size, 2, none⟩ = some (.slice Ag x.gr.length cg) ∧ W1.cell? ⟨w.heap.size, 3, none⟩ = some (.slice Af x.sn.length cf) ∧ W1.cell? ⟨w.heap.size, 4, none⟩ = some (.string x.go) ∧ W1.cell? ⟨w.heap.size, 5, none⟩ = some (.int .i64 x.st) ∧ W1.cell? ⟨w.heap.size, 6, none⟩ = some (.int .i64 x.r.e) ∧ W1.cell? ⟨w.heap.size, 7, none⟩ = some (.string x.r.at_) ∧ W1.cell? ⟨w.heap.size, 8, none⟩ = some (.string x.r.tx) ∧ W1.cell? ⟨w.heap.size, 9, none⟩ = some (.slice Ar x.r.fs.length cr) := ⟨cell_of_row W1 w.heap.size 0 _ _ _ k1, cell_of_row W1 w.heap.size 1 _ _ _ k1, cell_of_row W1 w.heap.size 2 _ _ _ k1, cell_of_row W1 w.heap.size 3 _ _ _ k1, cell_of_row W1 w.heap.size 4 _ _ _ k1, cell_of_row W1 w.heap.size 5 _ _ _ k1, cell_of_row W1 w.heap.size 6 _ _ _ k1, cell_of_row W1 w.heap.size 7 _ _ _ k1, cell_of_row W1 w.heap.size 8 _ _ _ k1, cell_of_row W1 w.heap.size 9 _ _ _ k1⟩
  have lw1 := Lg.lt_heap k1
  have Q0 : ∀ o, (W1.alloc o).cell? ⟨w.heap.size, 0, none⟩ = some (.int .i64 2) := fun o => (World.cell?_alloc_lt W1 o ⟨w.heap.size, 0, none⟩ lw1).trans q0
  have Q6 : ∀ o, (W1.alloc o).cell? ⟨w.heap.size, 6, none⟩ = some (.int .i64 x.r.e) := fun o => (World.cell?_alloc_lt W1 o ⟨w.heap.size, 6, none⟩ lw1).trans q6
  have Q7 : ∀ o, (W1.alloc o).cell? ⟨w.heap.size, 7, none⟩ = some (.string x.r.at_) := fun o => (World.cell?_alloc_lt W1 o ⟨w.heap.size, 7, none⟩ lw1).trans q7
  have Q8 : ∀ o, (W1.alloc o).cell? ⟨w.heap.size, 8, none⟩ = some (.string x.r.tx) := fun o => (World.cell?_alloc_lt W1 o ⟨w.heap.size, 8, none⟩ lw1).trans q8
  have Q9 : ∀ o, (W1.alloc o).cell? ⟨w.heap.size, 9, none⟩ = some (.slice Ar x.r.fs.length cr) := fun o => (World.cell?_alloc_lt W1 o ⟨w.heap.size, 9, none⟩ lw1).trans q9
  have HV := Lib.hid hv
  have HR := Lib.hid hrd
  have HP := Lib.hid hp
  have HPS := Lib.hid hps
  clear ht hv hrd hp hps h1 AT d0 d1 d2 d3 d4 d5 d6 d7 d8 hq k1
  generalize l[i] = o at *
  have hs : ¬ o.st = 1 := fun h => by
    have := HT.out
    rw [if_pos h] at this; cases this
  have js : (o.st != 1) = true := by simpa using hs
  clear HT hs
  unfold evOf
  go_enter Tryz.func18, Tryz.ntmps18
  go_wp2_with (go_at_call 47; rw [← eW]; clear eW; (with_reducible refine (ATH.out).mono ?_); rintro e w1 ⟨rfl, rfl⟩)
  go_ret2
  exact ApplySays.none_ rfl (hb1.alloc hb1.size _)
set_option maxHeartbeats 8000000 in
theorem rapply_put2 (A : Option Addr) (l : List Op) (c : Nat) (x : Op) (Ag : Option Addr) (cg : Nat) (Af : Option Addr) (cf : Nat) (Ar : Option Addr) (cr : Nat) (w : World) (hr : Ops w A l) (hll : l.length ≤ 1000) (hlc : l.length ≤ c) (hcm : c ≤ maxLen) (hp : Parts w x Ag cg Af cf Ar cr) {i : Nat} (hi : i < l.length) (h1 : idx (named x.n) l = i) {y0 : Op} (ht : turned l[i] ⟨2, x⟩ = some y0) :
    Calls Tryz.prog 18 #[.slice A l.length c, evOf 2 x Ag cg Af cf Ar cr] w (ApplySays (l.set i y0) 0 w) := by
  obtain ⟨W1, eW⟩ : ∃ W1, W1 = w.alloc (.cells #[.int .i64 2, .string x.n, .slice Ag x.gr.length cg, .slice Af x.sn.length cf, .string x.go, .int .i64 x.st, .int .i64 x.r.e, .string x.r.at_, .string x.r.tx, .slice Ar x.r.fs.length cr] 31) := ⟨_, rfl⟩
  have hb1 : Below w.heap.size w W1 := by rw [eW]; exact (Below.refl _ _).alloc (Nat.le_refl _) _
  have k1 : W1.heap[w.heap.size]? = some (.cells #[.int .i64 2, .string x.n, .slice Ag x.gr.length cg, .slice Af x.sn.length cf, .string x.go, .int .i64 x.st, .int .i64 x.r.e, .string x.r.at_, .string x.r.tx, .slice Ar x.r.fs.length cr] 31 (0, 0)) := by rw [eW]; exact heap_alloc_new w _
  have AT := rat_any A l c x.n W1 (hr.below hb1) (by omega)
  rw [h1] at AT
  have ATH := Lib.hid AT
  have n0 : ¬ (i : Int) < 0 := by omega
  have hiI : (i : Int) < (l.length : Int) := by omega
  obtain ⟨cs, hv, hrd⟩ := hr
  obtain ⟨ad, Og, og, Of, of, Or, or_, rfl, had, hps, d0, d1, d2, d3, d4, d5, d6, d7, d8⟩ := Ops.nine_at (⟨cs, hv, hrd⟩ : Ops w A l) hi
  have HT : Hid ((if l[i].st = 1 then some { l[i] with st := 2 } else none) = some y0) := Lib.hid ht
  have hq : ∀ j u, w.cell? ⟨(ad.add (i * 9)).block, j, none⟩ = some u → W1.cell? ⟨(ad.add (i * 9)).block, j, none⟩ = some u := fun j u h => (hb1.cell (by show (ad.add (i * 9)).block < _; rw [block_of_add]; exact had)).trans h
  have s0 : W1.cell? (ad.add (i * 9)) = some (.string l[i].n) := (hb1.cell (by rw [block_of_add]; exact had)).trans d0
  have s1 := hq _ _ d1
  have s2 := hq _ _ d2
  have s3 := hq _ _ d3
  have s4 := hq _ _ d4
  have s5 := hq _ _ d5
  have s6 := hq _ _ d6
  have s7 := hq _ _ d7
  have s8 := hq _ _ d8
  obtain ⟨q0, q1, q2, q3, q4, q5, q6, q7, q8, q9⟩ : W1.cell? ⟨w.heap.size, 0, none⟩ = some (.int .i64 2) ∧ W1.cell? ⟨w.heap.size, 1, none⟩ = some (.string x.n) ∧ W1.cell? ⟨w.heap.size, 2, none⟩ = some (.slice Ag x.gr.length cg) ∧ W1.cell? ⟨w.heap.size, 3, none⟩ = some (.slice Af x.sn.length cf) ∧ W1.cell? ⟨w.heap.size, 4, none⟩ = some (.string x.go) ∧ W1.cell? ⟨w.heap.size, 5, none⟩ = some (.int .i64 x.st) ∧ W1.cell? ⟨w.heap.size, 6, none⟩ = some (.int .i64 x.r.e) ∧ W1.cell? ⟨w.heap.size, 7, none⟩ = some (.string x.r.at_) ∧ W1.cell? ⟨w.heap.size, 8, none⟩ = some (.string x.r.tx) ∧ W1.cell? ⟨w.heap.size, 9, none⟩ = some (.slice Ar x.r.fs.length cr) := ⟨cell_of_row W1 w.heap.size 0 _ _ _ k1, cell_of_row W1 w.heap.size 1 _ _ _ k1, cell_of_row W1 w.heap.size 2 _ _ _ k1, cell_of_row W1 w.heap.size 3 _ _ _ k1, cell_of_row W1 w.heap.size 4 _ _ _ k1, cell_of_row W1 w.heap.size 5 _ _ _ k1, cell_of_row W1 w.heap.size 6 _ _ _ k1, cell_of_row W1 w.heap.size 7 _ _ _ k1, cell_of_row W1 w.heap.size 8 _ _ _ k1, cell_of_row W1 w.heap.size 9 _ _ _ k1⟩
  have lw1 := Lg.lt_heap k1
  have Q0 : ∀ o, (W1.alloc o).cell? ⟨w.heap.size, 0, none⟩ = some (.int .i64 2) := fun o => (World.cell?_alloc_lt W1 o ⟨w.heap.size, 0, none⟩ lw1).trans q0
  have Q6 : ∀ o, (W1.alloc o).cell? ⟨w.heap.size, 6, none⟩ = some (.int .i64 x.r.e) := fun o => (World.cell?_alloc_lt W1 o ⟨w.heap.size, 6, none⟩ lw1).trans q6
  have Q7 : ∀ o, (W1.alloc o).cell? ⟨w.heap.size, 7, none⟩ = some (.string x.r.at_) := fun o => (World.cell?_alloc_lt W1 o ⟨w.heap.size, 7, none⟩ lw1).trans q7
  have Q8 : ∀ o, (W1.alloc o).cell? ⟨w.heap.size, 8, none⟩ = some (.string x.r.tx) := fun o => (World.cell?_alloc_lt W1 o ⟨w.heap.size, 8, none⟩ lw1).trans q8
  have Q9 : ∀ o, (W1.alloc o).cell? ⟨w.heap.size, 9, none⟩ = some (.slice Ar x.r.fs.length cr) := fun o => (World.cell?_alloc_lt W1 o ⟨w.heap.size, 9, none⟩ lw1).trans q9
  have HV := Lib.hid hv
  have HR := Lib.hid hrd
  have HP := Lib.hid hp
  have HPS := Lib.hid hps
  clear ht hv hrd hp hps h1 AT d0 d1 d2 d3 d4 d5 d6 d7 d8 hq k1
  generalize l[i] = o at *
  have hs : o.st = 1 := by
    have := HT.out
    by_cases h : o.st = 1
    · exact h
    · rw [if_neg h] at this; cases this
  have hy : y0 = { o with st := 2 } := by
    have := HT.out
    rw [if_pos hs] at this; injection this with this; exact this.symm
  have js : (o.st != 1) = false := by simp [hs]
  have HY := Lib.hid hy
  have PY : Hid (Parts w ({ o with st := 2 } : Op) Og og Of of Or or_) := Lib.hid ⟨HPS.out.g, HPS.out.f, HPS.out.r, HPS.out.gc, HPS.out.fc, HPS.out.rc⟩
  clear HT hs hy
  obtain ⟨WY, eY⟩ : ∃ WY, WY = W1.alloc (.cells #[.string o.n, .slice Og o.gr.length og, .slice Of o.sn.length of, .string o.go, .int .i64 2, .int .i64 o.r.e, .string o.r.at_, .string o.r.tx, .slice Or o.r.fs.length or_] 29) := ⟨_, rfl⟩
  have hbY : Below w.heap.size w WY := by rw [eY]; exact hb1.alloc hb1.size _
  have kY : WY.heap[W1.heap.size]? = some (.cells #[.string o.n, .slice Og o.gr.length og, .slice Of o.sn.length of, .string o.go, .int .i64 2, .int .i64 o.r.e, .string o.r.at_, .string o.r.tx, .slice Or o.r.fs.length or_] 29 (0, 0)) := by rw [eY]; exact heap_alloc_new W1 _
  have KY : Hid (∀ W, Below WY.heap.size WY W → W.heap[W1.heap.size]? = some (.cells #[.string o.n, .slice Og o.gr.length og, .slice Of o.sn.length of, .string o.go, .int .i64 2, .int .i64 o.r.e, .string o.r.at_, .string o.r.tx, .slice Or o.r.fs.length or_] 29 (0, 0))) := Lib.hid fun W hW => (hW.block _ (Lg.lt_heap kY)).trans kY
  have RW := Lib.hid ((HR.out.below hbY).more hbY.size)
  have HC := Lib.hid (OVs.cell HV.out)
  have R1 := Lib.hid (reads_upto RW.out (i := i) (by omega))
  have R2 := Lib.hid (RW.out.cut (k := i + 1) (cap := c) (by omega) hlc)
  have C1 : Hid (∀ u ∈ cs.take (i * 9), u.oneCell' = true) := Lib.hid fun u hu => HC.out u (List.mem_of_mem_take hu)
  have C2 : Hid (∀ u ∈ cs.drop ((i + 1) * 9), u.oneCell' = true) := Lib.hid fun u hu => HC.out u (List.mem_of_mem_drop hu)
  have FC : Hid (∀ u ∈ cellsOf ({ o with st := 2 } : Op) Og og Of of Or or_, u.oneCell' = true) := Lib.hid (OV.cell (w := w) ⟨Og, og, Of, of, Or, or_, rfl, PY.out⟩)
  obtain ⟨z, hzi, hzs⟩ := infoO
  obtain ⟨i0, hi0, hz0, hz1, hz2⟩ := Lg.info_parts hzi
  unfold maxLen at hcm
  have i2 : (i : Int) ≤ (c : Int) := by omega
  have i3 : (i : Int) + 1 ≤ (l.length : Int) := by omega
  have i4 : (l.length : Int) ≤ (c : Int) := by omega
  have i5 : (c : Int) ≤ 9223372036854775807 := by omega
  have i1 : (0 : Int) ≤ (i : Int) := by omega
  have HBY := Lib.hid hbY
  clear hzi kY hbY
  unfold evOf
  go_enter Tryz.func18, Tryz.ntmps18
  go_wp2_with (first
    | (go_at_call 47; rw [← eW]; clear eW; (with_reducible refine (ATH.out).mono ?_); rintro e w1 ⟨rfl, rfl⟩)
    | (at_builtin; rw [← eY]; clear eY; refine wpList_append_any _ rfl (.tmp 66) (.tmp 69) 22 rfl WY.heap.size 29 i0 z 9 152 Tryz.underlying22 hi0 hz0 hz1 hz2 hzs (by decide) (.slice none 0 0) 0 [] rfl (World.ownsRow_nil _ _ _ _) WY.heap.size (some ad) i c (cs.take (i * 9)) rfl R1.out C1.out (by simp only [maxLen]; omega) (by omega) (Nat.le_refl _) ?_; intro v1 w5 hown hg hat; have hb5 : Below WY.heap.size WY w5 := (Below.refl _ _).grown hg (Nat.le_refl _) (fun k hk => by simp [Value.ownBlock] at hk); simp only [Nat.zero_add, List.nil_append] at hown; have HO1 := Lib.hid hown; obtain ⟨y0', y1', y2', y3', y4', y5', y6', y7', y8', _⟩ := nine (KY.out _ hb5); clear hown hg hat)
    | (at_builtin; refine wpList_append_any _ rfl (.tmp 71) (.tmp 73) 22 rfl WY.heap.size 29 i0 z 9 152 Tryz.underlying22 hi0 hz0 hz1 hz2 hzs (by decide) v1 i (cs.take (i * 9)) (by rfl) (HO1.out.alloc _) _ (some ⟨w5.heap.size, 0, none⟩) 1 1 (cellsOf ({ o with st := 2 } : Op) Og og Of of Or or_) (by rfl) (reads9 (x := ({ o with st := 2 } : Op)) (heap_alloc_new w5 _)) FC.out (by simp only [maxLen]; omega) (by omega) (by have := hb5.size; simp; omega) ?_; intro v2 w6 hown2 hg2 hat2; have hb6 : Below WY.heap.size WY w6 := app_belowO (hb5.alloc hb5.size _) (HO1.out.alloc _) hg2; have HO2 := Lib.hid hown2; clear hown2 hg2 hat2)
    | (at_builtin; refine wpList_append_any _ rfl (.tmp 75) (.tmp 79) 22 rfl WY.heap.size 29 i0 z 9 152 Tryz.underlying22 hi0 hz0 hz1 hz2 hzs (by decide) v2 (i + 1) (cs.take (i * 9) ++ cellsOf ({ o with st := 2 } : Op) Og og Of of Or or_) (by rfl) HO2.out WY.heap.size _ _ _ (cs.drop ((i + 1) * 9)) (by rfl) (R2.out.below hb6) C2.out (by simp only [maxLen]; omega) (by omega) hb6.size ?_; intro v3 w7 hown3 hg3 hat3; have hb7 : Below WY.heap.size WY w7 := app_belowO hb6 HO2.out hg3; have HO3 := Lib.hid hown3; clear hown3 hg3 hat3))
  all_goals
    go_ret2
    rw [HY.out]
    exact rput_fin (HBY.out.trans (hb7.mono HBY.out.size)) HV.out PY.out hi HO3.out
set_option maxHeartbeats 8000000 in
theorem rapply_bad3 (A : Option Addr) (l : List Op) (c : Nat) (x : Op) (Ag : Option Addr) (cg : Nat) (Af : Option Addr) (cf : Nat) (Ar : Option Addr) (cr : Nat) (w : World) (hr : Ops w A l) (hll : l.length ≤ 1000) (hlc : l.length ≤ c) (hcm : c ≤ maxLen) (hp : Parts w x Ag cg Af cf Ar cr) {i : Nat} (hi : i < l.length) (h1 : idx (named x.n) l = i) (ht : turned l[i] ⟨3, x⟩ = none) :
    Calls Tryz.prog 18 #[.slice A l.length c, evOf 3 x Ag cg Af cf Ar cr] w (ApplySays [] 43 w) := by
  obtain ⟨W1, eW⟩ : ∃ W1, W1 = w.alloc (.cells #[.int .i64 3, .string x.n, .slice Ag x.gr.length cg, .slice Af x.sn.length cf, .string x.go, .int .i64 x.st, .int .i64 x.r.e, .string x.r.at_, .string x.r.tx, .slice Ar x.r.fs.length cr] 31) := ⟨_, rfl⟩
  have hb1 : Below w.heap.size w W1 := by rw [eW]; exact (Below.refl _ _).alloc (Nat.le_refl _) _
  have k1 : W1.heap[w.heap.size]? = some (.cells #[.int .i64 3, .string x.n, .slice Ag x.gr.length cg, .slice Af x.sn.length cf, .string x.go, .int .i64 x.st, .int .i64 x.r.e, .string x.r.at_, .string x.r.tx, .slice Ar x.r.fs.length cr] 31 (0, 0)) := by rw [eW]; exact heap_alloc_new w _
  have AT := rat_any A l c x.n W1 (hr.below hb1) (by omega)
  rw [h1] at AT
  have ATH := Lib.hid AT
  have n0 : ¬ (i : Int) < 0 := by omega
  have hiI : (i : Int) < (l.length : Int) := by omega
  obtain ⟨cs, hv, hrd⟩ := hr
  obtain ⟨ad, Og, og, Of, of, Or, or_, rfl, had, hps, d0, d1, d2, d3, d4, d5, d6, d7, d8⟩ := Ops.nine_at (⟨cs, hv, hrd⟩ : Ops w A l) hi
  have HT : Hid ((if l[i].st = 2 then some { l[i] with st := 3, r := x.r } else none) = none) := Lib.hid ht
  have hq : ∀ j u, w.cell? ⟨(ad.add (i * 9)).block, j, none⟩ = some u → W1.cell? ⟨(ad.add (i * 9)).block, j, none⟩ = some u := fun j u h => (hb1.cell (by show (ad.add (i * 9)).block < _; rw [block_of_add]; exact had)).trans h
  have s0 : W1.cell? (ad.add (i * 9)) = some (.string l[i].n) := (hb1.cell (by rw [block_of_add]; exact had)).trans d0
  have s1 := hq _ _ d1
  have s2 := hq _ _ d2
  have s3 := hq _ _ d3
  have s4 := hq _ _ d4
  have s5 := hq _ _ d5
  have s6 := hq _ _ d6
  have s7 := hq _ _ d7
  have s8 := hq _ _ d8
  obtain ⟨q0, q1, q2, q3, q4, q5, q6, q7, q8, q9⟩ : W1.cell? ⟨w.heap.size, 0, none⟩ = some (.int .i64 3) ∧ W1.cell? ⟨w.heap.size, 1, none⟩ = some (.string x.n) ∧ W1.cell? ⟨w.heap.size, 2, none⟩ = some (.slice Ag x.gr.length cg) ∧ W1.cell? ⟨w.heap.size, 3, none⟩ = some (.slice Af x.sn.length cf) ∧ W1.cell? ⟨w.heap.size, 4, none⟩ = some (.string x.go) ∧ W1.cell? ⟨w.heap.size, 5, none⟩ = some (.int .i64 x.st) ∧ W1.cell? ⟨w.heap.size, 6, none⟩ = some (.int .i64 x.r.e) ∧ W1.cell? ⟨w.heap.size, 7, none⟩ = some (.string x.r.at_) ∧ W1.cell? ⟨w.heap.size, 8, none⟩ = some (.string x.r.tx) ∧ W1.cell? ⟨w.heap.size, 9, none⟩ = some (.slice Ar x.r.fs.length cr) := ⟨cell_of_row W1 w.heap.size 0 _ _ _ k1, cell_of_row W1 w.heap.size 1 _ _ _ k1, cell_of_row W1 w.heap.size 2 _ _ _ k1, cell_of_row W1 w.heap.size 3 _ _ _ k1, cell_of_row W1 w.heap.size 4 _ _ _ k1, cell_of_row W1 w.heap.size 5 _ _ _ k1, cell_of_row W1 w.heap.size 6 _ _ _ k1, cell_of_row W1 w.heap.size 7 _ _ _ k1, cell_of_row W1 w.heap.size 8 _ _ _ k1, cell_of_row W1 w.heap.size 9 _ _ _ k1⟩
  have lw1 := Lg.lt_heap k1
  have Q0 : ∀ o, (W1.alloc o).cell? ⟨w.heap.size, 0, none⟩ = some (.int .i64 3) := fun o => (World.cell?_alloc_lt W1 o ⟨w.heap.size, 0, none⟩ lw1).trans q0
  have Q6 : ∀ o, (W1.alloc o).cell? ⟨w.heap.size, 6, none⟩ = some (.int .i64 x.r.e) := fun o => (World.cell?_alloc_lt W1 o ⟨w.heap.size, 6, none⟩ lw1).trans q6
  have Q7 : ∀ o, (W1.alloc o).cell? ⟨w.heap.size, 7, none⟩ = some (.string x.r.at_) := fun o => (World.cell?_alloc_lt W1 o ⟨w.heap.size, 7, none⟩ lw1).trans q7
  have Q8 : ∀ o, (W1.alloc o).cell? ⟨w.heap.size, 8, none⟩ = some (.string x.r.tx) := fun o => (World.cell?_alloc_lt W1 o ⟨w.heap.size, 8, none⟩ lw1).trans q8
  have Q9 : ∀ o, (W1.alloc o).cell? ⟨w.heap.size, 9, none⟩ = some (.slice Ar x.r.fs.length cr) := fun o => (World.cell?_alloc_lt W1 o ⟨w.heap.size, 9, none⟩ lw1).trans q9
  have HV := Lib.hid hv
  have HR := Lib.hid hrd
  have HP := Lib.hid hp
  have HPS := Lib.hid hps
  clear ht hv hrd hp hps h1 AT d0 d1 d2 d3 d4 d5 d6 d7 d8 hq k1
  generalize l[i] = o at *
  have hs : ¬ o.st = 2 := fun h => by
    have := HT.out
    rw [if_pos h] at this; cases this
  have js : (o.st != 2) = true := by simpa using hs
  clear HT hs
  unfold evOf
  go_enter Tryz.func18, Tryz.ntmps18
  go_wp2_with (go_at_call 47; rw [← eW]; clear eW; (with_reducible refine (ATH.out).mono ?_); rintro e w1 ⟨rfl, rfl⟩)
  go_ret2
  exact ApplySays.none_ rfl (hb1.alloc hb1.size _)
set_option maxHeartbeats 8000000 in
theorem rapply_put3 (A : Option Addr) (l : List Op) (c : Nat) (x : Op) (Ag : Option Addr) (cg : Nat) (Af : Option Addr) (cf : Nat) (Ar : Option Addr) (cr : Nat) (w : World) (hr : Ops w A l) (hll : l.length ≤ 1000) (hlc : l.length ≤ c) (hcm : c ≤ maxLen) (hp : Parts w x Ag cg Af cf Ar cr) {i : Nat} (hi : i < l.length) (h1 : idx (named x.n) l = i) {y0 : Op} (ht : turned l[i] ⟨3, x⟩ = some y0) :
    Calls Tryz.prog 18 #[.slice A l.length c, evOf 3 x Ag cg Af cf Ar cr] w (ApplySays (l.set i y0) 0 w) := by
  obtain ⟨W1, eW⟩ : ∃ W1, W1 = w.alloc (.cells #[.int .i64 3, .string x.n, .slice Ag x.gr.length cg, .slice Af x.sn.length cf, .string x.go, .int .i64 x.st, .int .i64 x.r.e, .string x.r.at_, .string x.r.tx, .slice Ar x.r.fs.length cr] 31) := ⟨_, rfl⟩
  have hb1 : Below w.heap.size w W1 := by rw [eW]; exact (Below.refl _ _).alloc (Nat.le_refl _) _
  have k1 : W1.heap[w.heap.size]? = some (.cells #[.int .i64 3, .string x.n, .slice Ag x.gr.length cg, .slice Af x.sn.length cf, .string x.go, .int .i64 x.st, .int .i64 x.r.e, .string x.r.at_, .string x.r.tx, .slice Ar x.r.fs.length cr] 31 (0, 0)) := by rw [eW]; exact heap_alloc_new w _
  have AT := rat_any A l c x.n W1 (hr.below hb1) (by omega)
  rw [h1] at AT
  have ATH := Lib.hid AT
  have n0 : ¬ (i : Int) < 0 := by omega
  have hiI : (i : Int) < (l.length : Int) := by omega
  obtain ⟨cs, hv, hrd⟩ := hr
  obtain ⟨ad, Og, og, Of, of, Or, or_, rfl, had, hps, d0, d1, d2, d3, d4, d5, d6, d7, d8⟩ := Ops.nine_at (⟨cs, hv, hrd⟩ : Ops w A l) hi
  have HT : Hid ((if l[i].st = 2 then some { l[i] with st := 3, r := x.r } else none) = some y0) := Lib.hid ht
  have hq : ∀ j u, w.cell? ⟨(ad.add (i * 9)).block, j, none⟩ = some u → W1.cell? ⟨(ad.add (i * 9)).block, j, none⟩ = some u := fun j u h => (hb1.cell (by show (ad.add (i * 9)).block < _; rw [block_of_add]; exact had)).trans h
  have s0 : W1.cell? (ad.add (i * 9)) = some (.string l[i].n) := (hb1.cell (by rw [block_of_add]; exact had)).trans d0
  have s1 := hq _ _ d1
  have s2 := hq _ _ d2
  have s3 := hq _ _ d3
  have s4 := hq _ _ d4
  have s5 := hq _ _ d5
  have s6 := hq _ _ d6
  have s7 := hq _ _ d7
  have s8 := hq _ _ d8
  obtain ⟨q0, q1, q2, q3, q4, q5, q6, q7, q8, q9⟩ : W1.cell? ⟨w.heap.size, 0, none⟩ = some (.int .i64 3) ∧ W1.cell? ⟨w.heap.size, 1, none⟩ = some (.string x.n) ∧ W1.cell? ⟨w.heap.size, 2, none⟩ = some (.slice Ag x.gr.length cg) ∧ W1.cell? ⟨w.heap.size, 3, none⟩ = some (.slice Af x.sn.length cf) ∧ W1.cell? ⟨w.heap.size, 4, none⟩ = some (.string x.go) ∧ W1.cell? ⟨w.heap.size, 5, none⟩ = some (.int .i64 x.st) ∧ W1.cell? ⟨w.heap.size, 6, none⟩ = some (.int .i64 x.r.e) ∧ W1.cell? ⟨w.heap.size, 7, none⟩ = some (.string x.r.at_) ∧ W1.cell? ⟨w.heap.size, 8, none⟩ = some (.string x.r.tx) ∧ W1.cell? ⟨w.heap.size, 9, none⟩ = some (.slice Ar x.r.fs.length cr) := ⟨cell_of_row W1 w.heap.size 0 _ _ _ k1, cell_of_row W1 w.heap.size 1 _ _ _ k1, cell_of_row W1 w.heap.size 2 _ _ _ k1, cell_of_row W1 w.heap.size 3 _ _ _ k1, cell_of_row W1 w.heap.size 4 _ _ _ k1, cell_of_row W1 w.heap.size 5 _ _ _ k1, cell_of_row W1 w.heap.size 6 _ _ _ k1, cell_of_row W1 w.heap.size 7 _ _ _ k1, cell_of_row W1 w.heap.size 8 _ _ _ k1, cell_of_row W1 w.heap.size 9 _ _ _ k1⟩
  have lw1 := Lg.lt_heap k1
  have Q0 : ∀ o, (W1.alloc o).cell? ⟨w.heap.size, 0, none⟩ = some (.int .i64 3) := fun o => (World.cell?_alloc_lt W1 o ⟨w.heap.size, 0, none⟩ lw1).trans q0
  have Q6 : ∀ o, (W1.alloc o).cell? ⟨w.heap.size, 6, none⟩ = some (.int .i64 x.r.e) := fun o => (World.cell?_alloc_lt W1 o ⟨w.heap.size, 6, none⟩ lw1).trans q6
  have Q7 : ∀ o, (W1.alloc o).cell? ⟨w.heap.size, 7, none⟩ = some (.string x.r.at_) := fun o => (World.cell?_alloc_lt W1 o ⟨w.heap.size, 7, none⟩ lw1).trans q7
  have Q8 : ∀ o, (W1.alloc o).cell? ⟨w.heap.size, 8, none⟩ = some (.string x.r.tx) := fun o => (World.cell?_alloc_lt W1 o ⟨w.heap.size, 8, none⟩ lw1).trans q8
  have Q9 : ∀ o, (W1.alloc o).cell? ⟨w.heap.size, 9, none⟩ = some (.slice Ar x.r.fs.length cr) := fun o => (World.cell?_alloc_lt W1 o ⟨w.heap.size, 9, none⟩ lw1).trans q9
  have HV := Lib.hid hv
  have HR := Lib.hid hrd
  have HP := Lib.hid hp
  have HPS := Lib.hid hps
  clear ht hv hrd hp hps h1 AT d0 d1 d2 d3 d4 d5 d6 d7 d8 hq k1
  generalize l[i] = o at *
  have hs : o.st = 2 := by
    have := HT.out
    by_cases h : o.st = 2
    · exact h
    · rw [if_neg h] at this; cases this
  have hy : y0 = { o with st := 3, r := x.r } := by
    have := HT.out
    rw [if_pos hs] at this; injection this with this; exact this.symm
  have js : (o.st != 2) = false := by simp [hs]
  have HY := Lib.hid hy
  have PY : Hid (Parts w ({ o with st := 3, r := x.r } : Op) Og og Of of Ar cr) := Lib.hid ⟨HPS.out.g, HPS.out.f, HP.out.r, HPS.out.gc, HPS.out.fc, HP.out.rc⟩
  clear HT hs hy
  obtain ⟨WY, eY⟩ : ∃ WY, WY = W1.alloc (.cells #[.string o.n, .slice Og o.gr.length og, .slice Of o.sn.length of, .string o.go, .int .i64 3, .int .i64 x.r.e, .string x.r.at_, .string x.r.tx, .slice Ar x.r.fs.length cr] 29) := ⟨_, rfl⟩
  have hbY : Below w.heap.size w WY := by rw [eY]; exact hb1.alloc hb1.size _
  have kY : WY.heap[W1.heap.size]? = some (.cells #[.string o.n, .slice Og o.gr.length og, .slice Of o.sn.length of, .string o.go, .int .i64 3, .int .i64 x.r.e, .string x.r.at_, .string x.r.tx, .slice Ar x.r.fs.length cr] 29 (0, 0)) := by rw [eY]; exact heap_alloc_new W1 _
  have KY : Hid (∀ W, Below WY.heap.size WY W → W.heap[W1.heap.size]? = some (.cells #[.string o.n, .slice Og o.gr.length og, .slice Of o.sn.length of, .string o.go, .int .i64 3, .int .i64 x.r.e, .string x.r.at_, .string x.r.tx, .slice Ar x.r.fs.length cr] 29 (0, 0))) := Lib.hid fun W hW => (hW.block _ (Lg.lt_heap kY)).trans kY
  have RW := Lib.hid ((HR.out.below hbY).more hbY.size)
  have HC := Lib.hid (OVs.cell HV.out)
  have R1 := Lib.hid (reads_upto RW.out (i := i) (by omega))
  have R2 := Lib.hid (RW.out.cut (k := i + 1) (cap := c) (by omega) hlc)
  have C1 : Hid (∀ u ∈ cs.take (i * 9), u.oneCell' = true) := Lib.hid fun u hu => HC.out u (List.mem_of_mem_take hu)
  have C2 : Hid (∀ u ∈ cs.drop ((i + 1) * 9), u.oneCell' = true) := Lib.hid fun u hu => HC.out u (List.mem_of_mem_drop hu)
  have FC : Hid (∀ u ∈ cellsOf ({ o with st := 3, r := x.r } : Op) Og og Of of Ar cr, u.oneCell' = true) := Lib.hid (OV.cell (w := w) ⟨Og, og, Of, of, Ar, cr, rfl, PY.out⟩)
  obtain ⟨z, hzi, hzs⟩ := infoO
  obtain ⟨i0, hi0, hz0, hz1, hz2⟩ := Lg.info_parts hzi
  unfold maxLen at hcm
  have i2 : (i : Int) ≤ (c : Int) := by omega
  have i3 : (i : Int) + 1 ≤ (l.length : Int) := by omega
  have i4 : (l.length : Int) ≤ (c : Int) := by omega
  have i5 : (c : Int) ≤ 9223372036854775807 := by omega
  have i1 : (0 : Int) ≤ (i : Int) := by omega
  have HBY := Lib.hid hbY
  clear hzi kY hbY
  unfold evOf
  go_enter Tryz.func18, Tryz.ntmps18
  go_wp2_with (first
    | (go_at_call 47; rw [← eW]; clear eW; (with_reducible refine (ATH.out).mono ?_); rintro e w1 ⟨rfl, rfl⟩)
    | (at_builtin; rw [← eY]; clear eY; refine wpList_append_any _ rfl (.tmp 66) (.tmp 69) 22 rfl WY.heap.size 29 i0 z 9 152 Tryz.underlying22 hi0 hz0 hz1 hz2 hzs (by decide) (.slice none 0 0) 0 [] rfl (World.ownsRow_nil _ _ _ _) WY.heap.size (some ad) i c (cs.take (i * 9)) rfl R1.out C1.out (by simp only [maxLen]; omega) (by omega) (Nat.le_refl _) ?_; intro v1 w5 hown hg hat; have hb5 : Below WY.heap.size WY w5 := (Below.refl _ _).grown hg (Nat.le_refl _) (fun k hk => by simp [Value.ownBlock] at hk); simp only [Nat.zero_add, List.nil_append] at hown; have HO1 := Lib.hid hown; obtain ⟨y0', y1', y2', y3', y4', y5', y6', y7', y8', _⟩ := nine (KY.out _ hb5); clear hown hg hat)
    | (at_builtin; refine wpList_append_any _ rfl (.tmp 71) (.tmp 73) 22 rfl WY.heap.size 29 i0 z 9 152 Tryz.underlying22 hi0 hz0 hz1 hz2 hzs (by decide) v1 i (cs.take (i * 9)) (by rfl) (HO1.out.alloc _) _ (some ⟨w5.heap.size, 0, none⟩) 1 1 (cellsOf ({ o with st := 3, r := x.r } : Op) Og og Of of Ar cr) (by rfl) (reads9 (x := ({ o with st := 3, r := x.r } : Op)) (heap_alloc_new w5 _)) FC.out (by simp only [maxLen]; omega) (by omega) (by have := hb5.size; simp; omega) ?_; intro v2 w6 hown2 hg2 hat2; have hb6 : Below WY.heap.size WY w6 := app_belowO (hb5.alloc hb5.size _) (HO1.out.alloc _) hg2; have HO2 := Lib.hid hown2; clear hown2 hg2 hat2)
    | (at_builtin; refine wpList_append_any _ rfl (.tmp 75) (.tmp 79) 22 rfl WY.heap.size 29 i0 z 9 152 Tryz.underlying22 hi0 hz0 hz1 hz2 hzs (by decide) v2 (i + 1) (cs.take (i * 9) ++ cellsOf ({ o with st := 3, r := x.r } : Op) Og og Of of Ar cr) (by rfl) HO2.out WY.heap.size _ _ _ (cs.drop ((i + 1) * 9)) (by rfl) (R2.out.below hb6) C2.out (by simp only [maxLen]; omega) (by omega) hb6.size ?_; intro v3 w7 hown3 hg3 hat3; have hb7 : Below WY.heap.size WY w7 := app_belowO hb6 HO2.out hg3; have HO3 := Lib.hid hown3; clear hown3 hg3 hat3))
  all_goals
    go_ret2
    rw [HY.out]
    exact rput_fin (HBY.out.trans (hb7.mono HBY.out.size)) HV.out PY.out hi HO3.out
set_option maxHeartbeats 8000000 in
theorem rapply_bad4 (A : Option Addr) (l : List Op) (c : Nat) (x : Op) (Ag : Option Addr) (cg : Nat) (Af : Option Addr) (cf : Nat) (Ar : Option Addr) (cr : Nat) (w : World) (hr : Ops w A l) (hll : l.length ≤ 1000) (hlc : l.length ≤ c) (hcm : c ≤ maxLen) (hp : Parts w x Ag cg Af cf Ar cr) {i : Nat} (hi : i < l.length) (h1 : idx (named x.n) l = i) (ht : turned l[i] ⟨4, x⟩ = none) :
    Calls Tryz.prog 18 #[.slice A l.length c, evOf 4 x Ag cg Af cf Ar cr] w (ApplySays [] 43 w) := by
  obtain ⟨W1, eW⟩ : ∃ W1, W1 = w.alloc (.cells #[.int .i64 4, .string x.n, .slice Ag x.gr.length cg, .slice Af x.sn.length cf, .string x.go, .int .i64 x.st, .int .i64 x.r.e, .string x.r.at_, .string x.r.tx, .slice Ar x.r.fs.length cr] 31) := ⟨_, rfl⟩
  have hb1 : Below w.heap.size w W1 := by rw [eW]; exact (Below.refl _ _).alloc (Nat.le_refl _) _
  have k1 : W1.heap[w.heap.size]? = some (.cells #[.int .i64 4, .string x.n, .slice Ag x.gr.length cg, .slice Af x.sn.length cf, .string x.go, .int .i64 x.st, .int .i64 x.r.e, .string x.r.at_, .string x.r.tx, .slice Ar x.r.fs.length cr] 31 (0, 0)) := by rw [eW]; exact heap_alloc_new w _
  have AT := rat_any A l c x.n W1 (hr.below hb1) (by omega)
  rw [h1] at AT
  have ATH := Lib.hid AT
  have n0 : ¬ (i : Int) < 0 := by omega
  have hiI : (i : Int) < (l.length : Int) := by omega
  obtain ⟨cs, hv, hrd⟩ := hr
  obtain ⟨ad, Og, og, Of, of, Or, or_, rfl, had, hps, d0, d1, d2, d3, d4, d5, d6, d7, d8⟩ := Ops.nine_at (⟨cs, hv, hrd⟩ : Ops w A l) hi
  have HT : Hid ((if l[i].st = 3 then none else some { l[i] with st := 4 }) = none) := Lib.hid ht
  have hq : ∀ j u, w.cell? ⟨(ad.add (i * 9)).block, j, none⟩ = some u → W1.cell? ⟨(ad.add (i * 9)).block, j, none⟩ = some u := fun j u h => (hb1.cell (by show (ad.add (i * 9)).block < _; rw [block_of_add]; exact had)).trans h
  have s0 : W1.cell? (ad.add (i * 9)) = some (.string l[i].n) := (hb1.cell (by rw [block_of_add]; exact had)).trans d0
  have s1 := hq _ _ d1
  have s2 := hq _ _ d2
  have s3 := hq _ _ d3
  have s4 := hq _ _ d4
  have s5 := hq _ _ d5
  have s6 := hq _ _ d6
  have s7 := hq _ _ d7
  have s8 := hq _ _ d8
  obtain ⟨q0, q1, q2, q3, q4, q5, q6, q7, q8, q9⟩ : W1.cell? ⟨w.heap.size, 0, none⟩ = some (.int .i64 4) ∧ W1.cell? ⟨w.heap.size, 1, none⟩ = some (.string x.n) ∧ W1.cell? ⟨w.heap.size, 2, none⟩ = some (.slice Ag x.gr.length cg) ∧ W1.cell? ⟨w.heap.size, 3, none⟩ = some (.slice Af x.sn.length cf) ∧ W1.cell? ⟨w.heap.size, 4, none⟩ = some (.string x.go) ∧ W1.cell? ⟨w.heap.size, 5, none⟩ = some (.int .i64 x.st) ∧ W1.cell? ⟨w.heap.size, 6, none⟩ = some (.int .i64 x.r.e) ∧ W1.cell? ⟨w.heap.size, 7, none⟩ = some (.string x.r.at_) ∧ W1.cell? ⟨w.heap.size, 8, none⟩ = some (.string x.r.tx) ∧ W1.cell? ⟨w.heap.size, 9, none⟩ = some (.slice Ar x.r.fs.length cr) := ⟨cell_of_row W1 w.heap.size 0 _ _ _ k1, cell_of_row W1 w.heap.size 1 _ _ _ k1, cell_of_row W1 w.heap.size 2 _ _ _ k1, cell_of_row W1 w.heap.size 3 _ _ _ k1, cell_of_row W1 w.heap.size 4 _ _ _ k1, cell_of_row W1 w.heap.size 5 _ _ _ k1, cell_of_row W1 w.heap.size 6 _ _ _ k1, cell_of_row W1 w.heap.size 7 _ _ _ k1, cell_of_row W1 w.heap.size 8 _ _ _ k1, cell_of_row W1 w.heap.size 9 _ _ _ k1⟩
  have lw1 := Lg.lt_heap k1
  have Q0 : ∀ o, (W1.alloc o).cell? ⟨w.heap.size, 0, none⟩ = some (.int .i64 4) := fun o => (World.cell?_alloc_lt W1 o ⟨w.heap.size, 0, none⟩ lw1).trans q0
  have Q6 : ∀ o, (W1.alloc o).cell? ⟨w.heap.size, 6, none⟩ = some (.int .i64 x.r.e) := fun o => (World.cell?_alloc_lt W1 o ⟨w.heap.size, 6, none⟩ lw1).trans q6
  have Q7 : ∀ o, (W1.alloc o).cell? ⟨w.heap.size, 7, none⟩ = some (.string x.r.at_) := fun o => (World.cell?_alloc_lt W1 o ⟨w.heap.size, 7, none⟩ lw1).trans q7
  have Q8 : ∀ o, (W1.alloc o).cell? ⟨w.heap.size, 8, none⟩ = some (.string x.r.tx) := fun o => (World.cell?_alloc_lt W1 o ⟨w.heap.size, 8, none⟩ lw1).trans q8
  have Q9 : ∀ o, (W1.alloc o).cell? ⟨w.heap.size, 9, none⟩ = some (.slice Ar x.r.fs.length cr) := fun o => (World.cell?_alloc_lt W1 o ⟨w.heap.size, 9, none⟩ lw1).trans q9
  have HV := Lib.hid hv
  have HR := Lib.hid hrd
  have HP := Lib.hid hp
  have HPS := Lib.hid hps
  clear ht hv hrd hp hps h1 AT d0 d1 d2 d3 d4 d5 d6 d7 d8 hq k1
  generalize l[i] = o at *
  have hs : o.st = 3 := by
    have := HT.out
    by_cases h : o.st = 3
    · exact h
    · rw [if_neg h] at this; cases this
  have js : (o.st == 3) = true := by simpa using hs
  clear HT hs
  unfold evOf
  go_enter Tryz.func18, Tryz.ntmps18
  go_wp2_with (go_at_call 47; rw [← eW]; clear eW; (with_reducible refine (ATH.out).mono ?_); rintro e w1 ⟨rfl, rfl⟩)
  go_ret2
  exact ApplySays.none_ rfl (hb1.alloc hb1.size _)
set_option maxHeartbeats 8000000 in
theorem rapply_put4 (A : Option Addr) (l : List Op) (c : Nat) (x : Op) (Ag : Option Addr) (cg : Nat) (Af : Option Addr) (cf : Nat) (Ar : Option Addr) (cr : Nat) (w : World) (hr : Ops w A l) (hll : l.length ≤ 1000) (hlc : l.length ≤ c) (hcm : c ≤ maxLen) (hp : Parts w x Ag cg Af cf Ar cr) {i : Nat} (hi : i < l.length) (h1 : idx (named x.n) l = i) {y0 : Op} (ht : turned l[i] ⟨4, x⟩ = some y0) :
    Calls Tryz.prog 18 #[.slice A l.length c, evOf 4 x Ag cg Af cf Ar cr] w (ApplySays (l.set i y0) 0 w) := by
  obtain ⟨W1, eW⟩ : ∃ W1, W1 = w.alloc (.cells #[.int .i64 4, .string x.n, .slice Ag x.gr.length cg, .slice Af x.sn.length cf, .string x.go, .int .i64 x.st, .int .i64 x.r.e, .string x.r.at_, .string x.r.tx, .slice Ar x.r.fs.length cr] 31) := ⟨_, rfl⟩
  have hb1 : Below w.heap.size w W1 := by rw [eW]; exact (Below.refl _ _).alloc (Nat.le_refl _) _
  have k1 : W1.heap[w.heap.size]? = some (.cells #[.int .i64 4, .string x.n, .slice Ag x.gr.length cg, .slice Af x.sn.length cf, .string x.go, .int .i64 x.st, .int .i64 x.r.e, .string x.r.at_, .string x.r.tx, .slice Ar x.r.fs.length cr] 31 (0, 0)) := by rw [eW]; exact heap_alloc_new w _
  have AT := rat_any A l c x.n W1 (hr.below hb1) (by omega)
  rw [h1] at AT
  have ATH := Lib.hid AT
  have n0 : ¬ (i : Int) < 0 := by omega
  have hiI : (i : Int) < (l.length : Int) := by omega
  obtain ⟨cs, hv, hrd⟩ := hr
  obtain ⟨ad, Og, og, Of, of, Or, or_, rfl, had, hps, d0, d1, d2, d3, d4, d5, d6, d7, d8⟩ := Ops.nine_at (⟨cs, hv, hrd⟩ : Ops w A l) hi
  have HT : Hid ((if l[i].st = 3 then none else some { l[i] with st := 4 }) = some y0) := Lib.hid ht
  have hq : ∀ j u, w.cell? ⟨(ad.add (i * 9)).block, j, none⟩ = some u → W1.cell? ⟨(ad.add (i * 9)).block, j, none⟩ = some u := fun j u h => (hb1.cell (by show (ad.add (i * 9)).block < _; rw [block_of_add]; exact had)).trans h
  have s0 : W1.cell? (ad.add (i * 9)) = some (.string l[i].n) := (hb1.cell (by rw [block_of_add]; exact had)).trans d0
  have s1 := hq _ _ d1
  have s2 := hq _ _ d2
  have s3 := hq _ _ d3
  have s4 := hq _ _ d4
  have s5 := hq _ _ d5
  have s6 := hq _ _ d6
  have s7 := hq _ _ d7
  have s8 := hq _ _ d8
  obtain ⟨q0, q1, q2, q3, q4, q5, q6, q7, q8, q9⟩ : W1.cell? ⟨w.heap.size, 0, none⟩ = some (.int .i64 4) ∧ W1.cell? ⟨w.heap.size, 1, none⟩ = some (.string x.n) ∧ W1.cell? ⟨w.heap.size, 2, none⟩ = some (.slice Ag x.gr.length cg) ∧ W1.cell? ⟨w.heap.size, 3, none⟩ = some (.slice Af x.sn.length cf) ∧ W1.cell? ⟨w.heap.size, 4, none⟩ = some (.string x.go) ∧ W1.cell? ⟨w.heap.size, 5, none⟩ = some (.int .i64 x.st) ∧ W1.cell? ⟨w.heap.size, 6, none⟩ = some (.int .i64 x.r.e) ∧ W1.cell? ⟨w.heap.size, 7, none⟩ = some (.string x.r.at_) ∧ W1.cell? ⟨w.heap.size, 8, none⟩ = some (.string x.r.tx) ∧ W1.cell? ⟨w.heap.size, 9, none⟩ = some (.slice Ar x.r.fs.length cr) := ⟨cell_of_row W1 w.heap.size 0 _ _ _ k1, cell_of_row W1 w.heap.size 1 _ _ _ k1, cell_of_row W1 w.heap.size 2 _ _ _ k1, cell_of_row W1 w.heap.size 3 _ _ _ k1, cell_of_row W1 w.heap.size 4 _ _ _ k1, cell_of_row W1 w.heap.size 5 _ _ _ k1, cell_of_row W1 w.heap.size 6 _ _ _ k1, cell_of_row W1 w.heap.size 7 _ _ _ k1, cell_of_row W1 w.heap.size 8 _ _ _ k1, cell_of_row W1 w.heap.size 9 _ _ _ k1⟩
  have lw1 := Lg.lt_heap k1
  have Q0 : ∀ o, (W1.alloc o).cell? ⟨w.heap.size, 0, none⟩ = some (.int .i64 4) := fun o => (World.cell?_alloc_lt W1 o ⟨w.heap.size, 0, none⟩ lw1).trans q0
  have Q6 : ∀ o, (W1.alloc o).cell? ⟨w.heap.size, 6, none⟩ = some (.int .i64 x.r.e) := fun o => (World.cell?_alloc_lt W1 o ⟨w.heap.size, 6, none⟩ lw1).trans q6
  have Q7 : ∀ o, (W1.alloc o).cell? ⟨w.heap.size, 7, none⟩ = some (.string x.r.at_) := fun o => (World.cell?_alloc_lt W1 o ⟨w.heap.size, 7, none⟩ lw1).trans q7
  have Q8 : ∀ o, (W1.alloc o).cell? ⟨w.heap.size, 8, none⟩ = some (.string x.r.tx) := fun o => (World.cell?_alloc_lt W1 o ⟨w.heap.size, 8, none⟩ lw1).trans q8
  have Q9 : ∀ o, (W1.alloc o).cell? ⟨w.heap.size, 9, none⟩ = some (.slice Ar x.r.fs.length cr) := fun o => (World.cell?_alloc_lt W1 o ⟨w.heap.size, 9, none⟩ lw1).trans q9
  have HV := Lib.hid hv
  have HR := Lib.hid hrd
  have HP := Lib.hid hp
  have HPS := Lib.hid hps
  clear ht hv hrd hp hps h1 AT d0 d1 d2 d3 d4 d5 d6 d7 d8 hq k1
  generalize l[i] = o at *
  have hs : ¬ o.st = 3 := fun h => by
    have := HT.out
    rw [if_pos h] at this; cases this
  have hy : y0 = { o with st := 4 } := by
    have := HT.out
    rw [if_neg hs] at this; injection this with this; exact this.symm
  have js : (o.st == 3) = false := by simpa using hs
  have HY := Lib.hid hy
  have PY : Hid (Parts w ({ o with st := 4 } : Op) Og og Of of Or or_) := Lib.hid ⟨HPS.out.g, HPS.out.f, HPS.out.r, HPS.out.gc, HPS.out.fc, HPS.out.rc⟩
  clear HT hs hy
  obtain ⟨WY, eY⟩ : ∃ WY, WY = W1.alloc (.cells #[.string o.n, .slice Og o.gr.length og, .slice Of o.sn.length of, .string o.go, .int .i64 4, .int .i64 o.r.e, .string o.r.at_, .string o.r.tx, .slice Or o.r.fs.length or_] 29) := ⟨_, rfl⟩
  have hbY : Below w.heap.size w WY := by rw [eY]; exact hb1.alloc hb1.size _
  have kY : WY.heap[W1.heap.size]? = some (.cells #[.string o.n, .slice Og o.gr.length og, .slice Of o.sn.length of, .string o.go, .int .i64 4, .int .i64 o.r.e, .string o.r.at_, .string o.r.tx, .slice Or o.r.fs.length or_] 29 (0, 0)) := by rw [eY]; exact heap_alloc_new W1 _
  have KY : Hid (∀ W, Below WY.heap.size WY W → W.heap[W1.heap.size]? = some (.cells #[.string o.n, .slice Og o.gr.length og, .slice Of o.sn.length of, .string o.go, .int .i64 4, .int .i64 o.r.e, .string o.r.at_, .string o.r.tx, .slice Or o.r.fs.length or_] 29 (0, 0))) := Lib.hid fun W hW => (hW.block _ (Lg.lt_heap kY)).trans kY
  have RW := Lib.hid ((HR.out.below hbY).more hbY.size)
  have HC := Lib.hid (OVs.cell HV.out)
  have R1 := Lib.hid (reads_upto RW.out (i := i) (by omega))
  have R2 := Lib.hid (RW.out.cut (k := i + 1) (cap := c) (by omega) hlc)
  have C1 : Hid (∀ u ∈ cs.take (i * 9), u.oneCell' = true) := Lib.hid fun u hu => HC.out u (List.mem_of_mem_take hu)
  have C2 : Hid (∀ u ∈ cs.drop ((i + 1) * 9), u.oneCell' = true) := Lib.hid fun u hu => HC.out u (List.mem_of_mem_drop hu)
  have FC : Hid (∀ u ∈ cellsOf ({ o with st := 4 } : Op) Og og Of of Or or_, u.oneCell' = true) := Lib.hid (OV.cell (w := w) ⟨Og, og, Of, of, Or, or_, rfl, PY.out⟩)
  obtain ⟨z, hzi, hzs⟩ := infoO
  obtain ⟨i0, hi0, hz0, hz1, hz2⟩ := Lg.info_parts hzi
  unfold maxLen at hcm
  have i2 : (i : Int) ≤ (c : Int) := by omega
  have i3 : (i : Int) + 1 ≤ (l.length : Int) := by omega
  have i4 : (l.length : Int) ≤ (c : Int) := by omega
  have i5 : (c : Int) ≤ 9223372036854775807 := by omega
  have i1 : (0 : Int) ≤ (i : Int) := by omega
  have HBY := Lib.hid hbY
  clear hzi kY hbY
  unfold evOf
  go_enter Tryz.func18, Tryz.ntmps18
  go_wp2_with (first
    | (go_at_call 47; rw [← eW]; clear eW; (with_reducible refine (ATH.out).mono ?_); rintro e w1 ⟨rfl, rfl⟩)
    | (at_builtin; rw [← eY]; clear eY; refine wpList_append_any _ rfl (.tmp 66) (.tmp 69) 22 rfl WY.heap.size 29 i0 z 9 152 Tryz.underlying22 hi0 hz0 hz1 hz2 hzs (by decide) (.slice none 0 0) 0 [] rfl (World.ownsRow_nil _ _ _ _) WY.heap.size (some ad) i c (cs.take (i * 9)) rfl R1.out C1.out (by simp only [maxLen]; omega) (by omega) (Nat.le_refl _) ?_; intro v1 w5 hown hg hat; have hb5 : Below WY.heap.size WY w5 := (Below.refl _ _).grown hg (Nat.le_refl _) (fun k hk => by simp [Value.ownBlock] at hk); simp only [Nat.zero_add, List.nil_append] at hown; have HO1 := Lib.hid hown; obtain ⟨y0', y1', y2', y3', y4', y5', y6', y7', y8', _⟩ := nine (KY.out _ hb5); clear hown hg hat)
    | (at_builtin; refine wpList_append_any _ rfl (.tmp 71) (.tmp 73) 22 rfl WY.heap.size 29 i0 z 9 152 Tryz.underlying22 hi0 hz0 hz1 hz2 hzs (by decide) v1 i (cs.take (i * 9)) (by rfl) (HO1.out.alloc _) _ (some ⟨w5.heap.size, 0, none⟩) 1 1 (cellsOf ({ o with st := 4 } : Op) Og og Of of Or or_) (by rfl) (reads9 (x := ({ o with st := 4 } : Op)) (heap_alloc_new w5 _)) FC.out (by simp only [maxLen]; omega) (by omega) (by have := hb5.size; simp; omega) ?_; intro v2 w6 hown2 hg2 hat2; have hb6 : Below WY.heap.size WY w6 := app_belowO (hb5.alloc hb5.size _) (HO1.out.alloc _) hg2; have HO2 := Lib.hid hown2; clear hown2 hg2 hat2)
    | (at_builtin; refine wpList_append_any _ rfl (.tmp 75) (.tmp 79) 22 rfl WY.heap.size 29 i0 z 9 152 Tryz.underlying22 hi0 hz0 hz1 hz2 hzs (by decide) v2 (i + 1) (cs.take (i * 9) ++ cellsOf ({ o with st := 4 } : Op) Og og Of of Or or_) (by rfl) HO2.out WY.heap.size _ _ _ (cs.drop ((i + 1) * 9)) (by rfl) (R2.out.below hb6) C2.out (by simp only [maxLen]; omega) (by omega) hb6.size ?_; intro v3 w7 hown3 hg3 hat3; have hb7 : Below WY.heap.size WY w7 := app_belowO hb6 HO2.out hg3; have HO3 := Lib.hid hown3; clear hown3 hg3 hat3))
  all_goals
    go_ret2
    rw [HY.out]
    exact rput_fin (HBY.out.trans (hb7.mono HBY.out.size)) HV.out PY.out hi HO3.out
theorem rapply_any (A : Option Addr) (l : List Op) (c : Nat) (k : Int) (x : Op) (Ag : Option Addr) (cg : Nat) (Af : Option Addr) (cf : Nat) (Ar : Option Addr) (cr : Nat) (w : World) (hl : ∀ y ∈ l, OkO y) (hx : OkO x) (hr : Ops w A l) (hll : l.length ≤ 1000) (hlc : l.length ≤ c) (hcm : c ≤ maxLen) (hp : Parts w x Ag cg Af cf Ar cr) (hcap : Caps w Ag x.gr.length) :
    Calls Tryz.prog 18 #[.slice A l.length c, evOf k x Ag cg Af cf Ar cr] w (ApplySays (apply wrongV orderB l ⟨k, x⟩).1 (apply wrongV orderB l ⟨k, x⟩).2 w) := by
  by_cases h1 : k = 1
  · subst h1; exact rapply_sub A l c x Ag cg Af cf Ar cr w hl hx hr hll hlc hp hcap
  · by_cases hk : k = 2 ∨ k = 3 ∨ k = 4
    · rcases idx_cases (named x.n) l with ⟨e1, e2⟩ | ⟨i, hi, e1, e2, hp1, hn⟩
      · exact rapply_noname A l c k x Ag cg Af cf Ar cr w hk hr hll e1 e2
      · cases ht : turned l[i] ⟨k, x⟩ with
        | none =>
          rw [apply_bad hk hi hp1 hn ht]
          rcases hk with rfl | rfl | rfl
          · exact rapply_bad2 A l c x Ag cg Af cf Ar cr w hr hll hlc hcm hp hi e1 ht
          · exact rapply_bad3 A l c x Ag cg Af cf Ar cr w hr hll hlc hcm hp hi e1 ht
          · exact rapply_bad4 A l c x Ag cg Af cf Ar cr w hr hll hlc hcm hp hi e1 ht
        | some y =>
          rw [apply_put hk hi hp1 hn ht]
          rcases hk with rfl | rfl | rfl
          · exact rapply_put2 A l c x Ag cg Af cf Ar cr w hr hll hlc hcm hp hi e1 ht
          · exact rapply_put3 A l c x Ag cg Af cf Ar cr w hr hll hlc hcm hp hi e1 ht
          · exact rapply_put4 A l c x Ag cg Af cf Ar cr w hr hll hlc hcm hp hi e1 ht
    · exact rapply_noarg A l c k x Ag cg Af cf Ar cr w h1 hk
end Go.Proofs.YtnheahologecfaaGreatDoor.Ops
