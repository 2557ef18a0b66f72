/- Joined by mkmerged.py: MnIns, MnLaw2. -/
import Derived.Test.YtdidnlkilleljaaGreatDoorMf36
import Derived.Test.YtdidnlkilleljaaGreatDoorMf29
import Derived.Test.YtdidnlkilleljaaGreatDoorMf15
import Derived.Test.YtdidnlkilleljaaGreatDoorMf39
import Derived.Test.YtdidnlkilleljaaGreatDoorMf14
import Derived.Test.YtdidnlkilleljaaGreatDoorMf38
import Derived.Test.YtdidnlkilleljaaGreatDoorMf19
/- MnIns, what a claim needs of it (prune.py). -/
namespace Go.Proofs.YtdidnlkilleljaaGreatDoor.Mn
open Go.RowKit
open Fs (B checkE)
set_option linter.unusedVariables false
set_option maxRecDepth 100000
theorem ok_fits {t : Tg} (h : t.Ok) : Gr.Fits t := ⟨by have := h.n; omega, by have := h.c; omega, by have := h.dl; omega, by have := h.sl; omega, fun x hx => by have := h.d x hx; omega, fun x hx => by have := h.s x hx; omega⟩
structure CameM (w : World) (T F : Option Addr) (l : List Tg) (snap : List Fl) (c d : Nat) (goal : ByteArray) : Prop where
  env : Lg.Env w
  tg : Gr.Came w T l c
  fl : Fs.Fls w F snap
  fll : snap.length ≤ maxLen
  flz : ∀ f ∈ snap, f.p.size ≤ maxLen ∧ f.d.size ≤ maxLen
  flc : snap.length ≤ d
  gz : goal.size ≤ maxLen
section
variable {w W : World} {T F : Option Addr} {l : List Tg} {snap : List Fl} {c d : Nat} {goal : ByteArray}
theorem CameM.files (h : CameM w T F l snap c d goal) (hb : Below w.heap.size w W) : Fs.Fls W F snap := (h.fl.below hb).more hb.size
theorem CameM.few (h : CameM w T F l snap c d goal) (hb : Below w.heap.size w W) {b : Bool} (hP : b = true ↔ F8.P8 l snap) : Calls Tryz.prog 17 #[.slice T l.length c, .slice F snap.length d] W fun e w' => e = .returned (.bool b) ∧ W = w' :=
  F8.few_is T F l snap c d W h.tg.big (by have := h.fll; unfold maxLen at this; omega) (h.tg.at_.below hb) (fls_root (h.files hb)) h.tg.fit h.flz hP
theorem CameM.build (h : CameM w T F l snap c d goal) (hP : F8.P8 l snap) (hb : Below w.heap.size w W) (fuel : Int) : Calls Tryz.prog 19 #[.slice T l.length c, .slice F snap.length d, .string goal, .int .i64 fuel] W (BuildSays (buildF l snap goal fuel) W) :=
  build_any T F l snap c d goal fuel W (h.env.below hb) (h.tg.at_.below hb) (by have := hP.1; omega) h.tg.len (fun t ht => ok_fits (hP.2.1 t ht)) (h.files hb) (by have := hP.2.2.1; omega) h.flz
theorem CameM.gcheck (h : CameM w T F l snap c d goal) (hP : F8.P8 l snap) (hb : Below w.heap.size w W) : Calls Tryz.prog 18 #[.slice T l.length c] W fun e w' => e = .returned (.int .i64 (Gr.checkF l)) ∧ Below W.heap.size W w' :=
  Gr.pcheck_any T l c W (h.env.below hb) (h.tg.at_.below hb) (by have := hP.1; omega) h.tg.len (fun t ht => ok_fits (hP.2.1 t ht))
theorem CameM.pcheck (h : CameM w T F l snap c d goal) (hb : Below w.heap.size w W) : Calls Tryz.prog 20 #[.slice F snap.length d] W fun e w' => e = .returned (.int .i64 (checkE snap)) ∧ Below W.heap.size W w' :=
  Fs.pcheck_any F snap d W (Bx.fs_env (h.env.below hb)) (h.files hb) h.fll h.flz
theorem CameM.find (h : CameM w T F l snap c d goal) (hP : F8.P8 l snap) (hb : Below w.heap.size w W) (s : ByteArray) : Calls Tryz.prog 21 #[.slice T l.length c, .string s] W (Gr.FindSays l s w W) :=
  Gr.find_any T l c s w W h.tg.at_ hb (by have := hP.1; omega)
theorem CameM.awake (h : CameM w T F l snap c d goal) (hb : Below w.heap.size w W) : Calls Tryz.prog 14 #[] W fun e w' => e = .returned (.bool true) ∧ Below W.heap.size W w' := awake_any W (h.env.below hb)
end
end Go.Proofs.YtdidnlkilleljaaGreatDoor.Mn
/- MnLaw2, what a claim needs of it (prune.py). -/
namespace Go.Proofs.YtdidnlkilleljaaGreatDoor.Mn
open Go.RowKit
open Fs (B checkE)
set_option linter.unusedVariables false
set_option maxRecDepth 100000
theorem fine_check {l : List Fl} (h : Bx.RightF l) : checkE l = 0 := Bx.right_iff.2 h
theorem fine_size {l : List Fl} (h : Bx.RightF l) : l.length ≤ maxLen ∧ ∀ f ∈ l, f.p.size ≤ maxLen ∧ f.d.size ≤ maxLen := by
  refine ⟨by have := h.len; unfold maxLen; omega, fun f hf => ?_⟩
  have h1 := Bx.path_size (h.each f hf).1
  have h2 := (h.each f hf).2
  unfold maxLen
  omega
set_option maxHeartbeats 8000000 in
theorem right_walk (T F : Option Addr) (l : List Tg) (snap : List Fl) (c d : Nat) (goal : ByteArray) (fuel : Int) (w : World) (hC : CameM w T F l snap c d goal) :
    Calls Tryz.prog 6 #[.slice T l.length c, .slice F snap.length d, .agg #[.string goal, .int .i64 fuel]] w fun e w' => e = .returned (.bool true) ∧ Below w.heap.size w w' := by
  have AW := Lib.hid (fun W (hW : Below w.heap.size w W) => hC.awake hW)
  have FE := Lib.hid (fun (b : Bool) (hb : b = true ↔ F8.P8 l snap) W (hW : Below w.heap.size w W) => hC.few hW hb)
  have BU := Lib.hid (fun hP W (hW : Below w.heap.size w W) => hC.build (W := W) hP hW fuel)
  have GC := Lib.hid (fun hP W (hW : Below w.heap.size w W) => hC.gcheck (W := W) hP hW)
  have PC := Lib.hid (fun W (hW : Below w.heap.size w W) => hC.pcheck hW)
  have FD := Lib.hid (fun hP W (hW : Below w.heap.size w W) s => hC.find (W := W) hP hW s)
  have EN := Lib.hid hC.env
  have hgz := hC.gz
  unfold maxLen at hgz
  obtain ⟨W1, eW⟩ : ∃ W1, W1 = w.alloc (.cells #[.string goal, .int .i64 fuel] 41) := ⟨_, rfl⟩
  have hb1 : Below w.heap.size w W1 := by rw [eW]; exact (Below.refl _ _).alloc (Nat.le_refl _) _
  have q1 : W1.heap[w.heap.size]? = some (.cells #[.string goal, .int .i64 fuel] 41 (0, 0)) := by rw [eW]; exact heap_alloc_new w _
  have X1 : Hid (∀ W, Below W1.heap.size W1 W → W.cell? ⟨w.heap.size, 0, none⟩ = some (.string goal) ∧ W.cell? ⟨w.heap.size, 1, none⟩ = some (.int .i64 fuel)) := Lib.hid fun W hW => by
    have q := heap_below hW (lt_heap q1) q1
    exact ⟨(cell_heap q 0).trans rfl, (cell_heap q 1).trans rfl⟩
  have HB := Lib.hid (fun W (hW : Below W1.heap.size W1 W) => hb1.trans (hW.mono hb1.size))
  have hlt := lt_heap q1
  clear hC q1 hb1
  by_cases hP : F8.P8 l snap
  case neg =>
    have FE1 := Lib.hid (FE.out false (by simp [hP]))
    clear FE BU GC PC FD hP
    go_enter Tryz.func6, Tryz.ntmps6
    go_wp2_with (first
      | (go_at_call 17; rw [← eW]; clear eW; (with_reducible refine (FE1.out _ (HB.out _ (Below.refl _ _))).mono ?_); rintro e w2 ⟨rfl, rfl⟩)
      | (go_at_call 14; (with_reducible refine (AW.out _ (HB.out _ (Below.refl _ _))).mono ?_); rintro e w9 ⟨rfl, b9⟩))
    go_ret
    exact ⟨rfl, (HB.out _ (Below.refl _ _)).trans (b9.mono (HB.out _ (Below.refl _ _)).size)⟩
  have FE1 := Lib.hid (FE.out true (by simp [hP]))
  have BU1 := Lib.hid (fun W hW => BU.out hP W (HB.out W hW))
  have GC1 := Lib.hid (fun W hW => GC.out hP W (HB.out W hW))
  have PC1 := Lib.hid (fun W hW => PC.out W (HB.out W hW))
  have FD1 := Lib.hid (fun W hW s => FD.out hP W (HB.out W hW) s)
  have AW1 := Lib.hid (fun W hW => AW.out W (HB.out W hW))
  have BAD := Lib.hid (@build_bad l snap goal fuel)
  have FINE := Lib.hid (@build_fine l snap goal fuel)
  clear FE BU GC PC FD AW hP
  by_cases h100 : 100 < goal.size
  · have i1 : (100 : Int) < (goal.size : Int) := by omega
    obtain ⟨x0, x1⟩ := X1.out W1 (Below.refl _ _)
    clear BAD FINE BU1 GC1 PC1 FD1
    go_enter Tryz.func6, Tryz.ntmps6
    go_wp2_with (first
      | (go_at_call 17; rw [← eW]; clear eW; (with_reducible refine (FE1.out _ (HB.out _ (Below.refl _ _))).mono ?_); rintro e w2 ⟨rfl, rfl⟩)
      | (go_at_call 14; (with_reducible refine (AW1.out _ (Below.refl _ _)).mono ?_); rintro e w9 ⟨rfl, b9⟩))
    go_ret
    exact ⟨rfl, HB.out _ b9⟩
  have i1 : ¬ (100 : Int) < (goal.size : Int) := by omega
  obtain ⟨r, er⟩ : ∃ r, r = buildF l snap goal fuel := ⟨_, rfl⟩
  rw [← er] at BAD FINE BU1
  clear er h100
  obtain ⟨x0, x1⟩ := X1.out W1 (Below.refl _ _)
  go_enter Tryz.func6, Tryz.ntmps6
  go_upto_region 4 with (first
    | (go_at_call 17; rw [← eW]; clear eW; (with_reducible refine (FE1.out _ (HB.out _ (Below.refl _ _))).mono ?_); rintro e w2 ⟨rfl, rfl⟩)
    | (go_at_call 19; (with_reducible refine (BU1.out _ (Below.refl _ _)).mono ?_); rintro e w3 ⟨A3, c3, rfl, f3, hc3, b3⟩; have F3 := Lib.hid f3; clear f3 hc3 x0 x1))
  obtain ⟨V3, eV3⟩ : ∃ V, V = w3.alloc (.cells #[.int .i64 r.err, .string r.at_, .string r.text, .slice A3 r.files.length c3] 37) := ⟨_, rfl⟩
  rw [← eV3]
  have hV3 : Below W1.heap.size W1 V3 := by rw [eV3]; exact b3.alloc b3.size _
  have d3 : Below w3.heap.size w3 V3 := by rw [eV3]; exact (Below.refl _ _).alloc (Nat.le_refl _) _
  have q3 : V3.heap[w3.heap.size]? = some (.cells #[.int .i64 r.err, .string r.at_, .string r.text, .slice A3 r.files.length c3] 37 (0, 0)) := by rw [eV3]; exact heap_alloc_new w3 _
  clear eV3
  have SX : Hid (∀ W, Below V3.heap.size V3 W → (W.cell? ⟨w.heap.size, 0, none⟩ = some (.string goal) ∧ W.cell? ⟨w.heap.size, 1, none⟩ = some (.int .i64 fuel)) ∧ W.cell? ⟨w3.heap.size, 0, none⟩ = some (.int .i64 r.err) ∧ W.cell? ⟨w3.heap.size, 1, none⟩ = some (.string r.at_) ∧ W.cell? ⟨w3.heap.size, 2, none⟩ = some (.string r.text) ∧ W.cell? ⟨w3.heap.size, 3, none⟩ = some (.slice A3 r.files.length c3)) := Lib.hid fun W hW => ⟨X1.out W (hV3.trans (hW.mono hV3.size)), four_res (heap_below hW (lt_heap q3) q3)⟩
  have HV := Lib.hid (fun W (hW : Below V3.heap.size V3 W) => hV3.trans (hW.mono hV3.size))
  have PR : Hid (r.err = 0 → Bx.RightF r.files → ∀ W, Below V3.heap.size V3 W → Calls Tryz.prog 20 #[.slice A3 r.files.length c3] W fun e w' => e = .returned (.int .i64 0) ∧ Below W.heap.size W w') := Lib.hid fun _ hR W hW => by
    have h1 : Below w3.heap.size w3 W := d3.trans (hW.mono d3.size)
    have := Fs.pcheck_any A3 r.files c3 W (Bx.fs_env (EN.out.below (HB.out _ (HV.out _ hW)))) ((F3.out.below h1).more h1.size) (fine_size hR).1 (fine_size hR).2
    rw [fine_check hR] at this
    exact this
  clear q3 d3 F3 b3
  obtain ⟨⟨x0, x1⟩, y0, y1, y2, y3⟩ := SX.out _ (Below.refl _ _)
  go_upto_region 5 with (go_at_call 21; (with_reducible refine (FD1.out _ hV3 _).mono ?_); rintro e w4 ⟨⟨t4, Ad, As, cd, cs, rfl, ht4, hs1, hs2⟩, b4⟩; clear ht4 hs1 hs2 x0 x1 y0 y1 y2 y3)
  -- the ways
  obtain ⟨V4, eV4⟩ : ∃ V, V = w4.alloc (.cells #[.string t4.n, .string t4.c, .slice Ad t4.ds.length cd, .slice As t4.ss.length cs] 47) := ⟨_, rfl⟩
  rw [← eV4]
  have hC : Below V3.heap.size V3 V4 := by rw [eV4]; exact b4.alloc b4.size _
  have hl3 : w3.heap.size < V3.heap.size := by
    have := (SX.out V3 (Below.refl _ _)).2.1
    exact Fs.cell_lt this
  clear eV4 b4 hV3
  have IST := Lib.hid (@Gr.none_isT l goal)
  have ISF := Lib.hid (@isT_of l goal)
  obtain ⟨⟨x0, x1⟩, y0, y1, y2, y3⟩ := SX.out _ hC
  by_cases h1 : Gr.checkF l = 0
  case neg =>
    have d1 : (Gr.checkF l == 0) = false := by simpa using h1
    obtain ⟨ke, kf⟩ := BAD.out (.inl h1)
    have de : (r.err != 0) = true := by simpa using ke
    have hF : r.files.length = 0 := by rw [kf]; rfl
    rw [hF] at SX
    clear ke kf hF BAD FINE PR y0 y1 y2 y3
    obtain ⟨_, y0, y1, y2, y3⟩ := SX.out _ hC
    clear h1
    generalize Gr.checkF l = q at *
    generalize Gr.isT l goal = isb at *
    go_wp2_with (first
      | (go_at_call 18; (with_reducible refine (GC1.out _ (HV.out _ hC)).mono ?_); rintro e w5 ⟨rfl, b5⟩; have hC := hC.trans (b5.mono hC.size); clear x0 x1 y0 y1 y2 y3; obtain ⟨⟨x0, x1⟩, y0, y1, y2, y3⟩ := SX.out _ hC)
      | (go_at_call 14; first | ((with_reducible refine (AW1.out _ (HV.out _ hC)).mono ?_); rintro e w9 ⟨rfl, b9⟩; have hC := hC.trans (b9.mono hC.size)) | ((with_reducible refine (AW1.out _ (HV.out _ (hC.alloc hC.size _))).mono ?_); rintro e w9 ⟨rfl, b9⟩; have hC := (hC.alloc hC.size _).trans (b9.mono (hC.alloc hC.size _).size))))
    go_ret
    exact ⟨rfl, HB.out _ (HV.out _ hC)⟩
  have d1 : (Gr.checkF l == 0) = true := by simpa using h1
  by_cases h2 : checkE snap = 0
  case neg =>
    have d2 : (checkE snap == 0) = false := by simpa using h2
    obtain ⟨ke, kf⟩ := BAD.out (.inr (.inl h2))
    have de : (r.err != 0) = true := by simpa using ke
    have hF : r.files.length = 0 := by rw [kf]; rfl
    rw [hF] at SX
    clear ke kf hF BAD FINE PR y0 y1 y2 y3
    obtain ⟨_, y0, y1, y2, y3⟩ := SX.out _ hC
    clear h1 h2
    generalize Gr.checkF l = q at *
    generalize checkE snap = q2 at *
    generalize Gr.isT l goal = isb at *
    go_wp2_with (first
      | (go_at_call 18; (with_reducible refine (GC1.out _ (HV.out _ hC)).mono ?_); rintro e w5 ⟨rfl, b5⟩; have hC := hC.trans (b5.mono hC.size); clear x0 x1 y0 y1 y2 y3; obtain ⟨⟨x0, x1⟩, y0, y1, y2, y3⟩ := SX.out _ hC)
      | (go_at_call 20; (with_reducible refine (PC1.out _ (HV.out _ hC)).mono ?_); rintro e w6 ⟨rfl, b6⟩; have hC := hC.trans (b6.mono hC.size); clear x0 x1 y0 y1 y2 y3; obtain ⟨⟨x0, x1⟩, y0, y1, y2, y3⟩ := SX.out _ hC)
      | (go_at_call 14; first | ((with_reducible refine (AW1.out _ (HV.out _ hC)).mono ?_); rintro e w9 ⟨rfl, b9⟩; have hC := hC.trans (b9.mono hC.size)) | ((with_reducible refine (AW1.out _ (HV.out _ (hC.alloc hC.size _))).mono ?_); rintro e w9 ⟨rfl, b9⟩; have hC := (hC.alloc hC.size _).trans (b9.mono (hC.alloc hC.size _).size))))
    go_ret
    exact ⟨rfl, HB.out _ (HV.out _ hC)⟩
  have d2 : (checkE snap == 0) = true := by simpa using h2
  by_cases h3 : 1 ≤ fuel
  case neg =>
    have d3 : ¬ (1 : Int) ≤ fuel := h3
    have d3' : decide ((1 : Int) ≤ fuel) = false := decide_eq_false h3
    obtain ⟨ke, kf⟩ := BAD.out (.inr (.inr (.inl (by omega))))
    have de : (r.err != 0) = true := by simpa using ke
    have hF : r.files.length = 0 := by rw [kf]; rfl
    rw [hF] at SX
    clear ke kf hF BAD FINE PR y0 y1 y2 y3
    obtain ⟨_, y0, y1, y2, y3⟩ := SX.out _ hC
    clear h1 h2 h3
    generalize Gr.checkF l = q at *
    generalize checkE snap = q2 at *
    generalize Gr.isT l goal = isb at *
    go_wp2_with (first
      | (go_at_call 18; (with_reducible refine (GC1.out _ (HV.out _ hC)).mono ?_); rintro e w5 ⟨rfl, b5⟩; have hC := hC.trans (b5.mono hC.size); clear x0 x1 y0 y1 y2 y3; obtain ⟨⟨x0, x1⟩, y0, y1, y2, y3⟩ := SX.out _ hC)
      | (go_at_call 20; (with_reducible refine (PC1.out _ (HV.out _ hC)).mono ?_); rintro e w6 ⟨rfl, b6⟩; have hC := hC.trans (b6.mono hC.size); clear x0 x1 y0 y1 y2 y3; obtain ⟨⟨x0, x1⟩, y0, y1, y2, y3⟩ := SX.out _ hC)
      | (go_at_call 14; first | ((with_reducible refine (AW1.out _ (HV.out _ hC)).mono ?_); rintro e w9 ⟨rfl, b9⟩; have hC := hC.trans (b9.mono hC.size)) | ((with_reducible refine (AW1.out _ (HV.out _ (hC.alloc hC.size _))).mono ?_); rintro e w9 ⟨rfl, b9⟩; have hC := (hC.alloc hC.size _).trans (b9.mono (hC.alloc hC.size _).size))))
    go_ret
    exact ⟨rfl, HB.out _ (HV.out _ hC)⟩
  by_cases h4 : fuel ≤ 2000
  case neg =>
    have d4 : ¬ fuel ≤ (2000 : Int) := h4
    have d4' : decide (fuel ≤ (2000 : Int)) = false := decide_eq_false h4
    obtain ⟨ke, kf⟩ := BAD.out (.inr (.inr (.inr (.inl (by omega)))))
    have de : (r.err != 0) = true := by simpa using ke
    have hF : r.files.length = 0 := by rw [kf]; rfl
    rw [hF] at SX
    clear ke kf hF BAD FINE PR y0 y1 y2 y3
    obtain ⟨_, y0, y1, y2, y3⟩ := SX.out _ hC
    clear h1 h2 h4
    generalize Gr.checkF l = q at *
    generalize checkE snap = q2 at *
    generalize Gr.isT l goal = isb at *
    go_wp2_with (first
      | (go_at_call 18; (with_reducible refine (GC1.out _ (HV.out _ hC)).mono ?_); rintro e w5 ⟨rfl, b5⟩; have hC := hC.trans (b5.mono hC.size); clear x0 x1 y0 y1 y2 y3; obtain ⟨⟨x0, x1⟩, y0, y1, y2, y3⟩ := SX.out _ hC)
      | (go_at_call 20; (with_reducible refine (PC1.out _ (HV.out _ hC)).mono ?_); rintro e w6 ⟨rfl, b6⟩; have hC := hC.trans (b6.mono hC.size); clear x0 x1 y0 y1 y2 y3; obtain ⟨⟨x0, x1⟩, y0, y1, y2, y3⟩ := SX.out _ hC)
      | (go_at_call 14; first | ((with_reducible refine (AW1.out _ (HV.out _ hC)).mono ?_); rintro e w9 ⟨rfl, b9⟩; have hC := hC.trans (b9.mono hC.size)) | ((with_reducible refine (AW1.out _ (HV.out _ (hC.alloc hC.size _))).mono ?_); rintro e w9 ⟨rfl, b9⟩; have hC := (hC.alloc hC.size _).trans (b9.mono (hC.alloc hC.size _).size))))
    go_ret
    exact ⟨rfl, HB.out _ (HV.out _ hC)⟩
  have d3' : decide ((1 : Int) ≤ fuel) = true := decide_eq_true h3
  have d4' : decide (fuel ≤ (2000 : Int)) = true := decide_eq_true h4
  by_cases h5 : Gr.find l goal = none
  · have isf := IST.out h5
    obtain ⟨ke, kf⟩ := BAD.out (.inr (.inr (.inr (.inr h5))))
    have de : (r.err != 0) = true := by simpa using ke
    have hF : r.files.length = 0 := by rw [kf]; rfl
    rw [hF] at SX
    clear ke kf hF BAD FINE PR y0 y1 y2 y3
    obtain ⟨_, y0, y1, y2, y3⟩ := SX.out _ hC
    rw [isf]
    clear h1 h2 h5 isf IST ISF
    generalize Gr.checkF l = q at *
    generalize checkE snap = q2 at *
    go_wp2_with (first
      | (go_at_call 18; (with_reducible refine (GC1.out _ (HV.out _ hC)).mono ?_); rintro e w5 ⟨rfl, b5⟩; have hC := hC.trans (b5.mono hC.size); clear x0 x1 y0 y1 y2 y3; obtain ⟨⟨x0, x1⟩, y0, y1, y2, y3⟩ := SX.out _ hC)
      | (go_at_call 20; (with_reducible refine (PC1.out _ (HV.out _ hC)).mono ?_); rintro e w6 ⟨rfl, b6⟩; have hC := hC.trans (b6.mono hC.size); clear x0 x1 y0 y1 y2 y3; obtain ⟨⟨x0, x1⟩, y0, y1, y2, y3⟩ := SX.out _ hC)
      | (go_at_call 14; first | ((with_reducible refine (AW1.out _ (HV.out _ hC)).mono ?_); rintro e w9 ⟨rfl, b9⟩; have hC := hC.trans (b9.mono hC.size)) | ((with_reducible refine (AW1.out _ (HV.out _ (hC.alloc hC.size _))).mono ?_); rintro e w9 ⟨rfl, b9⟩; have hC := (hC.alloc hC.size _).trans (b9.mono (hC.alloc hC.size _).size))))
    go_ret
    exact ⟨rfl, HB.out _ (HV.out _ hC)⟩
  have ist := ISF.out h5
  have FI := Lib.hid (FINE.out h1 h2 h3 h4 h5)
  rw [ist]
  clear h1 h2 h5 ist IST ISF BAD FINE
  by_cases h6 : r.err = 0
  · obtain ⟨g1, g2, g3⟩ := FI.out.good h6
    have PRX := Lib.hid (PR.out h6 g1)
    have de : (r.err != 0) = false := by simpa using h6
    have de2 : (r.err == 0) = true := by simpa using h6
    rw [g2, g3] at SX
    clear y0 y1 y2 y3 g1 g2 g3 h6 FI PR
    obtain ⟨_, y0, y1, y2, y3⟩ := SX.out _ hC
    generalize Gr.checkF l = q at *
    generalize checkE snap = q2 at *
    go_wp2_with (first
      | (go_at_call 18; (with_reducible refine (GC1.out _ (HV.out _ hC)).mono ?_); rintro e w5 ⟨rfl, b5⟩; have hC := hC.trans (b5.mono hC.size); clear x0 x1 y0 y1 y2 y3; obtain ⟨⟨x0, x1⟩, y0, y1, y2, y3⟩ := SX.out _ hC)
      | (go_at_call 20; (with_reducible refine (PC1.out _ (HV.out _ hC)).mono ?_); rintro e w6 ⟨rfl, b6⟩; have hC := hC.trans (b6.mono hC.size); clear x0 x1 y0 y1 y2 y3; obtain ⟨⟨x0, x1⟩, y0, y1, y2, y3⟩ := SX.out _ hC)
      | (go_at_call 20; (with_reducible refine (PRX.out _ hC).mono ?_); rintro e w7 ⟨rfl, b7⟩; have hC := hC.trans (b7.mono hC.size); clear x0 x1 y0 y1 y2 y3; obtain ⟨⟨x0, x1⟩, y0, y1, y2, y3⟩ := SX.out _ hC)
      | (go_at_call 14; first | ((with_reducible refine (AW1.out _ (HV.out _ hC)).mono ?_); rintro e w9 ⟨rfl, b9⟩; have hC := hC.trans (b9.mono hC.size)) | ((with_reducible refine (AW1.out _ (HV.out _ (hC.alloc hC.size _))).mono ?_); rintro e w9 ⟨rfl, b9⟩; have hC := (hC.alloc hC.size _).trans (b9.mono (hC.alloc hC.size _).size))))
    go_ret
    exact ⟨rfl, HB.out _ (HV.out _ hC)⟩
  · obtain ⟨g1, g2⟩ := FI.out.bad h6
    have AT := Lib.hid g2
    have de : (r.err != 0) = true := by simpa using h6
    have de2 : (r.err == 0) = false := by simpa using h6
    have hF : r.files.length = 0 := by rw [g1]; rfl
    rw [hF] at SX
    clear y0 y1 y2 y3 g1 g2 h6 FI PR hF
    obtain ⟨_, y0, y1, y2, y3⟩ := SX.out _ hC
    generalize Gr.checkF l = q at *
    generalize checkE snap = q2 at *
    go_wp2_with (first
      | (go_at_call 18; (with_reducible refine (GC1.out _ (HV.out _ hC)).mono ?_); rintro e w5 ⟨rfl, b5⟩; have hC := hC.trans (b5.mono hC.size); clear x0 x1 y0 y1 y2 y3; obtain ⟨⟨x0, x1⟩, y0, y1, y2, y3⟩ := SX.out _ hC)
      | (go_at_call 20; (with_reducible refine (PC1.out _ (HV.out _ hC)).mono ?_); rintro e w6 ⟨rfl, b6⟩; have hC := hC.trans (b6.mono hC.size); clear x0 x1 y0 y1 y2 y3; obtain ⟨⟨x0, x1⟩, y0, y1, y2, y3⟩ := SX.out _ hC)
      | (go_at_call 21; (with_reducible refine (FD1.out _ (HV.out _ hC) _).mono ?_); rintro e w8 ⟨⟨t8, Ad8, As8, cd8, cs8, rfl, ht8, hs81, hs82⟩, b8⟩; clear ht8 hs81 hs82; have hC := hC.trans (b8.mono hC.size); have hl8 : w3.heap.size < w8.heap.size := (by have := hC.size; omega); rw [AT.out]; clear x0 x1 y0 y1 y2 y3; obtain ⟨⟨x0, x1⟩, y0, y1, y2, y3⟩ := SX.out _ hC)
      | (go_at_call 14; first | ((with_reducible refine (AW1.out _ (HV.out _ hC)).mono ?_); rintro e w9 ⟨rfl, b9⟩; have hC := hC.trans (b9.mono hC.size)) | ((with_reducible refine (AW1.out _ (HV.out _ (hC.alloc hC.size _))).mono ?_); rintro e w9 ⟨rfl, b9⟩; have hC := (hC.alloc hC.size _).trans (b9.mono (hC.alloc hC.size _).size))))
    go_ret
    exact ⟨rfl, HB.out _ (HV.out _ hC)⟩
end Go.Proofs.YtdidnlkilleljaaGreatDoor.Mn
