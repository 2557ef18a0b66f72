/- Joined by mkmerged.py: BxLaw1. -/
import Derived.Test.YtnheahologecfaaGreatDoorMd34
import Derived.Deep.Cut
/- BxLaw1, what a claim needs of it (prune.py). -/
namespace Go.Proofs.YtnheahologecfaaGreatDoor.Bx
open Go.RowKit
open Lg (BelowX Lies strV StepsAt Stp numL smallL weight rightE)
open Fs (fc fc_len fc_cell Fls B checkE)
set_option linter.unusedVariables false
set_option maxRecDepth 100000
structure Came (w : World) (l : List Stp) (L : Option Addr) (m mc : Nat) (fs : List Fl) (F : Option Addr) (fcc : Nat) (names : List B) (N : Option Addr) (nn nc : Nat) (ok : Nat → Prop) : Prop where
  env : Lg.Env w
  steps : StepsAt w ok L m l
  num : numL l
  files : Fls w F fs
  fcap : fs.length ≤ fcc
  flen : fs.length ≤ maxLen
  fz : ∀ f ∈ fs, f.p.size ≤ maxLen ∧ f.d.size ≤ maxLen
  nms : Reads w w.heap.size 1 N nn (strV names)
  nml : nn = names.length
  nlen : nn ≤ maxLen
theorem Came.below {w W : World} {l : List Stp} {L : Option Addr} {m mc : Nat} {fs : List Fl} {F : Option Addr} {fcc : Nat} {names : List B} {N : Option Addr} {nn nc : Nat} {ok : Nat → Prop} (h : Came w l L m mc fs F fcc names N nn nc ok) (hb : Below w.heap.size w W) : Came W l L m mc fs F fcc names N nn nc ok :=
  ⟨h.env.below hb, h.steps.mono fun k hk hs => ⟨hk, hb.block k hs⟩, h.num, (h.files.below hb).more hb.size, h.fcap, h.flen, h.fz, (h.nms.below hb).more hb.size, h.nml, h.nlen⟩
theorem Came.few {w : World} {l : List Stp} {L : Option Addr} {m mc : Nat} {fs : List Fl} {F : Option Addr} {fcc : Nat} {names : List B} {N : Option Addr} {nn nc : Nat} {ok : Nat → Prop} (h : Came w l L m mc fs F fcc names N nn nc ok) : Calls Tryz.prog 25 #[.slice L m mc, .slice F fs.length fcc, .slice N nn nc] w (FewSays l fs nn w) :=
  few_any l L m mc fs F fcc N nn nc w ok h.steps h.files h.flen h.nlen h.fz
theorem Came.run {w : World} {l : List Stp} {L : Option Addr} {m mc : Nat} {fs : List Fl} {F : Option Addr} {fcc : Nat} {names : List B} {N : Option Addr} {nn nc : Nat} {ok : Nat → Prop} (h : Came w l L m mc fs F fcc names N nn nc ok) {k : Nat} (hf : FewB l fs k) (hk : nn ≤ 1000000) (fuel : Int) :
    Calls Tryz.prog 27 #[.slice L m mc, .slice F fs.length fcc, .slice N nn nc, .int .i64 fuel] w (RunSays (outcome l fs names fuel) w) :=
  run_any l L m mc fs F fcc names N nn nc fuel w ok h.env h.steps h.num (by have := Lg.print_small hf.s h.num; have := hf.w; omega) h.files (by have := hf.fl; omega) h.fcap h.fz h.nms h.nml (by have := h.nml; omega)
theorem RunSays.open_ {o : Out} {w : World} {e : Ending} {w' : World} (h : RunSays o w e w') : ∃ A c, e = .returned (.agg #[.int .i64 o.kind, .slice A o.files.length c, .string (bs o.need), .int .i64 o.err, .string (bs o.text), .int .i64 o.used]) ∧ Fls w' A o.files ∧ o.files.length ≤ c ∧ Below w.heap.size w w' := h
theorem needs_law {l : List Stp} {fs : List Fl} {names : List B} {fuel : Int} (hk : (outcome l fs names fuel).kind = 2) :
    (outcome l fs names fuel).used ≤ (outcome l fs (names ++ [(outcome l fs names fuel).need]) fuel).used ∧ ((outcome l fs (names ++ [(outcome l fs names fuel).need]) fuel).kind = 2 → (outcome l fs (names ++ [(outcome l fs names fuel).need]) fuel).need ≠ (outcome l fs names fuel).need) := by
  by_cases h1 : rightE l ≠ 0
  · unfold outcome at hk
    rw [if_pos h1] at hk
    exact absurd (show (3 : Int) = 2 from hk) (by decide)
  by_cases h2 : checkE fs ≠ 0 ∨ fuel < 1 ∨ 2000 < fuel
  · unfold outcome at hk
    rw [if_neg h1, if_pos h2] at hk
    exact absurd (show (3 : Int) = 2 from hk) (by decide)
  have e : ∀ nm, outcome l fs nm fuel = ended (run withF withoutF nm upB soB fuel.toNat l fs) := fun nm => by
    unfold outcome
    rw [if_neg h1, if_neg h2]
  rw [e] at hk
  rw [e, e]
  generalize hst : run withF withoutF names upB soB fuel.toNat l fs = st at *
  have k2 : st.kind = 2 := by
    unfold ended at hk
    by_cases ho : over st = true
    · rw [if_pos ho] at hk
      have hk : (st.kind : Int) = 2 := hk
      omega
    · rw [if_neg ho] at hk
      exact absurd (show (1 : Int) = 2 from hk) (by decide)
  have hN : (ended st).need = st.need := by unfold ended; split <;> rfl
  have hU : ∀ t : St, (ended t).used = (t.used : Int) := fun t => by unfold ended; split <;> rfl
  have hN2 : ∀ t : St, (ended t).need = t.need := fun t => by unfold ended; split <;> rfl
  have hK2 : ∀ t : St, (ended t).kind = 2 → t.kind = 2 := fun t h => by
    unfold ended at h
    by_cases ho : over t = true
    · rw [if_pos ho] at h
      have h : (t.kind : Int) = 2 := h
      omega
    · rw [if_neg ho] at h
      exact absurd (show (1 : Int) = 2 from h) (by decide)
  have := needs_more (wf := withF) (wo := withoutF) (names := names) (up := upB) (so := soB) (fu := fuel.toNat) (l := l) (fs := fs) (by rw [hst]; exact k2)
  rw [hst] at this
  rw [hU, hU, hN2, hN2]
  exact ⟨by omega, fun h => this.2 (hK2 _ h)⟩
theorem reads1_new (w : World) (T : TypeId) (u : Value) : Reads (w.alloc (.cells #[u] T)) (w.heap.size + 1) 1 (some ⟨w.heap.size, 0, none⟩) 1 [u] :=
  ⟨rfl, fun _ => ⟨_, rfl, Nat.lt_succ_self _, fun j v hv => by
    rw [Lg.add_eq, cell_heap (heap_alloc_new w _)]
    simpa using hv⟩⟩
set_option maxHeartbeats 8000000 in
theorem needs_walk (l : List Stp) (L : Option Addr) (m mc : Nat) (fs : List Fl) (F : Option Addr) (fcc : Nat) (names : List B) (N : Option Addr) (nn nc : Nat) (fuel : Int) (w : World) (ok : Nat → Prop) (hC : Came w l L m mc fs F fcc names N nn nc ok) :
    Calls Tryz.prog 8 #[.agg #[.slice L m mc, .slice F fs.length fcc, .slice N nn nc, .int .i64 fuel]] w fun e w' => e = .returned (.bool true) ∧ Below w.heap.size w w' := by
  have CB := Lib.hid (fun W (h : Below w.heap.size w W) => hC.below h)
  have AW := Lib.hid (fun W (h : Below w.heap.size w W) => awake_any W (hC.below h).env)
  obtain ⟨W1, eW⟩ : ∃ W1, W1 = w.alloc (.cells #[.slice L m mc, .slice F fs.length fcc, .slice N nn nc, .int .i64 fuel] 47) := ⟨_, rfl⟩
  have hb1 : Below w.heap.size w W1 := by rw [eW]; exact (Below.refl _ _).alloc (Nat.le_refl _) _
  have q1 : W1.heap[w.heap.size]? = some (.cells #[.slice L m mc, .slice F fs.length fcc, .slice N nn nc, .int .i64 fuel] 47 (0, 0)) := by rw [eW]; exact heap_alloc_new w _
  have X1 : Hid (∀ W, Below W1.heap.size W1 W → W.cell? ⟨w.heap.size, 0, none⟩ = some (.slice L m mc) ∧ W.cell? ⟨w.heap.size, 1, none⟩ = some (.slice F fs.length fcc) ∧ W.cell? ⟨w.heap.size, 2, none⟩ = some (.slice N nn nc) ∧ W.cell? ⟨w.heap.size, 3, none⟩ = some (.int .i64 fuel)) := Lib.hid fun W hW => by
    have q := heap_below hW (lt_heap q1) q1
    exact ⟨(cell_heap q 0).trans rfl, (cell_heap q 1).trans rfl, (cell_heap q 2).trans rfl, (cell_heap q 3).trans rfl⟩
  have FE := Lib.hid (hC.below hb1).few
  have hw1 := hb1.size
  have hlt := lt_heap q1
  have HB := Lib.hid (fun W (hW : Below W1.heap.size W1 W) => hb1.trans (hW.mono hw1))
  have hnl := Lib.hid hC.nml
  clear hC q1 hb1
  go_enter Tryz.func8, Tryz.ntmps8
  go_wp2_with (fail)
  rw [← eW]
  clear eW
  refine (FE.out).mono ?_
  rintro e w2 ⟨bv, rfl, b2, hfw⟩
  have FW := Lib.hid hfw
  clear hfw FE
  rcases bv with _ | _
  · go_wp2_with (go_at_call 26; (with_reducible refine (AW.out _ (HB.out _ b2)).mono ?_); rintro e w3 ⟨rfl, b3⟩)
    go_ret
    have h2 := HB.out _ b2
    exact ⟨rfl, h2.trans (b3.mono h2.size)⟩
  · have FB := Lib.hid (FW.out rfl)
    clear FW
    obtain ⟨x0, x1, x2, x3⟩ := X1.out w2 b2
    go_wp2_with (fail)
    refine ((CB.out _ (HB.out _ b2)).run FB.out (by have := FB.out.nl; omega) fuel).mono ?_
    rintro e w3 ho
    obtain ⟨A3, c3, rfl, f3, hc3, b3⟩ := ho.open_
    clear ho f3 hc3 x0 x1 x2 x3
    have NL := Lib.hid (needs_law (l := l) (fs := fs) (names := names) (fuel := fuel))
    generalize outcome l fs names fuel = o at *
    have h3 : Below W1.heap.size W1 w3 := b2.trans (b3.mono b2.size)
    obtain ⟨V3, eV⟩ : ∃ V3, V3 = w3.alloc (.cells #[.int .i64 o.kind, .slice A3 o.files.length c3, .string (bs o.need), .int .i64 o.err, .string (bs o.text), .int .i64 o.used] 50) := ⟨_, rfl⟩
    have hV : Below W1.heap.size W1 V3 := by rw [eV]; exact h3.alloc h3.size _
    have qV : V3.heap[w3.heap.size]? = some (.cells #[.int .i64 o.kind, .slice A3 o.files.length c3, .string (bs o.need), .int .i64 o.err, .string (bs o.text), .int .i64 o.used] 50 (0, 0)) := by rw [eV]; exact heap_alloc_new w3 _
    have Y3 : Hid (∀ W, Below V3.heap.size V3 W → W.cell? ⟨w3.heap.size, 0, none⟩ = some (.int .i64 o.kind) ∧ W.cell? ⟨w3.heap.size, 2, none⟩ = some (.string (bs o.need)) ∧ W.cell? ⟨w3.heap.size, 5, none⟩ = some (.int .i64 o.used)) := Lib.hid fun W hW => by
      have q := heap_below hW (lt_heap qV) qV
      exact ⟨(cell_heap q 0).trans rfl, (cell_heap q 2).trans rfl, (cell_heap q 5).trans rfl⟩
    have hvl := lt_heap qV
    clear qV h3 b2 b3
    by_cases hk : o.kind = 2
    · have hk2 : (o.kind != 2) = false := by simpa using hk
      have NL2 := Lib.hid (NL.out hk)
      have K2 := Lib.hid hk
      have hu30 := FB.out.nl
      obtain ⟨zs, hi, hz0, hz1, hz2⟩ := Lg.info_parts (@Lg.infoS)
      have NM : Hid (Reads V3 V3.heap.size 1 N nn (strV names)) := Lib.hid (CB.out _ (HB.out _ hV)).nms
      have one1 : ∀ u ∈ strV names, u.oneCell' = true := fun u hu => by
        obtain ⟨a, _, rfl⟩ := List.mem_map.1 hu
        rfl
      have ONE := Lib.hid one1
      clear one1 NL hk
      obtain ⟨y0, y2, y5⟩ := Y3.out V3 (Below.refl _ _)
      go_upto_region 7 with (fail)
      rw [← eV]
      clear eV
      obtain ⟨x0, x1, x2, x3⟩ := X1.out V3 hV
      have HV := Lib.hid hV
      go_wp2_with (first
        | (at_builtin; refine wpList_append_any _ rfl (.tmp 28) (.tmp 30) 38 rfl V3.heap.size 9 zs (.string ⟨#[]⟩) 1 16 Tryz.underlying38 hi hz0 hz1 hz2 rfl (by decide) (.slice none 0 0) 0 [] rfl (World.ownsRow_nil _ _ _ _) V3.heap.size N nn nc (strV names) rfl NM.out ONE.out (by simp only [maxLen]; omega) (by omega) (Nat.le_refl _) ?_; intro v4 w4 ho4 hg4 hat4; have hb4 : Below V3.heap.size V3 w4 := (Below.refl _ _).grown hg4 (Nat.le_refl _) (fun g hg => by cases hg); have HO4 := Lib.hid ho4; have HB4 := Lib.hid hb4; obtain ⟨y0, y2, y5⟩ := Y3.out w4 hb4; clear ho4 hg4 hat4 hb4)
        | (at_builtin; refine wpList_append_any _ rfl (.tmp 32) (.tmp 35) 38 rfl V3.heap.size 9 zs (.string ⟨#[]⟩) 1 16 Tryz.underlying38 hi hz0 hz1 hz2 rfl (by decide) v4 (0 + nn) ([] ++ strV names) rfl (HO4.out.alloc _) (w4.heap.size + 1) (some ⟨w4.heap.size, 0, none⟩) 1 1 [.string (bs o.need)] rfl (reads1_new w4 _ _) (fun u hu => by rw [List.mem_singleton.1 hu]; rfl) (by simp only [maxLen]; omega) (by omega) (by simp; have := HB4.out.size; omega) ?_; intro v5 w5 ho5 hg5 hat5; have hb5 : Below V3.heap.size V3 w5 := ((HB4.out.alloc HB4.out.size _).grown hg5 (by simp; have := HB4.out.size; omega) (fun g hg => (HO4.out.lt g hg).1)); have HO5 := Lib.hid ho5; have HB5 := Lib.hid hb5; obtain ⟨x0, x1, x2, x3⟩ := X1.out w5 (HV.out.trans (hb5.mono HV.out.size)); clear ho5 hg5 hat5 hb5))
      obtain ⟨g5, c5, rfl, hg5, hl5⟩ := HO5.out.form (by omega)
      have C5 : Hid (Came w5 l L m mc fs F fcc (names ++ [o.need]) (some ⟨g5, 0, none⟩) (0 + nn + 1) c5 ok) := Lib.hid (by
        have h := CB.out w5 (HB.out _ (HV.out.trans (HB5.out.mono HV.out.size)))
        have hr := Reads.of_own HO5.out
        refine ⟨h.env, h.steps, h.num, h.files, h.fcap, h.flen, h.fz, ?_, by rw [List.length_append, h.nml]; simp, by unfold maxLen; omega⟩
        have e : strV (names ++ [o.need]) = [] ++ strV names ++ [.string (bs o.need)] := by rw [List.nil_append]; exact List.map_append
        rw [e]; exact hr)
      refine (C5.out.run FB.out (by omega) fuel).mono ?_
      rintro e w6 ho
      obtain ⟨A6, c6, rfl, f6, hc6, b6⟩ := ho.open_
      clear ho f6 hc6 x0 x1 x2 x3 C5
      generalize outcome l fs (names ++ [o.need]) fuel = o2 at *
      have H6 : Below V3.heap.size V3 w6 := HB5.out.trans (b6.mono HB5.out.size)
      obtain ⟨V6, eV6⟩ : ∃ V6, V6 = w6.alloc (.cells #[.int .i64 o2.kind, .slice A6 o2.files.length c6, .string (bs o2.need), .int .i64 o2.err, .string (bs o2.text), .int .i64 o2.used] 50) := ⟨_, rfl⟩
      have hV6 : Below V3.heap.size V3 V6 := by rw [eV6]; exact H6.alloc H6.size _
      have qV6 : V6.heap[w6.heap.size]? = some (.cells #[.int .i64 o2.kind, .slice A6 o2.files.length c6, .string (bs o2.need), .int .i64 o2.err, .string (bs o2.text), .int .i64 o2.used] 50 (0, 0)) := by rw [eV6]; exact heap_alloc_new w6 _
      have z0 : V6.cell? ⟨w6.heap.size, 0, none⟩ = some (.int .i64 o2.kind) := (cell_heap qV6 0).trans rfl
      have z2 : V6.cell? ⟨w6.heap.size, 2, none⟩ = some (.string (bs o2.need)) := (cell_heap qV6 2).trans rfl
      have z5 : V6.cell? ⟨w6.heap.size, 5, none⟩ = some (.int .i64 o2.used) := (cell_heap qV6 5).trans rfl
      obtain ⟨y0, y2, y5⟩ := Y3.out V6 hV6
      have hVe := HB.out _ (HV.out.trans (hV6.mono HV.out.size))
      have hge : o.used ≤ o2.used := NL2.out.1
      have dge : decide (o.used ≤ o2.used) = true := decide_eq_true hge
      have AWV := Lib.hid (AW.out V6 hVe)
      have HVE := Lib.hid hVe
      clear H6 b6 hV6 qV6 hVe
      by_cases hk2 : o2.kind = 2
      · have hne : bs o2.need ≠ bs o.need := fun e => NL2.out.2 hk2 (congrArg tl e)
        have e1 := Lg.s_ne hne
        have e2 : (o2.kind != 2) = false := by simpa using hk2
        have e3 : ((bs o2.need).toList != (bs o.need).toList) = true := by simp only [bne, e1]; rfl
        clear NL2 hne hk2
        go_upto_region 10 with (fail)
        rw [← eV6]
        clear eV6
        go_wp2_with (go_at_call 26; (with_reducible refine (AWV.out).mono ?_); rintro e w7 ⟨rfl, b7⟩)
        go_ret
        exact ⟨rfl, HVE.out.trans (b7.mono HVE.out.size)⟩
      · have e2 : (o2.kind != 2) = true := by simpa using hk2
        clear NL2
        go_upto_region 10 with (fail)
        rw [← eV6]
        clear eV6
        go_wp2_with (go_at_call 26; (with_reducible refine (AWV.out).mono ?_); rintro e w7 ⟨rfl, b7⟩)
        go_ret
        exact ⟨rfl, HVE.out.trans (b7.mono HVE.out.size)⟩
    · have hk2 : (o.kind != 2) = true := by simpa using hk
      have hk3 : ¬ o.kind = 2 := hk
      have hVe := HB.out _ hV
      rw [eV] at hVe
      go_wp2_with (go_at_call 26; (with_reducible refine (AW.out _ hVe).mono ?_); rintro e w4 ⟨rfl, b4⟩)
      go_ret
      exact ⟨rfl, hVe.trans (b4.mono hVe.size)⟩
end Go.Proofs.YtnheahologecfaaGreatDoor.Bx
