/- Joined by mkmerged.py: OpRSubmit. -/
import Derived.Test.YtnheahologecfaaGreatDoorMb32
import Derived.Test.YtnheahologecfaaGreatDoorMb34
import Derived.Test.YtnheahologecfaaGreatDoorMb25
import Derived.Test.YtnheahologecfaaGreatDoorMb17
import Derived.Test.YtnheahologecfaaGreatDoorMb29
/- OpRSubmit, what a claim needs of it (prune.py). -/
namespace Go.Proofs.YtnheahologecfaaGreatDoor.Ops
open Go.RowKit
open Gr (idx NoneTo idx_hit idx_miss idx_cases)
set_option linter.unusedVariables false
set_option maxRecDepth 100000
theorem Caps.below {w w' : World} {A : Option Addr} {l : List Tg} (h : Caps w A l.length) (hr : Tgs w w.heap.size A l) (hb : Below w.heap.size w w') : Caps w' A l.length := fun ad e k hk => by
  obtain ⟨ad', e', had, _⟩ := hr (by omega)
  rw [e] at e'; injection e' with e'; subst e'
  have hc : ∀ j, w'.cell? ((ad.add (k * 4)).add j) = w.cell? ((ad.add (k * 4)).add j) := fun j => hb.cell (by rw [block_of_add, block_of_add]; exact had)
  obtain ⟨g2, g3⟩ := h ad e k hk
  exact ⟨fun A' n c h => g2 A' n c ((hc 2).symm.trans h), fun A' n c h => g3 A' n c ((hc 3).symm.trans h)⟩
theorem rorder15_any (x : Op) (Ag : Option Addr) (cg : Nat) (Af : Option Addr) (cf : Nat) (Ar : Option Addr) (cr : Nat) (w : World) (hx : OkO x) (hp : Parts w x Ag cg Af cf Ar cr) :
    Calls Tryz.prog 92 #[.agg #[.string x.n, .slice Ag x.gr.length cg, .slice Af x.sn.length cf, .string x.go, .int .i64 x.st, .int .i64 x.r.e, .string x.r.at_, .string x.r.tx, .slice Ar x.r.fs.length cr]] w fun e w' => e = .returned (.string (orderB x.gr x.sn x.go)) ∧ Below w.heap.size w w' := by
  obtain ⟨W1, eW⟩ : ∃ W1, W1 = w.alloc (.cells #[.string x.n, .slice Ag x.gr.length cg, .slice Af x.sn.length cf, .string x.go, .int .i64 x.st, .int .i64 x.r.e, .string x.r.at_, .string x.r.tx, .slice Ar x.r.fs.length cr] 29) := ⟨_, rfl⟩
  have hb1 : Below w.heap.size w W1 := by rw [eW]; exact (Below.refl _ _).alloc (Nat.le_refl _) _
  have KO := Lib.hid (rorder_any Ag Af x.gr x.sn cg cf x.go hx.go hx.gl hx.g hx.fl hx.f W1 (hp.below hb1).g (fls_root (hp.below hb1).f))
  clear hx hp
  generalize orderB x.gr x.sn x.go = r at *
  go_enter Tryz.func92, Tryz.ntmps92
  go_wp2_with (go_at_call 147; rw [← eW]; clear eW; (with_reducible refine (KO.out).mono ?_); rintro e w1 ⟨rfl, b1⟩)
  go_ret
  exact ⟨rfl, hb1.trans (b1.mono hb1.size)⟩
theorem name_14 {s : ByteArray} (h : Gr.nameF s ≠ 0) : Gr.nameF s = 14 := by
  unfold Gr.nameF Lg.nameE at h ⊢
  by_cases k : Lg.nameOk (Lg.tl s) = true
  · rw [if_pos k] at h; exact absurd rfl h
  · rw [if_neg k]
set_option maxHeartbeats 8000000 in
theorem rsubmit_any (A : Option Addr) (l : List Op) (c : Nat) (x : Op) (Ag : Option Addr) (cg : Nat) (Af : Option Addr) (cf : Nat) (Ar : Option Addr) (cr : Nat) (w : World) (hl : ∀ y ∈ l, OkO y) (hx : OkO x) (hr : Ops w A l) (hll : l.length ≤ 1000) (hlc : l.length ≤ c) (hp : Parts w x Ag cg Af cf Ar cr) (hcap : Caps w Ag x.gr.length) :
    Calls Tryz.prog 46 #[.slice A l.length c, valOf x Ag cg Af cf Ar cr] w (ApplySays (submit wrongV orderB l x).1 (submit wrongV orderB l x).2 w) := by
  obtain ⟨W1, eW⟩ : ∃ W1, W1 = w.alloc (.cells #[.string x.n, .slice Ag x.gr.length cg, .slice Af x.sn.length cf, .string x.go, .int .i64 x.st, .int .i64 x.r.e, .string x.r.at_, .string x.r.tx, .slice Ar x.r.fs.length cr] 29) := ⟨_, rfl⟩
  have hb1 : Below w.heap.size w W1 := by rw [eW]; exact (Below.refl _ _).alloc (Nat.le_refl _) _
  have k0 : W1.heap[w.heap.size]? = some (.cells #[.string x.n, .slice Ag x.gr.length cg, .slice Af x.sn.length cf, .string x.go, .int .i64 x.st, .int .i64 x.r.e, .string x.r.at_, .string x.r.tx, .slice Ar x.r.fs.length cr] 29 (0, 0)) := by rw [eW]; exact heap_alloc_new w _
  have BW : Hid (∀ W, Below W1.heap.size W1 W → Below w.heap.size w W) := Lib.hid fun W hW => hb1.trans (hW.mono hb1.size)
  have KX : Hid (∀ W, Below W1.heap.size W1 W → W.heap[w.heap.size]? = some (.cells #[.string x.n, .slice Ag x.gr.length cg, .slice Af x.sn.length cf, .string x.go, .int .i64 x.st, .int .i64 x.r.e, .string x.r.at_, .string x.r.tx, .slice Ar x.r.fs.length cr] 29 (0, 0))) := Lib.hid fun W hW => (hW.block _ (Lg.lt_heap k0)).trans k0
  have hfs : ∀ f ∈ x.sn, f.p.size ≤ 1000000000 ∧ f.d.size ≤ maxLen := fun f hf => by have h1 := (hx.f f hf).p; have h2 := (hx.f f hf).d; unfold maxLen; omega
  have NA : Hid (Calls Tryz.prog 89 #[.string x.n] W1 fun e w' => e = .returned (.int .i64 (Gr.nameF x.n)) ∧ W1 = w') := Lib.hid (Lg.rname_any x.n (by have := hx.n; omega) W1)
  have CG : Hid (Calls Tryz.prog 90 #[.slice Ag x.gr.length cg] W1 fun e w' => e = .returned (.int .i64 (Gr.checkF x.gr)) ∧ Below W1.heap.size W1 w') := Lib.hid (Gr.rcheck_any Ag x.gr cg W1 (hp.below hb1).g (Caps.below hcap hp.g hb1) (by have := hx.gl; omega) hp.gc (fun t ht => Ok.fits (hx.g t ht)))
  have CF : Hid (∀ W, Below W1.heap.size W1 W → Calls Tryz.prog 59 #[.slice Af x.sn.length cf] W fun e w' => e = .returned (.int .i64 (Fs.checkE x.sn)) ∧ Below W.heap.size W w') := Lib.hid fun W hW => Fs.rpcheck_any Af x.sn cf W (hp.below (BW.out _ hW)).f (by have := hx.fl; omega) hfs
  have GF : Hid (∀ b, Gr.isT x.gr x.go = b → ∀ W, Below W1.heap.size W1 W → Calls Tryz.prog 91 #[.slice Ag x.gr.length cg, .string x.go] W (Gr.FindB x.gr x.go b W W)) := Lib.hid fun b hb W hW => Gr.rfindB_any Ag x.gr cg x.go W W (hp.below (BW.out _ hW)).g (Below.refl _ _) (by have := hx.gl; omega) hb
  have AT : Hid (∀ W, Below W1.heap.size W1 W → Calls Tryz.prog 47 #[.slice A l.length c, .string x.n] W fun e w' => e = .returned (.int .i64 (idx (named x.n) l)) ∧ W = w') := Lib.hid fun W hW => rat_any A l c x.n W (hr.below (BW.out _ hW)) (by omega)
  obtain ⟨d0, d1, d2, d3, d4, d5, d6, d7, d8, _⟩ := nine k0
  have HL := Lib.hid hl
  have HX := Lib.hid hx
  have HP := Lib.hid hp
  have HR := Lib.hid hr
  clear hl hx hr hp k0 hb1 hfs hcap
  unfold valOf
  by_cases h0 : Gr.nameF x.n = 0
  · by_cases h1 : Gr.checkF x.gr = 0
    · by_cases h2 : Fs.checkE x.sn = 0
      · cases h3 : Gr.isT x.gr x.go
        · rw [submit_wrong (by rw [wrong_3 h0 h1 h2 h3]; simp), wrong_3 h0 h1 h2 h3]
          have g0 := h0
          have g1 := h1
          have g2 := h2
          have NA1 : Hid (Calls Tryz.prog 89 #[.string x.n] W1 fun e w' => e = .returned (.int .i64 (0)) ∧ W1 = w') := Lib.hid (by have := NA.out; rw [g0] at this; exact this)
          have CG1 : Hid (Calls Tryz.prog 90 #[.slice Ag x.gr.length cg] W1 fun e w' => e = .returned (.int .i64 (0)) ∧ Below W1.heap.size W1 w') := Lib.hid (by have := CG.out; rw [g1] at this; exact this)
          have CF1 : Hid (∀ W, Below W1.heap.size W1 W → Calls Tryz.prog 59 #[.slice Af x.sn.length cf] W fun e w' => e = .returned (.int .i64 (0)) ∧ Below W.heap.size W w') := Lib.hid (fun W hW => by have := CF.out W hW; rw [g2] at this; exact this)
          have GF1 := Lib.hid (GF.out false h3)
          unfold Gr.FindB at GF1
          have AT1 := Lib.hid AT.out
          clear NA CG CF GF AT g0 g1 g2 h0 h1 h2 h3
          go_enter Tryz.func46, Tryz.ntmps46
          go_wp2_with (first | (go_at_call 89; rw [← eW]; clear eW; (with_reducible refine (NA1.out).mono ?_); rintro e w0 ⟨rfl, rfl⟩) | (go_at_call 90; (with_reducible refine (CG1.out).mono ?_); rintro e w1 ⟨rfl, b1⟩; obtain ⟨x0, x1, x2, x3, x4, x5, x6, x7, x8, _⟩ := nine (KX.out _ b1)) | (go_at_call 59; (with_reducible refine (CF1.out _ b1).mono ?_); rintro e w2 ⟨rfl, b2'⟩; have b2 := b1.trans (b2'.mono b1.size); obtain ⟨x0, x1, x2, x3, x4, x5, x6, x7, x8, _⟩ := nine (KX.out _ b2)) | (go_at_call 91; (with_reducible refine (GF1.out _ b2).mono ?_); rintro e w3 ⟨⟨t, Td, Ts, td, ts, rfl, ht, hT1, hT2⟩, b3'⟩; clear ht hT1 hT2; have b3 := b2.trans (b3'.mono b2.size); have b3a := b3.alloc b3.size (.cells #[.string t.n, .string t.c, .slice Td t.ds.length td, .slice Ts t.ss.length ts] 73); obtain ⟨x0, x1, x2, x3, x4, x5, x6, x7, x8, _⟩ := nine (KX.out _ b3a); have AT3 := Lib.hid (AT1.out _ b3a)))
          go_ret2
          first | exact ApplySays.none_ rfl (BW.out _ b3a) | exact ApplySays.none_ rfl (BW.out _ (b3.alloc b3.size _))
        · have hw : wrongV x.n x.gr x.sn x.go = 0 := wrong_4 h0 h1 h2 h3
          have g0 := h0
          have g1 := h1
          have g2 := h2
          have NA1 : Hid (Calls Tryz.prog 89 #[.string x.n] W1 fun e w' => e = .returned (.int .i64 (0)) ∧ W1 = w') := Lib.hid (by have := NA.out; rw [g0] at this; exact this)
          have CG1 : Hid (Calls Tryz.prog 90 #[.slice Ag x.gr.length cg] W1 fun e w' => e = .returned (.int .i64 (0)) ∧ Below W1.heap.size W1 w') := Lib.hid (by have := CG.out; rw [g1] at this; exact this)
          have CF1 : Hid (∀ W, Below W1.heap.size W1 W → Calls Tryz.prog 59 #[.slice Af x.sn.length cf] W fun e w' => e = .returned (.int .i64 (0)) ∧ Below W.heap.size W w') := Lib.hid (fun W hW => by have := CF.out W hW; rw [g2] at this; exact this)
          have GF1 := Lib.hid (GF.out true h3)
          unfold Gr.FindB at GF1
          rcases idx_cases (named x.n) l with ⟨ei, ef⟩ | ⟨k, hk, ei, ef, hp1, hn⟩
          · have AT1 : Hid (∀ W, Below W1.heap.size W1 W → Calls Tryz.prog 47 #[.slice A l.length c, .string x.n] W fun e w' => e = .returned (.int .i64 (-1)) ∧ W = w') := Lib.hid (fun W hW => by have := AT.out W hW; rw [ei] at this; exact this)
            have hf : find l x.n = none := ef
            by_cases h16 : 16 ≤ l.length
            · rw [submit_full hw hf h16]
              have i16 : ((l.length : Int) ≥ 16) := by omega
              clear NA CG CF GF AT g0 g1 g2 h0 h1 h2 h3 hw hf ei ef
              go_enter Tryz.func46, Tryz.ntmps46
              go_wp2_with (first | (go_at_call 89; rw [← eW]; clear eW; (with_reducible refine (NA1.out).mono ?_); rintro e w0 ⟨rfl, rfl⟩) | (go_at_call 90; (with_reducible refine (CG1.out).mono ?_); rintro e w1 ⟨rfl, b1⟩; obtain ⟨x0, x1, x2, x3, x4, x5, x6, x7, x8, _⟩ := nine (KX.out _ b1)) | (go_at_call 59; (with_reducible refine (CF1.out _ b1).mono ?_); rintro e w2 ⟨rfl, b2'⟩; have b2 := b1.trans (b2'.mono b1.size); obtain ⟨x0, x1, x2, x3, x4, x5, x6, x7, x8, _⟩ := nine (KX.out _ b2)) | (go_at_call 91; (with_reducible refine (GF1.out _ b2).mono ?_); rintro e w3 ⟨⟨t, Td, Ts, td, ts, rfl, ht, hT1, hT2⟩, b3'⟩; clear ht hT1 hT2; have b3 := b2.trans (b3'.mono b2.size); have b3a := b3.alloc b3.size (.cells #[.string t.n, .string t.c, .slice Td t.ds.length td, .slice Ts t.ss.length ts] 73); obtain ⟨x0, x1, x2, x3, x4, x5, x6, x7, x8, _⟩ := nine (KX.out _ b3a); have AT3 := Lib.hid (AT1.out _ b3a)) | (go_at_call 47; (with_reducible refine (AT3.out).mono ?_); rintro e w4 ⟨rfl, rfl⟩))
              generalize e4 : w3.alloc (.cells #[.string t.n, .string t.c, .slice Td t.ds.length td, .slice Ts t.ss.length ts] 73) = W4 at *
              have b4 : Below W1.heap.size W1 W4 := b3a
              clear e4 b3a
              go_quiet (fail)
              generalize hW : W4.drewN _ = W5
              have hb5 : Below W1.heap.size W1 W5 := by rw [← hW]; exact belowDN b4 _
              clear hW
              obtain ⟨x0, x1, x2, x3, x4, x5, x6, x7, x8, _⟩ := nine (KX.out _ hb5)
              go_wp2_with (fail)
              go_ret2
              exact ApplySays.none_ rfl (BW.out _ hb5)
            · rw [submit_more hw hf h16]
              have i16 : ¬ ((l.length : Int) ≥ 16) := by omega
              clear NA CG CF GF AT g0 g1 g2 h0 h1 h2 h3 hw hf ei ef
              go_enter Tryz.func46, Tryz.ntmps46
              go_wp2_with (first | (go_at_call 89; rw [← eW]; clear eW; (with_reducible refine (NA1.out).mono ?_); rintro e w0 ⟨rfl, rfl⟩) | (go_at_call 90; (with_reducible refine (CG1.out).mono ?_); rintro e w1 ⟨rfl, b1⟩; obtain ⟨x0, x1, x2, x3, x4, x5, x6, x7, x8, _⟩ := nine (KX.out _ b1)) | (go_at_call 59; (with_reducible refine (CF1.out _ b1).mono ?_); rintro e w2 ⟨rfl, b2'⟩; have b2 := b1.trans (b2'.mono b1.size); obtain ⟨x0, x1, x2, x3, x4, x5, x6, x7, x8, _⟩ := nine (KX.out _ b2)) | (go_at_call 91; (with_reducible refine (GF1.out _ b2).mono ?_); rintro e w3 ⟨⟨t, Td, Ts, td, ts, rfl, ht, hT1, hT2⟩, b3'⟩; clear ht hT1 hT2; have b3 := b2.trans (b3'.mono b2.size); have b3a := b3.alloc b3.size (.cells #[.string t.n, .string t.c, .slice Td t.ds.length td, .slice Ts t.ss.length ts] 73); obtain ⟨x0, x1, x2, x3, x4, x5, x6, x7, x8, _⟩ := nine (KX.out _ b3a); have AT3 := Lib.hid (AT1.out _ b3a)) | (go_at_call 47; (with_reducible refine (AT3.out).mono ?_); rintro e w4 ⟨rfl, rfl⟩))
              generalize e4 : w3.alloc (.cells #[.string t.n, .string t.c, .slice Td t.ds.length td, .slice Ts t.ss.length ts] 73) = W4 at *
              have b4 : Below W1.heap.size W1 W4 := b3a
              clear e4 b3a
              go_quiet (fail)
              generalize hW : W4.drewN _ = W5
              have hb5 : Below W1.heap.size W1 W5 := by rw [← hW]; exact belowDN b4 _
              clear hW
              obtain ⟨x0, x1, x2, x3, x4, x5, x6, x7, x8, _⟩ := nine (KX.out _ hb5)
              obtain ⟨cs, hv, hrd⟩ := HR.out
              have HV := Lib.hid hv
              have HC := Lib.hid (OVs.cell hv)
              have hB5 := BW.out _ hb5
              have RD : Hid (Reads W5 W5.heap.size 9 A l.length cs) := Lib.hid ((hrd.below hB5).more hB5.size)
              have HB5 := Lib.hid hB5
              clear hv hrd hB5
              obtain ⟨z, hzi, hzs⟩ := infoO
              obtain ⟨i0, hi, hz0, hz1, hz2⟩ := Lg.info_parts hzi
              clear hzi
              have FC : Hid (∀ u ∈ cellsOf (fresh x) Ag cg Af cf none 0, u.oneCell' = true) := Lib.hid (OV.cell (w := w) ⟨Ag, cg, Af, cf, none, 0, rfl, ⟨HP.out.g, HP.out.f, Reads.none_, HP.out.gc, HP.out.fc, Nat.le_refl _⟩⟩)
              go_wp2_with (first | (at_builtin; refine wpList_append_any _ rfl (.tmp 58) (.tmp 59) 22 rfl W5.heap.size 29 i0 z 9 152 Tryz.underlying22 hi hz0 hz1 hz2 hzs (by decide) (.slice none 0 0) 0 [] rfl (World.ownsRow_nil _ _ _ _) W5.heap.size A l.length c cs rfl RD.out HC.out (by simp only [maxLen]; omega) (by omega) (Nat.le_refl _) ?_; intro v1 w6 hown hg hat; have hb6 : Below W5.heap.size W5 w6 := (Below.refl _ _).grown hg (Nat.le_refl _) (fun k hk => by simp [Value.ownBlock] at hk); rw [Nat.zero_add, List.nil_append] at hown; have HO1 := Lib.hid hown; have hb6' := hb5.trans (hb6.mono hb5.size); obtain ⟨x0, x1, x2, x3, x4, x5, x6, x7, x8, _⟩ := nine (KX.out _ hb6'); clear hown hg hat) | (at_builtin; refine wpList_append_any _ rfl (.tmp 61) (.tmp 71) 22 rfl W5.heap.size 29 i0 z 9 152 Tryz.underlying22 hi hz0 hz1 hz2 hzs (by decide) v1 l.length cs (by rfl) (HO1.out.alloc _) _ (some ⟨w6.heap.size, 0, none⟩) 1 1 (cellsOf (fresh x) Ag cg Af cf none 0) (by rfl) (reads9 (heap_alloc_new w6 _)) FC.out (by simp only [maxLen]; omega) (by omega) (by have := hb6.size; simp; omega) ?_; intro v2 w7 hown2 hg2 hat2; have hb7 : Below W5.heap.size W5 w7 := app_belowO (hb6.alloc hb6.size _) (HO1.out.alloc _) hg2; obtain ⟨A2, cap2, rfl, hcap⟩ := own_sliceO hown2; have HO2 := Lib.hid hown2; clear hown2 hg2 hat2))
              go_ret2
              exact more_fin (HB5.out.trans (hb7.mono HB5.out.size)) HV.out HP.out.g HP.out.f HP.out.gc HP.out.fc hcap HO2.out
          · have AT1 : Hid (∀ W, Below W1.heap.size W1 W → Calls Tryz.prog 47 #[.slice A l.length c, .string x.n] W fun e w' => e = .returned (.int .i64 k) ∧ W = w') := Lib.hid (fun W hW => by have := AT.out W hW; rw [ei] at this; exact this)
            have hf : find l x.n = some l[k] := ef
            have HO := Lib.hid (HL.out _ (List.getElem_mem hk))
            have k0I : ((k : Int) ≥ 0) := by omega
            have kI : (k : Int) < (l.length : Int) := by omega
            by_cases ho : orderB l[k].gr l[k].sn l[k].go = orderB x.gr x.sn x.go
            · rw [submit_there hw hf ho]
              have eo : ((orderB l[k].gr l[k].sn l[k].go).toList == (orderB x.gr x.sn x.go).toList) = true := by rw [ho]; simp
              obtain ⟨ad, Og, og, Of, of, Or, or_, rfl, had, hps, c0, c1, c2, c3, c4, c5, c6, c7, c8⟩ := HR.out.nine_at hk
              have cat : ∀ (W : World), Below w.heap.size w W → ∀ j u, w.cell? ⟨(ad.add (k * 9)).block, j, none⟩ = some u → W.cell? ⟨(ad.add (k * 9)).block, j, none⟩ = some u := fun W hW j u h => (hW.cell (by show (ad.add (k * 9)).block < _; rw [block_of_add]; exact had)).trans h
              have HQ := Lib.hid hps
              have hd0 : ∀ W, Below w.heap.size w W → W.cell? (ad.add (k * 9)) = some (.string l[k].n) := fun W hW => (hW.cell (by rw [block_of_add]; exact had)).trans c0
              have hd1 := fun W hW => cat W hW _ _ c1
              have hd2 := fun W hW => cat W hW _ _ c2
              have hd3 := fun W hW => cat W hW _ _ c3
              have hd4 := fun W hW => cat W hW _ _ c4
              have hd5 := fun W hW => cat W hW _ _ c5
              have hd6 := fun W hW => cat W hW _ _ c6
              have hd7 := fun W hW => cat W hW _ _ c7
              have hd8 := fun W hW => cat W hW _ _ c8
              clear hps c0 c1 c2 c3 c4 c5 c6 c7 c8 cat
              generalize l[k] = o at *
              clear NA CG CF GF AT g0 g1 g2 h0 h1 h2 h3 hw hf ei ef ho hp1 hn
              go_enter Tryz.func46, Tryz.ntmps46
              go_wp2_with (first | (go_at_call 89; rw [← eW]; clear eW; (with_reducible refine (NA1.out).mono ?_); rintro e w0 ⟨rfl, rfl⟩) | (go_at_call 90; (with_reducible refine (CG1.out).mono ?_); rintro e w1 ⟨rfl, b1⟩; obtain ⟨x0, x1, x2, x3, x4, x5, x6, x7, x8, _⟩ := nine (KX.out _ b1)) | (go_at_call 59; (with_reducible refine (CF1.out _ b1).mono ?_); rintro e w2 ⟨rfl, b2'⟩; have b2 := b1.trans (b2'.mono b1.size); obtain ⟨x0, x1, x2, x3, x4, x5, x6, x7, x8, _⟩ := nine (KX.out _ b2)) | (go_at_call 91; (with_reducible refine (GF1.out _ b2).mono ?_); rintro e w3 ⟨⟨t, Td, Ts, td, ts, rfl, ht, hT1, hT2⟩, b3'⟩; clear ht hT1 hT2; have b3 := b2.trans (b3'.mono b2.size); have b3a := b3.alloc b3.size (.cells #[.string t.n, .string t.c, .slice Td t.ds.length td, .slice Ts t.ss.length ts] 73); obtain ⟨x0, x1, x2, x3, x4, x5, x6, x7, x8, _⟩ := nine (KX.out _ b3a); have AT3 := Lib.hid (AT1.out _ b3a)) | (go_at_call 47; (with_reducible refine (AT3.out).mono ?_); rintro e w4 ⟨rfl, rfl⟩))
              generalize e4 : w3.alloc (.cells #[.string t.n, .string t.c, .slice Td t.ds.length td, .slice Ts t.ss.length ts] 73) = W4 at *
              have b4 : Below W1.heap.size W1 W4 := b3a
              clear e4 b3a
              have k5 := KX.out _ b4
              have BV : Hid (∀ W, Below W4.heap.size W4 W → Below w.heap.size w W) := Lib.hid fun W hW => BW.out _ (b4.trans (hW.mono b4.size))
              have D0 := fun W hW => hd0 W (BV.out _ hW)
              have D1 := fun W hW => hd1 W (BV.out _ hW)
              have D2 := fun W hW => hd2 W (BV.out _ hW)
              have D3 := fun W hW => hd3 W (BV.out _ hW)
              have D4 := fun W hW => hd4 W (BV.out _ hW)
              have D5 := fun W hW => hd5 W (BV.out _ hW)
              have D6 := fun W hW => hd6 W (BV.out _ hW)
              have D7 := fun W hW => hd7 W (BV.out _ hW)
              have D8 := fun W hW => hd8 W (BV.out _ hW)
              have E0 := at_put3 k5 0 rfl
              have E1 := at_put3 k5 1 rfl
              have E2 := at_put3 k5 2 rfl
              have E3 := at_put3 k5 3 rfl
              have E4 := at_put3 k5 4 rfl
              have E5 := at_put3 k5 5 rfl
              have E6 := at_put3 k5 6 rfl
              have E7 := at_put3 k5 7 rfl
              have E8 := at_put3 k5 8 rfl
              have KO : Hid (∀ W, Below W4.heap.size W4 W → Calls Tryz.prog 92 #[.agg #[.string o.n, .slice Og o.gr.length og, .slice Of o.sn.length of, .string o.go, .int .i64 o.st, .int .i64 o.r.e, .string o.r.at_, .string o.r.tx, .slice Or o.r.fs.length or_]] W fun e w' => e = .returned (.string (orderB o.gr o.sn o.go)) ∧ Below W.heap.size W w') := Lib.hid fun W hW => rorder15_any o Og og Of of Or or_ W HO.out (HQ.out.below (BV.out _ hW))
              have KY : Hid (∀ W, Below W4.heap.size W4 W → Calls Tryz.prog 92 #[.agg #[.string x.n, .slice Ag x.gr.length cg, .slice Af x.sn.length cf, .string x.go, .int .i64 x.st, .int .i64 x.r.e, .string x.r.at_, .string x.r.tx, .slice Ar x.r.fs.length cr]] W fun e w' => e = .returned (.string (orderB x.gr x.sn x.go)) ∧ Below W.heap.size W w') := Lib.hid fun W hW => rorder15_any x Ag cg Af cf Ar cr W HX.out (HP.out.below (BV.out _ hW))
              generalize orderB o.gr o.sn o.go = go1 at *
              generalize orderB x.gr x.sn x.go = go2 at *
              clear k5 hd0 hd1 hd2 hd3 hd4 hd5 hd6 hd7 hd8
              refine wp_region_cls (C := fun w' => Below W4.heap.size W4 w') (by kernel_rfl) (by kernel_rfl) (Below.refl _ _).drew ?_
              repeat (first | go_big_quiet_skip | quiet_step (first | (intro _; rfl) | (intro hss; simp only [D0 _ hss, D1 _ hss, D2 _ hss, D3 _ hss, D4 _ hss, D5 _ hss, D6 _ hss, D7 _ hss, D8 _ hss, E0 _ hss, E1 _ hss, E2 _ hss, E3 _ hss, E4 _ hss, E5 _ hss, E6 _ hss, E7 _ hss, E8 _ hss, Result.andThen]; first | exact ⟨rfl, rfl⟩ | exact ⟨trivial, rfl⟩ | exact rfl) | (intro hss; go_at_call 92; first | ((with_reducible refine (KO.out _ hss).mono ?_); rintro e w5 ⟨rfl, hb5⟩; exact ⟨rfl, hss.trans (hb5.mono hss.size)⟩) | ((with_reducible refine (KY.out _ hss).mono ?_); rintro e w5 ⟨rfl, hb5⟩; exact ⟨rfl, hss.trans (hb5.mono hss.size)⟩))))
              refine wpQuiet_nil ?_
              intro w6 hb6
              go_wp2
              go_ret2
              exact ⟨⟨some ad, c, rfl, hlc, HR.out.below (BV.out _ hb6)⟩, BV.out _ hb6⟩
            · rw [submit_other hw hf ho]
              have eo := Lg.s_ne ho
              obtain ⟨ad, Og, og, Of, of, Or, or_, rfl, had, hps, c0, c1, c2, c3, c4, c5, c6, c7, c8⟩ := HR.out.nine_at hk
              have cat : ∀ (W : World), Below w.heap.size w W → ∀ j u, w.cell? ⟨(ad.add (k * 9)).block, j, none⟩ = some u → W.cell? ⟨(ad.add (k * 9)).block, j, none⟩ = some u := fun W hW j u h => (hW.cell (by show (ad.add (k * 9)).block < _; rw [block_of_add]; exact had)).trans h
              have HQ := Lib.hid hps
              have hd0 : ∀ W, Below w.heap.size w W → W.cell? (ad.add (k * 9)) = some (.string l[k].n) := fun W hW => (hW.cell (by rw [block_of_add]; exact had)).trans c0
              have hd1 := fun W hW => cat W hW _ _ c1
              have hd2 := fun W hW => cat W hW _ _ c2
              have hd3 := fun W hW => cat W hW _ _ c3
              have hd4 := fun W hW => cat W hW _ _ c4
              have hd5 := fun W hW => cat W hW _ _ c5
              have hd6 := fun W hW => cat W hW _ _ c6
              have hd7 := fun W hW => cat W hW _ _ c7
              have hd8 := fun W hW => cat W hW _ _ c8
              clear hps c0 c1 c2 c3 c4 c5 c6 c7 c8 cat
              generalize l[k] = o at *
              clear NA CG CF GF AT g0 g1 g2 h0 h1 h2 h3 hw hf ei ef ho hp1 hn
              go_enter Tryz.func46, Tryz.ntmps46
              go_wp2_with (first | (go_at_call 89; rw [← eW]; clear eW; (with_reducible refine (NA1.out).mono ?_); rintro e w0 ⟨rfl, rfl⟩) | (go_at_call 90; (with_reducible refine (CG1.out).mono ?_); rintro e w1 ⟨rfl, b1⟩; obtain ⟨x0, x1, x2, x3, x4, x5, x6, x7, x8, _⟩ := nine (KX.out _ b1)) | (go_at_call 59; (with_reducible refine (CF1.out _ b1).mono ?_); rintro e w2 ⟨rfl, b2'⟩; have b2 := b1.trans (b2'.mono b1.size); obtain ⟨x0, x1, x2, x3, x4, x5, x6, x7, x8, _⟩ := nine (KX.out _ b2)) | (go_at_call 91; (with_reducible refine (GF1.out _ b2).mono ?_); rintro e w3 ⟨⟨t, Td, Ts, td, ts, rfl, ht, hT1, hT2⟩, b3'⟩; clear ht hT1 hT2; have b3 := b2.trans (b3'.mono b2.size); have b3a := b3.alloc b3.size (.cells #[.string t.n, .string t.c, .slice Td t.ds.length td, .slice Ts t.ss.length ts] 73); obtain ⟨x0, x1, x2, x3, x4, x5, x6, x7, x8, _⟩ := nine (KX.out _ b3a); have AT3 := Lib.hid (AT1.out _ b3a)) | (go_at_call 47; (with_reducible refine (AT3.out).mono ?_); rintro e w4 ⟨rfl, rfl⟩))
              generalize e4 : w3.alloc (.cells #[.string t.n, .string t.c, .slice Td t.ds.length td, .slice Ts t.ss.length ts] 73) = W4 at *
              have b4 : Below W1.heap.size W1 W4 := b3a
              clear e4 b3a
              have k5 := KX.out _ b4
              have BV : Hid (∀ W, Below W4.heap.size W4 W → Below w.heap.size w W) := Lib.hid fun W hW => BW.out _ (b4.trans (hW.mono b4.size))
              have D0 := fun W hW => hd0 W (BV.out _ hW)
              have D1 := fun W hW => hd1 W (BV.out _ hW)
              have D2 := fun W hW => hd2 W (BV.out _ hW)
              have D3 := fun W hW => hd3 W (BV.out _ hW)
              have D4 := fun W hW => hd4 W (BV.out _ hW)
              have D5 := fun W hW => hd5 W (BV.out _ hW)
              have D6 := fun W hW => hd6 W (BV.out _ hW)
              have D7 := fun W hW => hd7 W (BV.out _ hW)
              have D8 := fun W hW => hd8 W (BV.out _ hW)
              have E0 := at_put3 k5 0 rfl
              have E1 := at_put3 k5 1 rfl
              have E2 := at_put3 k5 2 rfl
              have E3 := at_put3 k5 3 rfl
              have E4 := at_put3 k5 4 rfl
              have E5 := at_put3 k5 5 rfl
              have E6 := at_put3 k5 6 rfl
              have E7 := at_put3 k5 7 rfl
              have E8 := at_put3 k5 8 rfl
              have KO : Hid (∀ W, Below W4.heap.size W4 W → Calls Tryz.prog 92 #[.agg #[.string o.n, .slice Og o.gr.length og, .slice Of o.sn.length of, .string o.go, .int .i64 o.st, .int .i64 o.r.e, .string o.r.at_, .string o.r.tx, .slice Or o.r.fs.length or_]] W fun e w' => e = .returned (.string (orderB o.gr o.sn o.go)) ∧ Below W.heap.size W w') := Lib.hid fun W hW => rorder15_any o Og og Of of Or or_ W HO.out (HQ.out.below (BV.out _ hW))
              have KY : Hid (∀ W, Below W4.heap.size W4 W → Calls Tryz.prog 92 #[.agg #[.string x.n, .slice Ag x.gr.length cg, .slice Af x.sn.length cf, .string x.go, .int .i64 x.st, .int .i64 x.r.e, .string x.r.at_, .string x.r.tx, .slice Ar x.r.fs.length cr]] W fun e w' => e = .returned (.string (orderB x.gr x.sn x.go)) ∧ Below W.heap.size W w') := Lib.hid fun W hW => rorder15_any x Ag cg Af cf Ar cr W HX.out (HP.out.below (BV.out _ hW))
              generalize orderB o.gr o.sn o.go = go1 at *
              generalize orderB x.gr x.sn x.go = go2 at *
              clear k5 hd0 hd1 hd2 hd3 hd4 hd5 hd6 hd7 hd8
              refine wp_region_cls (C := fun w' => Below W4.heap.size W4 w') (by kernel_rfl) (by kernel_rfl) (Below.refl _ _).drew ?_
              repeat (first | go_big_quiet_skip | quiet_step (first | (intro _; rfl) | (intro hss; simp only [D0 _ hss, D1 _ hss, D2 _ hss, D3 _ hss, D4 _ hss, D5 _ hss, D6 _ hss, D7 _ hss, D8 _ hss, E0 _ hss, E1 _ hss, E2 _ hss, E3 _ hss, E4 _ hss, E5 _ hss, E6 _ hss, E7 _ hss, E8 _ hss, Result.andThen]; first | exact ⟨rfl, rfl⟩ | exact ⟨trivial, rfl⟩ | exact rfl) | (intro hss; go_at_call 92; first | ((with_reducible refine (KO.out _ hss).mono ?_); rintro e w5 ⟨rfl, hb5⟩; exact ⟨rfl, hss.trans (hb5.mono hss.size)⟩) | ((with_reducible refine (KY.out _ hss).mono ?_); rintro e w5 ⟨rfl, hb5⟩; exact ⟨rfl, hss.trans (hb5.mono hss.size)⟩))))
              refine wpQuiet_nil ?_
              intro w6 hb6
              go_wp2
              go_ret2
              exact ApplySays.none_ rfl (BV.out _ hb6)
      · have g0 := h0
        have g1 := h1
        rw [submit_wrong (by rw [wrong_2 h0 h1 h2]; exact h2), wrong_2 h0 h1 h2]
        have NA1 : Hid (Calls Tryz.prog 89 #[.string x.n] W1 fun e w' => e = .returned (.int .i64 (0)) ∧ W1 = w') := Lib.hid (by have := NA.out; rw [g0] at this; exact this)
        have CG1 : Hid (Calls Tryz.prog 90 #[.slice Ag x.gr.length cg] W1 fun e w' => e = .returned (.int .i64 (0)) ∧ Below W1.heap.size W1 w') := Lib.hid (by have := CG.out; rw [g1] at this; exact this)
        have CF1 := Lib.hid CF.out
        have j2 : (Fs.checkE x.sn != 0) = true := by simpa using h2
        clear NA CG CF GF AT g0 g1 h0 h1 h2
        generalize Fs.checkE x.sn = e2 at *
        go_enter Tryz.func46, Tryz.ntmps46
        go_wp2_with (first | (go_at_call 89; rw [← eW]; clear eW; (with_reducible refine (NA1.out).mono ?_); rintro e w0 ⟨rfl, rfl⟩) | (go_at_call 90; (with_reducible refine (CG1.out).mono ?_); rintro e w1 ⟨rfl, b1⟩; obtain ⟨x0, x1, x2, x3, x4, x5, x6, x7, x8, _⟩ := nine (KX.out _ b1)) | (go_at_call 59; (with_reducible refine (CF1.out _ b1).mono ?_); rintro e w2 ⟨rfl, b2'⟩; have b2 := b1.trans (b2'.mono b1.size); obtain ⟨x0, x1, x2, x3, x4, x5, x6, x7, x8, _⟩ := nine (KX.out _ b2)))
        go_ret2
        exact ApplySays.none_ rfl (BW.out _ b2)
    · have g0 := h0
      have g1 : Gr.checkF x.gr = Gr.checkF x.gr := rfl
      rw [submit_wrong (by rw [wrong_1 h0 h1]; exact h1), wrong_1 h0 h1]
      have NA1 : Hid (Calls Tryz.prog 89 #[.string x.n] W1 fun e w' => e = .returned (.int .i64 (0)) ∧ W1 = w') := Lib.hid (by have := NA.out; rw [g0] at this; exact this)
      have CG1 := Lib.hid CG.out
      have j1 : (Gr.checkF x.gr == 0) = false := by simpa using h1
      have j2 : (Gr.checkF x.gr != 0) = true := by simpa using h1
      clear NA CG CF GF AT g0 g1 h0 h1
      generalize Gr.checkF x.gr = e1 at *
      go_enter Tryz.func46, Tryz.ntmps46
      go_wp2_with (first | (go_at_call 89; rw [← eW]; clear eW; (with_reducible refine (NA1.out).mono ?_); rintro e w0 ⟨rfl, rfl⟩) | (go_at_call 90; (with_reducible refine (CG1.out).mono ?_); rintro e w1 ⟨rfl, b1⟩; obtain ⟨x0, x1, x2, x3, x4, x5, x6, x7, x8, _⟩ := nine (KX.out _ b1)))
      go_ret2
      exact ApplySays.none_ rfl (BW.out _ b1)
  · have g0 := name_14 h0
    rw [submit_wrong (by rw [wrong_0 h0]; exact h0), wrong_0 h0, g0]
    have NA1 : Hid (Calls Tryz.prog 89 #[.string x.n] W1 fun e w' => e = .returned (.int .i64 (14)) ∧ W1 = w') := Lib.hid (by have := NA.out; rw [g0] at this; exact this)
    clear NA CG CF GF AT g0 h0
    go_enter Tryz.func46, Tryz.ntmps46
    go_wp2_with (first | (go_at_call 89; rw [← eW]; clear eW; (with_reducible refine (NA1.out).mono ?_); rintro e w0 ⟨rfl, rfl⟩))
    go_ret2
    exact ApplySays.none_ rfl (BW.out _ (Below.refl _ _))
end Go.Proofs.YtnheahologecfaaGreatDoor.Ops
