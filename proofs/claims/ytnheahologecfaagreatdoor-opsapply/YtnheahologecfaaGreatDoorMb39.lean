/- Joined by mkmerged.py: OpLaws5. -/
import Derived.Test.YtnheahologecfaaGreatDoorMb35
import Derived.Test.YtnheahologecfaaGreatDoorMb36
import Derived.Test.YtnheahologecfaaGreatDoorMb38
/- OpLaws5, what a claim needs of it (prune.py). -/
namespace Go.Proofs.YtnheahologecfaaGreatDoor.Ops
open Go.RowKit
set_option linter.unusedVariables false
set_option maxRecDepth 100000
section
open Go.ChangeShapes Go.WideShapes Go.Deep Go.ChangeMaps
theorem open_opsc {H : Type} {enc : TypeId × Value → H} {W : World} {r : Reach} {b0 : Nat} {v : Value} {d : DataW H} {p : List MemPlace} (hv : Value.okWide Tryz.prog W r b0 22 v) (h : DataW.Trod enc Tryz.prog W 0 (fun _ => true) true 22 v d p) :
    ∃ A l c, v = .slice A (List.length l) c ∧ Ops W A l ∧ l.length ≤ maxLen ∧ (∀ x ∈ l, FitO x) ∧ l.length ≤ c ∧ c ≤ maxLen := by
  obtain ⟨A, l, c, rfl, h1, h2, h3, h4⟩ := open_ops hv h
  refine ⟨A, l, c, rfl, h1, h2, h3, h4, ?_⟩
  obtain ⟨fuel, hf⟩ := h
  obtain ⟨fs, g1, rs, g2, g3, g4⟩ := fO
  rcases open_nests Tryz.underlying22 g1 g2 g3 (by kernel_rfl) (by kernel_rfl) hf with h0 | ⟨a, len, cap, hcs, hl, hm, _⟩
  · simp only [Value.cells] at h0
    injection h0 with h0
    injection h0 with _ _ h0
    rw [h0]; exact Nat.zero_le _
  · simp only [Value.cells] at hcs
    injection hcs with hcs
    injection hcs with _ _ hcs
    rw [hcs]; exact hm
end
theorem rapply_in {A : Option Addr} {l m : List Op} {c n q : Nat} {k f : Int} {x : Op} {Ag : Option Addr} {cg : Nat} {Af : Option Addr} {cf : Nat} {Ar : Option Addr} {cr : Nat} {W : World} (h : apply wrongV orderB l ⟨k, x⟩ = (m, f)) (hl : ∀ y ∈ l, OkO y) (hx : OkO x) (hr : Ops W A l) (hn : l.length = n) (hq : m.length = q) (hll : n ≤ 1000) (hlc : n ≤ c) (hcm : c ≤ maxLen) (hp : Parts W x Ag cg Af cf Ar cr) (hcap : Caps W Ag x.gr.length) :
    Calls Tryz.prog 18 #[.slice A n c, .agg #[.int .i64 k, .string x.n, .slice Ag x.gr.length cg, .slice Af x.sn.length cf, .string x.go, .int .i64 x.st, .int .i64 x.r.e, .string x.r.at_, .string x.r.tx, .slice Ar x.r.fs.length cr]] W (ExSays m q f W) := by
  subst hn hq
  have := rapply_any A l c k x Ag cg Af cf Ar cr W hl hx hr hll hlc hcm hp hcap
  rw [h] at this
  exact this
theorem rsame_of {A F : Option Addr} {l : List Op} {c d n : Nat} {W : World} (hl : ∀ y ∈ l, OkO y) (hr : Ops W A l) (hq : Ops W F l) (hn : l.length = n) (hll : n ≤ 1000) :
    Calls Tryz.prog 19 #[.slice A n c, .slice F n d] W fun e w' => e = .returned (.bool true) ∧ Below W.heap.size W w' := by
  subst hn
  exact rosame_any A F l l c d W (by omega) (by omega) (fun y hy => (hl y hy).mid) (fun y hy => (hl y hy).mid) hr hq (by simp)
set_option maxHeartbeats 8000000 in
theorem applylaw_walk (A : Option Addr) (l : List Op) (c : Nat) (k : Int) (x : Op) (Ag : Option Addr) (cg : Nat) (Af : Option Addr) (cf : Nat) (Ar : Option Addr) (cr : Nat) (w : World) (hE : Lg.Env w) (hr : Ops w A l) (hm : l.length ≤ maxLen) (hz : ∀ x ∈ l, FitO x) (hc : l.length ≤ c ∧ c ≤ maxLen) (hp : Parts w x Ag cg Af cf Ar cr) (hx : FitO x) (hk : (-9223372036854775808 ≤ k ∧ k ≤ 9223372036854775807) ∧ Caps w Ag x.gr.length) :
    Calls Tryz.prog 3 #[.slice A l.length c, evOf k x Ag cg Af cf Ar cr] w (Yes w) := by
  obtain ⟨hc, hcm⟩ := hc
  obtain ⟨_, hcap⟩ := hk
  obtain ⟨W1, eW⟩ : ∃ W1, W1 = w.alloc (.cells #[.int .i64 k, .string x.n, .slice Ag x.gr.length cg, .slice Af x.sn.length cf, .string x.go, .int .i64 x.st, .int .i64 x.r.e, .string x.r.at_, .string x.r.tx, .slice Ar x.r.fs.length cr] 31) := ⟨_, rfl⟩
  have hb1 : Below w.heap.size w W1 := by rw [eW]; exact (Below.refl _ _).alloc (Nat.le_refl _) _
  have k0 : W1.heap[w.heap.size]? = some (.cells #[.int .i64 k, .string x.n, .slice Ag x.gr.length cg, .slice Af x.sn.length cf, .string x.go, .int .i64 x.st, .int .i64 x.r.e, .string x.r.at_, .string x.r.tx, .slice Ar x.r.fs.length cr] 31 (0, 0)) := by rw [eW]; exact heap_alloc_new w _
  have BW : Hid (∀ W, Below W1.heap.size W1 W → Below w.heap.size w W) := Lib.hid fun W hW => hb1.trans (hW.mono hb1.size)
  have KX : Hid (∀ W, Below W1.heap.size W1 W → W.heap[w.heap.size]? = some (.cells #[.int .i64 k, .string x.n, .slice Ag x.gr.length cg, .slice Af x.sn.length cf, .string x.go, .int .i64 x.st, .int .i64 x.r.e, .string x.r.at_, .string x.r.tx, .slice Ar x.r.fs.length cr] 31 (0, 0))) := Lib.hid fun W hW => (hW.block _ (Lg.lt_heap k0)).trans k0
  have AW : Hid (∀ W, Below W1.heap.size W1 W → Calls Tryz.prog 16 #[] W fun e w' => e = .returned (.bool true) ∧ Below W.heap.size W w') := Lib.hid fun W hW => awake_any W (hE.below (BW.out _ hW))
  have FA : Hid (∀ b : Bool, (b = true ↔ FewP l) → ∀ W, Below W1.heap.size W1 W → Calls Tryz.prog 15 #[.slice A l.length c] W fun e w' => e = .returned (.bool b) ∧ Below W.heap.size W w') := Lib.hid fun b hb W hW => few_at c hr hm hz (BW.out _ hW) hb
  have FX : Hid (∀ b : Bool, (b = true ↔ OkO x) → ∀ W, Below W1.heap.size W1 W → Calls Tryz.prog 15 #[.slice (some ⟨W.heap.size, 0, none⟩) 1 1] (W.alloc (.cells #[.string x.n, .slice Ag x.gr.length cg, .slice Af x.sn.length cf, .string x.go, .int .i64 x.st, .int .i64 x.r.e, .string x.r.at_, .string x.r.tx, .slice Ar x.r.fs.length cr] 29)) fun e w' => e = .returned (.bool b) ∧ Below W.heap.size W w') := Lib.hid fun b hb W hW => few_new hp hx (BW.out _ hW) hb
  obtain ⟨m, f, hs⟩ : ∃ m f, apply wrongV orderB l ⟨k, x⟩ = (m, f) := ⟨_, _, rfl⟩
  obtain ⟨q, hq⟩ : ∃ q, m.length = q := ⟨_, rfl⟩
  have AP : Hid (FewP l → OkO x → ∀ W F d, Below W1.heap.size W1 W → Ops W F l → l.length ≤ d → Calls Tryz.prog 17 #[.slice F l.length d, .agg #[.int .i64 k, .string x.n, .slice Ag x.gr.length cg, .slice Af x.sn.length cf, .string x.go, .int .i64 x.st, .int .i64 x.r.e, .string x.r.at_, .string x.r.tx, .slice Ar x.r.fs.length cr]] W (ExSays m q f W)) := Lib.hid fun h1 h2 W F d hW ho hd => apply_in (hE.below (BW.out _ hW)) hs h1.2 h2 ho rfl hq (by have := h1.1; omega) hd (hp.below (BW.out _ hW))
  have RP : Hid (FewP l → OkO x → ∀ W, Below W1.heap.size W1 W → Calls Tryz.prog 18 #[.slice A l.length c, .agg #[.int .i64 k, .string x.n, .slice Ag x.gr.length cg, .slice Af x.sn.length cf, .string x.go, .int .i64 x.st, .int .i64 x.r.e, .string x.r.at_, .string x.r.tx, .slice Ar x.r.fs.length cr]] W (ExSays m q f W)) := Lib.hid fun h1 h2 W hW => rapply_in hs h1.2 h2 (hr.below (BW.out _ hW)) rfl hq (by have := h1.1; omega) hc hcm (hp.below (BW.out _ hW)) (Caps.below hcap hp.g (BW.out _ hW))
  have KP : Hid (FewP l → OkO x → (∀ y ∈ m, OkO y) ∧ q ≤ 1000) := Lib.hid fun h1 h2 => by
    have := apply_keeps hs h1.2 h2
    have h3 := h1.1
    exact ⟨this.1, by omega⟩
  have HR := Lib.hid hr
  clear hE hr hm hz hc hcm hp hx hs hb1 k0 hcap
  unfold evOf
  by_cases h1 : FewP l
  · by_cases h2 : OkO x
    · have FA1 := Lib.hid (FA.out true (by simp [h1]))
      have FX1 := Lib.hid (FX.out true (by simp [h2]))
      have AP1 := Lib.hid (AP.out h1 h2)
      have RP1 := Lib.hid (RP.out h1 h2)
      have KP1 := Lib.hid (KP.out h1 h2)
      have HL := Lib.hid h1.2
      have hl30 := h1.1
      have ef : (f == f) = true := by simp
      clear FA FX AP RP KP h1 h2
      unfold ExSays at AP1 RP1
      go_enter Tryz.func3, Tryz.ntmps3
      go_upto_region 3 with (first | (go_at_call 15; rw [← eW]; clear eW; (with_reducible refine (FA1.out _ (Below.refl _ _)).mono ?_); rintro e w1 ⟨rfl, b1⟩; obtain ⟨x0, x1, x2, x3, x4, x5, x6, x7, x8, x9⟩ := ten (KX.out _ b1)) | (go_at_call 15; (with_reducible refine (FX1.out _ b1).mono ?_); rintro e w2 ⟨rfl, b2'⟩; have b2 := b1.trans (b2'.mono b1.size)))
      obtain ⟨WC, eC⟩ : ∃ WC, WC = w2.alloc (.cells #[] 29) := ⟨_, rfl⟩
      have bC : Below W1.heap.size W1 WC := by rw [eC]; exact b2.alloc b2.size _
      have own0 : WC.ownsRow w2.heap.size 29 9 (.slice (some ⟨w2.heap.size, 0, none⟩) 0 0) 0 [] := by rw [eC]; exact World.ownsRow_made w2 #[] 0 (Nat.le_refl _) (Nat.zero_le _) rfl
      have hC2 : w2.heap.size ≤ WC.heap.size := by rw [eC]; simp
      have b2C : Below w2.heap.size w2 WC := by rw [eC]; exact (Below.refl _ _).alloc (Nat.le_refl _) _
      obtain ⟨cs, hv, hrd⟩ := HR.out
      have HV := Lib.hid hv
      have HC := Lib.hid (OVs.cell hv)
      have BC := Lib.hid (BW.out _ bC)
      have RD : Hid (Reads WC WC.heap.size 9 A l.length cs) := Lib.hid ((hrd.below BC.out).more BC.out.size)
      clear hv hrd
      obtain ⟨z, hzi, hzs⟩ := infoO
      obtain ⟨i0, hi, hz0, hz1, hz2⟩ := Lg.info_parts hzi
      clear hzi
      go_wp2_with (first | (at_builtin; rw [← eC]; clear eC; refine wpList_append_any _ rfl (.tmp 21) (.tmp 22) 22 rfl w2.heap.size 29 i0 z 9 152 Tryz.underlying22 hi hz0 hz1 hz2 hzs (by decide) (.slice (some ⟨w2.heap.size, 0, none⟩) 0 0) 0 [] rfl own0 WC.heap.size A l.length c cs rfl RD.out HC.out (by simp only [maxLen]; omega) (by omega) hC2 ?_; intro v1 w3 hown hg hat; have hb3w := b2C.grown hg b2C.size (fun k hk => by simp [Value.ownBlock] at hk; omega); rw [Nat.zero_add, List.nil_append] at hown; obtain ⟨A1, c1, rfl, hc1⟩ := own_sliceO hown; have b3 := b2.trans (hb3w.mono b2.size); have O3 : Hid (Ops w3 A1 l) := Lib.hid ⟨cs, HV.out.below (BW.out _ b3), Reads.of_own hown⟩; obtain ⟨u0, u1, u2, u3, u4, u5, u6, u7, u8, u9⟩ := ten (KX.out _ b3); clear hown hg hat own0 hC2 b2C) | (go_at_call 17; (with_reducible refine (AP1.out _ _ _ b3 O3.out hc1).mono ?_); rintro e w4 ⟨⟨P4, c4, rfl, hc4, ho4⟩, b4'⟩; have b4 := b3.trans (b4'.mono b3.size); have O4 := Lib.hid ho4; have O34 := Lib.hid (O3.out.below b4'); clear ho4; obtain ⟨y0, y1, y2, y3, y4, y5, y6, y7, y8, y9⟩ := ten (KX.out _ b4)) | (go_at_call 18; (with_reducible refine (RP1.out _ b4).mono ?_); rintro e w5 ⟨⟨P5, c5, rfl, hc5, ho5⟩, b5'⟩; have b5 := b4.trans (b5'.mono b4.size); have O5 := Lib.hid ho5; have O45 := Lib.hid (O4.out.below b5'); have O35 := Lib.hid (O34.out.below b5'); have S1 := Lib.hid (rsame_of (c := c4) (d := c5) KP1.out.1 O45.out O5.out hq KP1.out.2); clear ho5) | (go_at_call 19; (with_reducible refine (S1.out).mono ?_); rintro e w6 ⟨rfl, b6'⟩; have b6 := b5.trans (b6'.mono b5.size); have S2 := Lib.hid (rsame_of (c := c1) (d := c) HL.out (O35.out.below b6') (HR.out.below (BW.out _ b6)) rfl (by omega))) | (go_at_call 19; (with_reducible refine (S2.out).mono ?_); rintro e w7 ⟨rfl, b7'⟩; have b7 := b6.trans (b7'.mono b6.size)) | (go_at_call 16; (with_reducible refine (AW.out _ b7).mono ?_); rintro e w9 ⟨rfl, b9⟩))
      go_ret
      exact ⟨rfl, BW.out _ (b7.trans (b9.mono b7.size))⟩
    · have FA1 := Lib.hid (FA.out true (by simp [h1]))
      have FX1 := Lib.hid (FX.out false (by simp [h2]))
      clear FA FX AP RP KP h1 h2
      go_enter Tryz.func3, Tryz.ntmps3
      go_wp2_with (first | (go_at_call 15; rw [← eW]; clear eW; (with_reducible refine (FA1.out _ (Below.refl _ _)).mono ?_); rintro e w1 ⟨rfl, b1⟩; obtain ⟨x0, x1, x2, x3, x4, x5, x6, x7, x8, x9⟩ := ten (KX.out _ b1)) | (go_at_call 15; (with_reducible refine (FX1.out _ b1).mono ?_); rintro e w2 ⟨rfl, b2'⟩; have b2 := b1.trans (b2'.mono b1.size)) | (go_at_call 16; (with_reducible refine (AW.out _ b2).mono ?_); rintro e w9 ⟨rfl, b9⟩))
      go_ret
      exact ⟨rfl, BW.out _ (b2.trans (b9.mono b2.size))⟩
  · have FA1 := Lib.hid (FA.out false (by simp [h1]))
    clear FA FX AP RP KP h1
    go_enter Tryz.func3, Tryz.ntmps3
    go_wp2_with (first | (go_at_call 15; rw [← eW]; clear eW; (with_reducible refine (FA1.out _ (Below.refl _ _)).mono ?_); rintro e w1 ⟨rfl, b1⟩; obtain ⟨x0, x1, x2, x3, x4, x5, x6, x7, x8, x9⟩ := ten (KX.out _ b1)) | (go_at_call 16; (with_reducible refine (AW.out _ b1).mono ?_); rintro e w9 ⟨rfl, b9⟩))
    go_ret
    exact ⟨rfl, BW.out _ (b1.trans (b9.mono b1.size))⟩
end Go.Proofs.YtnheahologecfaaGreatDoor.Ops
