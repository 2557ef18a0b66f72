/- Joined by mkmerged.py: MnAwake, MnLaw1. -/
import Derived.Test.YtdidnlkilleljaaGreatDoorMf33
import Derived.Test.YtdidnlkilleljaaGreatDoorMf35
import Derived.Deep.RegionHeld3
/- MnAwake, what a claim needs of it (prune.py). -/
namespace Go.Proofs.YtdidnlkilleljaaGreatDoor.Mn
open Go.RowKit
open Gr (Tgs TgAt Fits)
set_option linter.unusedVariables false
set_option maxRecDepth 100000
theorem tgs_one (w : World) (t : Tg) (Ad As : Option Addr) (cd cs : Nat) (hd : Lg.Strs w Ad t.ds) (hs : Lg.Strs w As t.ss) : Gr.Tgs (w.alloc (.cells #[.string t.n, .string t.c, .slice Ad t.ds.length cd, .slice As t.ss.length cs] 47)) (some ⟨w.heap.size, 0, none⟩) [t] := fun _ => by
  have b : Below w.heap.size w (w.alloc (.cells #[.string t.n, .string t.c, .slice Ad t.ds.length cd, .slice As t.ss.length cs] 47)) := (Below.refl _ _).alloc (Nat.le_refl _) _
  have q := heap_alloc_new w (.cells #[.string t.n, .string t.c, .slice Ad t.ds.length cd, .slice As t.ss.length cs] 47)
  refine ⟨_, rfl, lt_heap q, fun k hk => ?_⟩
  obtain rfl : k = 0 := by simp at hk; omega
  exact ⟨Ad, cd, As, cs, (cell_heap q 0).trans rfl, (cell_heap q 1).trans rfl, (cell_heap q 2).trans rfl, (cell_heap q 3).trans rfl, hd.below b, hs.below b⟩
theorem tgs_two (w : World) (t u : Tg) (ht : t.ds = [] ∧ t.ss = []) (hu : u.ds = [] ∧ u.ss = []) : Gr.Tgs (w.alloc (.cells #[.string t.n, .string t.c, .slice none 0 0, .slice none 0 0, .string u.n, .string u.c, .slice none 0 0, .slice none 0 0] 47)) (some ⟨w.heap.size, 0, none⟩) [t, u] := fun _ => by
  have q := heap_alloc_new w (.cells #[.string t.n, .string t.c, .slice none 0 0, .slice none 0 0, .string u.n, .string u.c, .slice none 0 0, .slice none 0 0] 47)
  refine ⟨_, rfl, lt_heap q, fun k hk => ?_⟩
  have e : ∀ V : World, Lg.Strs V none [] := fun V => Reads.none_
  have hk2 : k = 0 ∨ k = 1 := by simp at hk; omega
  rcases hk2 with rfl | rfl
  · refine ⟨none, 0, none, 0, (cell_heap q 0).trans rfl, (cell_heap q 1).trans rfl, ?_, ?_, ?_, ?_⟩
    · exact ((cell_heap q 2).trans rfl).trans (by show some (Value.slice none 0 0) = some (Value.slice none t.ds.length 0); rw [ht.1]; rfl)
    · exact ((cell_heap q 3).trans rfl).trans (by show some (Value.slice none 0 0) = some (Value.slice none t.ss.length 0); rw [ht.2]; rfl)
    · show Lg.Strs _ none t.ds; rw [ht.1]; exact e _
    · show Lg.Strs _ none t.ss; rw [ht.2]; exact e _
  · refine ⟨none, 0, none, 0, (cell_heap q 4).trans rfl, (cell_heap q 5).trans rfl, ?_, ?_, ?_, ?_⟩
    · exact ((cell_heap q 6).trans rfl).trans (by show some (Value.slice none 0 0) = some (Value.slice none u.ds.length 0); rw [hu.1]; rfl)
    · exact ((cell_heap q 7).trans rfl).trans (by show some (Value.slice none 0 0) = some (Value.slice none u.ss.length 0); rw [hu.2]; rfl)
    · show Lg.Strs _ none u.ds; rw [hu.1]; exact e _
    · show Lg.Strs _ none u.ss; rw [hu.2]; exact e _
theorem build_is {l : List Tg} {r : Rs} (h : buildF l [] nT 9 = r) {T : Option Addr} {n c : Nat} {W : World} (hE : Lg.Env W) (hr : Gr.Tgs W T l) (hn : n = l.length) (hc : n ≤ c) (hl : l.length ≤ 2) (hf : ∀ t ∈ l, Gr.Fits t) :
    Calls Tryz.prog 19 #[.slice T n c, .slice none 0 0, .string ⟨#[116]⟩, .int .i64 9] W (BuildSays r W) := by
  subst hn
  have := build_any T none l [] c 0 nT 9 W hE hr (by omega) hc hf Reads.none_ (by simp) (fun f hf => by cases hf)
  rw [h] at this
  exact this
theorem fits_of {l : List Tg} (h : ∀ t ∈ l, t.n.size ≤ 100 ∧ t.c.size ≤ 100 ∧ t.ds = [] ∧ t.ss.length ≤ 1 ∧ ∀ x ∈ t.ss, x.size ≤ 100) : ∀ t ∈ l, Gr.Fits t := fun t ht => by
  obtain ⟨h1, h2, h3, h4, h5⟩ := h t ht
  exact ⟨by omega, by omega, (by rw [h3]; simp), by omega, fun x hx => (by rw [h3] at hx; cases hx), fun x hx => (by have := h5 x hx; omega)⟩
set_option maxHeartbeats 4000000 in
theorem awake_any (w : World) (hE : Lg.Env w) :
    Calls Tryz.prog 14 #[] w fun e w' => e = .returned (.bool true) ∧ Below w.heap.size w w' := by
  obtain ⟨r1, er1⟩ : ∃ r, r = done [⟨⟨#[97]⟩, ⟨#[120, 10]⟩⟩] := ⟨_, rfl⟩
  obtain ⟨r2, er2⟩ : ∃ r, r = failed 31 nT ⟨#[]⟩ := ⟨_, rfl⟩
  obtain ⟨r3, er3⟩ : ∃ r, r = failed 32 nT ⟨#[113]⟩ := ⟨_, rfl⟩
  have ER1 := Lib.hid er1
  have ER2 := Lib.hid er2
  have ER3 := Lib.hid er3
  clear er1 er2 er3
  have B1 : Hid (∀ V, Below w.heap.size w V → Calls Tryz.prog 19 #[.slice (some ⟨V.heap.size, 0, none⟩) 1 1, .slice none 0 0, .string ⟨#[116]⟩, .int .i64 9] (V.alloc (.cells #[.string ⟨#[116]⟩, .string ⟨#[112, 117, 116, 32, 111, 117, 116, 47, 97, 32, 120, 10]⟩, .slice none 0 0, .slice none 0 0] 47)) (BuildSays r1 (V.alloc (.cells #[.string ⟨#[116]⟩, .string ⟨#[112, 117, 116, 32, 111, 117, 116, 47, 97, 32, 120, 10]⟩, .slice none 0 0, .slice none 0 0] 47)))) := Lib.hid fun V hV => by
    have h1 : Gr.Tgs (V.alloc (.cells #[.string ⟨#[116]⟩, .string ⟨#[112, 117, 116, 32, 111, 117, 116, 47, 97, 32, 120, 10]⟩, .slice none 0 0, .slice none 0 0] 47)) (some ⟨V.heap.size, 0, none⟩) exA := tgs_one V tA none none 0 0 Reads.none_ Reads.none_
    rw [ER1.out]; exact build_is exA_is (hE.below (hV.alloc hV.size _)) h1 rfl (by omega) (by decide) (fits_of (by decide))
  have B2 : Hid (∀ V g, V.heap.size = g → Below w.heap.size w V → Calls Tryz.prog 19 #[.slice (some ⟨g, 0, none⟩) 2 2, .slice none 0 0, .string ⟨#[116]⟩, .int .i64 9] (V.alloc (.cells #[.string ⟨#[116]⟩, .string ⟨#[110, 101, 101, 100, 32, 117, 10]⟩, .slice none 0 0, .slice none 0 0, .string ⟨#[117]⟩, .string ⟨#[110, 101, 101, 100, 32, 116, 10]⟩, .slice none 0 0, .slice none 0 0] 47)) (BuildSays r2 (V.alloc (.cells #[.string ⟨#[116]⟩, .string ⟨#[110, 101, 101, 100, 32, 117, 10]⟩, .slice none 0 0, .slice none 0 0, .string ⟨#[117]⟩, .string ⟨#[110, 101, 101, 100, 32, 116, 10]⟩, .slice none 0 0, .slice none 0 0] 47)))) := Lib.hid fun V g hg hV => by
    subst hg
    have h1 : Gr.Tgs (V.alloc (.cells #[.string ⟨#[116]⟩, .string ⟨#[110, 101, 101, 100, 32, 117, 10]⟩, .slice none 0 0, .slice none 0 0, .string ⟨#[117]⟩, .string ⟨#[110, 101, 101, 100, 32, 116, 10]⟩, .slice none 0 0, .slice none 0 0] 47)) (some ⟨V.heap.size, 0, none⟩) exB := tgs_two V tB tU ⟨rfl, rfl⟩ ⟨rfl, rfl⟩
    rw [ER2.out]; exact build_is exB_is (hE.below (hV.alloc hV.size _)) h1 rfl (by omega) (by decide) (fits_of (by decide))
  have B3 : Hid (∀ V g g1, V.heap.size = g → V.heap.size + 1 = g1 → Below w.heap.size w V → Calls Tryz.prog 19 #[.slice (some ⟨g1, 0, none⟩) 1 1, .slice none 0 0, .string ⟨#[116]⟩, .int .i64 9] ((V.alloc (.cells #[.string ⟨#[113]⟩] 9)).alloc (.cells #[.string ⟨#[116]⟩, .string ⟨#[]⟩, .slice none 0 0, .slice (some ⟨g, 0, none⟩) 1 1] 47)) (BuildSays r3 ((V.alloc (.cells #[.string ⟨#[113]⟩] 9)).alloc (.cells #[.string ⟨#[116]⟩, .string ⟨#[]⟩, .slice none 0 0, .slice (some ⟨g, 0, none⟩) 1 1] 47)))) := Lib.hid fun V g g1 hg hg1 hV => by
    subst hg hg1
    have q := heap_alloc_new V (.cells #[.string ⟨#[113]⟩] 9)
    have hs : Lg.Strs (V.alloc (.cells #[.string ⟨#[113]⟩] 9)) (some ⟨V.heap.size, 0, none⟩) [⟨#[113]⟩] := ⟨rfl, fun _ => ⟨_, rfl, lt_heap q, fun j u hu => by
      have hj : j = 0 := by have := List.getElem?_eq_some_iff.1 hu; obtain ⟨h, _⟩ := this; simp at h; omega
      subst hj
      exact ((cell_heap q 0).trans rfl : _ = some (Value.string ⟨#[113]⟩)).trans hu⟩⟩
    have h1 : Gr.Tgs ((V.alloc (.cells #[.string ⟨#[113]⟩] 9)).alloc (.cells #[.string ⟨#[116]⟩, .string ⟨#[]⟩, .slice none 0 0, .slice (some ⟨V.heap.size, 0, none⟩) 1 1] 47)) (some ⟨(V.alloc (.cells #[.string ⟨#[113]⟩] 9)).heap.size, 0, none⟩) exC := tgs_one (V.alloc (.cells #[.string ⟨#[113]⟩] 9)) ⟨nT, ⟨#[]⟩, [], [⟨#[113]⟩]⟩ none (some ⟨V.heap.size, 0, none⟩) 0 1 Reads.none_ hs
    have e : (V.alloc (.cells #[.string ⟨#[113]⟩] 9)).heap.size = V.heap.size + 1 := by simp
    rw [e] at h1
    rw [ER3.out]; exact build_is exC_is (hE.below ((hV.alloc hV.size _).alloc (hV.alloc hV.size _).size _)) h1 rfl (by omega) (by decide) (fits_of (by decide))
  go_enter Tryz.func14, Tryz.ntmps14
  go_upto_region 4 with (first
    | (go_at_call 19; (with_reducible refine (B1.out w (Below.refl _ _)).mono ?_); rintro e w1 ⟨A1, c1, rfl, hf1, hc1, b1⟩; have b01 : Below w.heap.size w w1 := ((Below.refl _ _).alloc (Nat.le_refl _) _).trans (b1.mono (by simp)); have BB := Lib.hid (fun o => b01.alloc b01.size o))
    | (go_at_call 19; (with_reducible refine (B2.out _ _ (by simp) (BB.out _)).mono ?_); rintro e w2 ⟨A2, c2, rfl, hf2, hc2, b2⟩; have b02 : Below w.heap.size w w2 := ((BB.out _).alloc (BB.out _).size _).trans (b2.mono ((BB.out _).alloc (BB.out _).size _).size); have BC := Lib.hid (fun o => b02.alloc b02.size o))
    | (go_at_call 19; (with_reducible refine (B3.out _ _ _ (by simp) (by simp) (BC.out _)).mono ?_); rintro e w3 ⟨A3, c3, rfl, hf3, hc3, b3⟩))
  have K12 := heap_below b2 (by simp; omega) (heap_alloc_lt (heap_alloc_new w1 _))
  have K13 := heap_below b3 (by have := lt_heap K12; simp; omega) (heap_alloc_lt (heap_alloc_lt (heap_alloc_lt K12)))
  have K23 := heap_below b3 (by simp; omega) (heap_alloc_lt (heap_alloc_lt (heap_alloc_new w2 _)))
  have D12 : Below w1.heap.size w1 w2 := ((((Below.refl _ _).alloc (Nat.le_refl _) _).alloc (by simp) _).trans (b2.mono (by simp; omega)))
  have D23 : Below w2.heap.size w2 w3 := (((((Below.refl _ _).alloc (Nat.le_refl _) _).alloc (by simp) _).alloc (by simp; omega) _).trans (b3.mono (by simp; omega)))
  have H3 : Below w.heap.size w w3 := b02.trans (D23.mono b02.size)
  obtain ⟨V, eV⟩ : ∃ V, V = w3.alloc (.cells #[.int .i64 r3.err, .string r3.at_, .string r3.text, .slice A3 r3.files.length c3] 37) := ⟨_, rfl⟩
  rw [← eV]
  have dV : Below w3.heap.size w3 V := by rw [eV]; exact (Below.refl _ _).alloc (Nat.le_refl _) _
  have K3 : V.heap[w3.heap.size]? = some (.cells #[.int .i64 r3.err, .string r3.at_, .string r3.text, .slice A3 r3.files.length c3] 37 (0, 0)) := by rw [eV]; exact heap_alloc_new w3 _
  have K1 := heap_below dV (lt_heap K13) K13
  have K2 := heap_below dV (lt_heap K23) K23
  have HV := Lib.hid (H3.trans (dV.mono H3.size))
  have s12 := D12.size
  have s23 := D23.size
  have E2 : Below w2.heap.size w2 V := D23.trans (dV.mono s23)
  have E1 : Below w1.heap.size w1 V := D12.trans (E2.mono s12)
  have CF : Hid (∀ W, Below V.heap.size V W → ((W.cell? ⟨w1.heap.size, 0, none⟩ = some (.int .i64 r1.err) ∧ W.cell? ⟨w1.heap.size, 1, none⟩ = some (.string r1.at_) ∧ W.cell? ⟨w1.heap.size, 2, none⟩ = some (.string r1.text) ∧ W.cell? ⟨w1.heap.size, 3, none⟩ = some (.slice A1 r1.files.length c1)) ∧
      (W.cell? ⟨w2.heap.size, 0, none⟩ = some (.int .i64 r2.err) ∧ W.cell? ⟨w2.heap.size, 1, none⟩ = some (.string r2.at_) ∧ W.cell? ⟨w2.heap.size, 2, none⟩ = some (.string r2.text) ∧ W.cell? ⟨w2.heap.size, 3, none⟩ = some (.slice A2 r2.files.length c2)) ∧
      W.cell? ⟨w3.heap.size, 0, none⟩ = some (.int .i64 r3.err) ∧ W.cell? ⟨w3.heap.size, 1, none⟩ = some (.string r3.at_) ∧ W.cell? ⟨w3.heap.size, 2, none⟩ = some (.string r3.text) ∧ W.cell? ⟨w3.heap.size, 3, none⟩ = some (.slice A3 r3.files.length c3))) := Lib.hid fun W hW => by
    have q1 := heap_below hW (lt_heap K1) K1
    have q2 := heap_below hW (lt_heap K2) K2
    have q3 := heap_below hW (lt_heap K3) K3
    exact ⟨⟨(cell_heap q1 0).trans rfl, (cell_heap q1 1).trans rfl, (cell_heap q1 2).trans rfl, (cell_heap q1 3).trans rfl⟩, ⟨(cell_heap q2 0).trans rfl, (cell_heap q2 1).trans rfl, (cell_heap q2 2).trans rfl, (cell_heap q2 3).trans rfl⟩, (cell_heap q3 0).trans rfl, (cell_heap q3 1).trans rfl, (cell_heap q3 2).trans rfl, (cell_heap q3 3).trans rfl⟩
  have SM1 : Hid (Calls Tryz.prog 15 #[.agg #[.int .i64 r1.err, .string r1.at_, .string r1.text, .slice A1 r1.files.length c1], .agg #[.int .i64 0, .string ⟨#[]⟩, .string ⟨#[]⟩, .slice (some ⟨V.heap.size, 0, none⟩) 1 1]] (V.alloc (.cells #[.string ⟨#[97]⟩, .string ⟨#[120, 10]⟩] 49)) fun e w' => e = .returned (.bool true) ∧ Below V.heap.size V w') := Lib.hid (by
    have e1 : Below w1.heap.size w1 (V.alloc (.cells #[.string ⟨#[97]⟩, .string ⟨#[120, 10]⟩] 49)) := E1.alloc E1.size _
    have this := msame_any r1 (done [⟨⟨#[97]⟩, ⟨#[120, 10]⟩⟩]) A1 (some ⟨V.heap.size, 0, none⟩) c1 1 (V.alloc (.cells #[.string ⟨#[97]⟩, .string ⟨#[120, 10]⟩] 49)) (by rw [ER1.out]; decide) (by decide) ((hf1.below e1).more e1.size)
      ⟨rfl, fun _ => ⟨_, rfl, by simp, fun j u hu => by rw [Lg.add_eq, cell_heap (heap_alloc_new V _)]; have hu2 : (Fs.fc [⟨⟨#[97]⟩, ⟨#[120, 10]⟩⟩])[j]? = some u := hu; rw [Fs.fc_one] at hu2; simpa [bs] using hu2⟩⟩
    rw [decide_eq_true ER1.out] at this
    refine this.mono ?_
    rintro e w' ⟨h1, h2⟩
    exact ⟨h1, ((Below.refl _ _).alloc (Nat.le_refl _) _).trans (h2.mono (by simp))⟩)
  have SM2 : Hid (∀ W, Below V.heap.size V W → Calls Tryz.prog 15 #[.agg #[.int .i64 r2.err, .string r2.at_, .string r2.text, .slice A2 r2.files.length c2], .agg #[.int .i64 31, .string ⟨#[116]⟩, .string ⟨#[]⟩, .slice none 0 0]] W fun e w' => e = .returned (.bool true) ∧ Below W.heap.size W w') := Lib.hid fun W hW => by
    have e1 : Below w2.heap.size w2 W := E2.trans (hW.mono E2.size)
    have this := msame_any r2 (failed 31 nT ⟨#[]⟩) A2 none c2 0 W (by rw [ER2.out]; decide) (by decide) ((hf2.below e1).more e1.size) Reads.none_
    rw [decide_eq_true ER2.out] at this
    exact this
  have SM3 : Hid (∀ W, Below V.heap.size V W → Calls Tryz.prog 15 #[.agg #[.int .i64 r3.err, .string r3.at_, .string r3.text, .slice A3 r3.files.length c3], .agg #[.int .i64 32, .string ⟨#[116]⟩, .string ⟨#[113]⟩, .slice none 0 0]] W fun e w' => e = .returned (.bool true) ∧ Below W.heap.size W w') := Lib.hid fun W hW => by
    have e1 : Below w3.heap.size w3 W := dV.trans (hW.mono dV.size)
    have this := msame_any r3 (failed 32 nT ⟨#[113]⟩) A3 none c3 0 W (by rw [ER3.out]; decide) (by decide) ((hf3.below e1).more e1.size) Reads.none_
    rw [decide_eq_true ER3.out] at this
    exact this
  clear eV K1 K2 K3 K12 K13 K23 D12 D23 dV E1 E2 s12 s23 H3 b1 b2 b3 hf1 hf2 hf3 hc1 hc2 hc3 b01 b02 BB BC B1 B2 B3 ER1 ER2 ER3
  obtain ⟨⟨x0, x1, x2, x3⟩, ⟨y0, y1, y2, y3⟩, z0, z1, z2, z3⟩ := CF.out V (Below.refl _ _)
  go_wp2_with (first
    | (go_at_call 15; (with_reducible refine (SM1.out).mono ?_); rintro e w4 ⟨rfl, h4⟩; clear x0 x1 x2 x3 y0 y1 y2 y3 z0 z1 z2 z3; obtain ⟨⟨x0, x1, x2, x3⟩, ⟨y0, y1, y2, y3⟩, z0, z1, z2, z3⟩ := CF.out _ h4)
    | (go_at_call 15; (with_reducible refine (SM2.out _ h4).mono ?_); rintro e w5 ⟨rfl, b5⟩; have h5 : Below V.heap.size V w5 := h4.trans (b5.mono h4.size); clear x0 x1 x2 x3 y0 y1 y2 y3 z0 z1 z2 z3; obtain ⟨⟨x0, x1, x2, x3⟩, ⟨y0, y1, y2, y3⟩, z0, z1, z2, z3⟩ := CF.out _ h5)
    | (go_at_call 15; (with_reducible refine (SM3.out _ h5).mono ?_); rintro e w6 ⟨rfl, b6⟩; have h6 : Below V.heap.size V w6 := h5.trans (b6.mono h5.size)))
  go_ret
  exact ⟨rfl, HV.out.trans (h6.mono HV.out.size)⟩
end Go.Proofs.YtdidnlkilleljaaGreatDoor.Mn
/- MnLaw1, what a claim needs of it (prune.py). -/
namespace Go.Proofs.YtdidnlkilleljaaGreatDoor.Mn
open Go.RowKit
open Fs (Fls)
set_option linter.unusedVariables false
set_option maxRecDepth 100000
theorem four_res {w : World} {g : Nat} {a0 a1 a2 a3 : Value} {T : TypeId} (h : w.heap[g]? = some (.cells #[a0, a1, a2, a3] T (0, 0))) :
    w.cell? ⟨g, 0, none⟩ = some a0 ∧ w.cell? ⟨g, 1, none⟩ = some a1 ∧ w.cell? ⟨g, 2, none⟩ = some a2 ∧ w.cell? ⟨g, 3, none⟩ = some a3 :=
  ⟨(cell_heap h 0).trans rfl, (cell_heap h 1).trans rfl, (cell_heap h 2).trans rfl, (cell_heap h 3).trans rfl⟩
set_option maxHeartbeats 8000000 in
theorem same_walk (r s : Rs) (A F : Option Addr) (c d : Nat) (w : World) (hE : Lg.Env w) (hr : Fls w A r.files) (hs : Fls w F s.files) (hl : r.files.length ≤ 9223372036854775807) (hm : s.files.length ≤ 9223372036854775807) :
    Calls Tryz.prog 4 #[.agg #[.int .i64 r.err, .string r.at_, .string r.text, .slice A r.files.length c], .agg #[.int .i64 s.err, .string s.at_, .string s.text, .slice F s.files.length d]] w fun e w' => e = .returned (.bool true) ∧ Below w.heap.size w w' := by
  have AW : Hid (∀ W, Below w.heap.size w W → Calls Tryz.prog 14 #[] W fun e w' => e = .returned (.bool true) ∧ Below W.heap.size W w') := Lib.hid fun W hW => awake_any W (hE.below hW)
  have PS : Hid (r.files.length ≤ 100 → s.files.length ≤ 100 → ∀ W, Below w.heap.size w W → Calls Tryz.prog 15 #[.agg #[.int .i64 r.err, .string r.at_, .string r.text, .slice A r.files.length c], .agg #[.int .i64 s.err, .string s.at_, .string s.text, .slice F s.files.length d]] W fun e w' => e = .returned (.bool (decide (r = s))) ∧ Below W.heap.size W w') := Lib.hid fun h1 h2 W hW => msame_any r s A F c d W (by omega) (by omega) ((hr.below hW).more hW.size) ((hs.below hW).more hW.size)
  have RS : Hid (r.files.length ≤ 100 → s.files.length ≤ 100 → ∀ W, Below w.heap.size w W → Calls Tryz.prog 16 #[.agg #[.int .i64 r.err, .string r.at_, .string r.text, .slice A r.files.length c], .agg #[.int .i64 s.err, .string s.at_, .string s.text, .slice F s.files.length d]] W fun e w' => e = .returned (.bool (decide (r = s))) ∧ Below W.heap.size W w') := Lib.hid fun h1 h2 W hW => rmsame_any r s A F c d W (by omega) (by omega) ((hr.below hW).more hW.size) ((hs.below hW).more hW.size)
  have AA : Hid (r.files.length ≤ 100 → ∀ W, Below w.heap.size w W → Calls Tryz.prog 15 #[.agg #[.int .i64 r.err, .string r.at_, .string r.text, .slice A r.files.length c], .agg #[.int .i64 r.err, .string r.at_, .string r.text, .slice A r.files.length c]] W fun e w' => e = .returned (.bool true) ∧ Below W.heap.size W w') := Lib.hid fun h1 W hW => by
    have := msame_any r r A A c c W (by omega) (by omega) ((hr.below hW).more hW.size) ((hr.below hW).more hW.size)
    rw [decide_eq_true rfl] at this
    exact this
  clear hE hr hs
  generalize decide (r = s) = v at *
  generalize r.err = a0 at *
  generalize r.at_ = a1 at *
  generalize r.text = a2 at *
  generalize r.files.length = a3 at *
  generalize s.err = b0 at *
  generalize s.at_ = b1 at *
  generalize s.text = b2 at *
  generalize s.files.length = b3 at *
  obtain ⟨W2, eW⟩ : ∃ W2, W2 = (w.alloc (.cells #[.int .i64 a0, .string a1, .string a2, .slice A a3 c] 37)).alloc (.cells #[.int .i64 b0, .string b1, .string b2, .slice F b3 d] 37) := ⟨_, rfl⟩
  have hb2 : Below w.heap.size w W2 := by rw [eW]; exact ((Below.refl _ _).alloc (Nat.le_refl _) _).alloc (by simp) _
  have q2 : W2.heap[w.heap.size + 1]? = some (.cells #[.int .i64 b0, .string b1, .string b2, .slice F b3 d] 37 (0, 0)) := by
    rw [eW]
    have := heap_alloc_new (w.alloc (.cells #[.int .i64 a0, .string a1, .string a2, .slice A a3 c] 37)) (.cells #[.int .i64 b0, .string b1, .string b2, .slice F b3 d] 37)
    simpa using this
  have q1 : W2.heap[w.heap.size]? = some (.cells #[.int .i64 a0, .string a1, .string a2, .slice A a3 c] 37 (0, 0)) := by
    rw [eW]
    exact heap_alloc_lt (heap_alloc_new w _)
  have SX : Hid (∀ W, Below W2.heap.size W2 W → (fun W => (W.cell? ⟨w.heap.size, 0, none⟩ = some (.int .i64 a0) ∧ W.cell? ⟨w.heap.size, 1, none⟩ = some (.string a1) ∧ W.cell? ⟨w.heap.size, 2, none⟩ = some (.string a2) ∧ W.cell? ⟨w.heap.size, 3, none⟩ = some (.slice A a3 c)) ∧ W.cell? ⟨w.heap.size + 1, 0, none⟩ = some (.int .i64 b0) ∧ W.cell? ⟨w.heap.size + 1, 1, none⟩ = some (.string b1) ∧ W.cell? ⟨w.heap.size + 1, 2, none⟩ = some (.string b2) ∧ W.cell? ⟨w.heap.size + 1, 3, none⟩ = some (.slice F b3 d)) W) := Lib.hid fun W hW => ⟨four_res (heap_below hW (lt_heap q1) q1), four_res (heap_below hW (lt_heap q2) q2)⟩
  have HB := Lib.hid (fun W (hW : Below W2.heap.size W2 W) => hb2.trans (hW.mono hb2.size))
  clear q1 q2 hb2
  obtain ⟨⟨x0, x1, x2, x3⟩, y0, y1, y2, y3⟩ := SX.out W2 (Below.refl _ _)
  by_cases h1 : 100 < a3
  · have i1 : (100 : Int) < (a3 : Int) := by omega
    clear PS RS AA
    go_enter Tryz.func4, Tryz.ntmps4
    go_wp2_with (go_at_call 14; rw [← eW]; (with_reducible refine (AW.out _ (HB.out _ (Below.refl _ _))).mono ?_); rintro e w9 ⟨rfl, b9⟩)
    go_ret
    exact ⟨rfl, (HB.out _ (Below.refl _ _)).trans (b9.mono (HB.out _ (Below.refl _ _)).size)⟩
  have i1 : ¬ (100 : Int) < (a3 : Int) := by omega
  by_cases h2 : 100 < b3
  · have i2 : (100 : Int) < (b3 : Int) := by omega
    clear PS RS AA
    go_enter Tryz.func4, Tryz.ntmps4
    go_wp2_with (go_at_call 14; rw [← eW]; (with_reducible refine (AW.out _ (HB.out _ (Below.refl _ _))).mono ?_); rintro e w9 ⟨rfl, b9⟩)
    go_ret
    exact ⟨rfl, (HB.out _ (Below.refl _ _)).trans (b9.mono (HB.out _ (Below.refl _ _)).size)⟩
  have i2 : ¬ (100 : Int) < (b3 : Int) := by omega
  have PS1 : Hid (∀ W, Below W2.heap.size W2 W → Calls Tryz.prog 15 #[.agg #[.int .i64 a0, .string a1, .string a2, .slice A a3 c], .agg #[.int .i64 b0, .string b1, .string b2, .slice F b3 d]] W fun e w' => e = .returned (.bool v) ∧ Below W.heap.size W w') := Lib.hid fun W hW => PS.out (by omega) (by omega) W (HB.out W hW)
  have RS1 : Hid (∀ W, Below W2.heap.size W2 W → Calls Tryz.prog 16 #[.agg #[.int .i64 a0, .string a1, .string a2, .slice A a3 c], .agg #[.int .i64 b0, .string b1, .string b2, .slice F b3 d]] W fun e w' => e = .returned (.bool v) ∧ Below W.heap.size W w') := Lib.hid fun W hW => RS.out (by omega) (by omega) W (HB.out W hW)
  have AA1 : Hid (∀ W, Below W2.heap.size W2 W → Calls Tryz.prog 15 #[.agg #[.int .i64 a0, .string a1, .string a2, .slice A a3 c], .agg #[.int .i64 a0, .string a1, .string a2, .slice A a3 c]] W fun e w' => e = .returned (.bool true) ∧ Below W.heap.size W w') := Lib.hid fun W hW => AA.out (by omega) W (HB.out W hW)
  have AW1 : Hid (∀ W, Below W2.heap.size W2 W → Calls Tryz.prog 14 #[] W fun e w' => e = .returned (.bool true) ∧ Below W.heap.size W w') := Lib.hid fun W hW => AW.out W (HB.out W hW)
  clear PS RS AA AW h1 h2
  have D0 : Below W2.heap.size W2 W2.drew := (Below.refl _ _).drew
  have kS0 := SX.out W2 (Below.refl _ _)
  have kS1 := SX.out W2.drew D0
  cases v
  all_goals
    go_enter Tryz.func4, Tryz.ntmps4
    go_upto_region 3 with (fail)
    rw [← eW]
    clear eW x0 x1 x2 x3 y0 y1 y2 y3
    go_region_held3 (fun W => (W.cell? ⟨w.heap.size, 0, none⟩ = some (.int .i64 a0) ∧ W.cell? ⟨w.heap.size, 1, none⟩ = some (.string a1) ∧ W.cell? ⟨w.heap.size, 2, none⟩ = some (.string a2) ∧ W.cell? ⟨w.heap.size, 3, none⟩ = some (.slice A a3 c)) ∧ W.cell? ⟨w.heap.size + 1, 0, none⟩ = some (.int .i64 b0) ∧ W.cell? ⟨w.heap.size + 1, 1, none⟩ = some (.string b1) ∧ W.cell? ⟨w.heap.size + 1, 2, none⟩ = some (.string b2) ∧ W.cell? ⟨w.heap.size + 1, 3, none⟩ = some (.slice F b3 d)) (first | (with_reducible exact kS0) | (with_reducible exact kS1) | (with_reducible exact SX.out _ D3) | (with_reducible exact SX.out _ D4) | (with_reducible exact SX.out _ D5) | (with_reducible exact SX.out _ D6)) (first
      | (go_at_call 15; first
        | ((with_reducible refine (PS1.out _ D0).mono ?_); rintro e w3 ⟨rfl, b3'⟩; have D3 : Below W2.heap.size W2 w3 := D0.trans (b3'.mono D0.size))
        | ((with_reducible refine (AA1.out _ D4).mono ?_); rintro e w5 ⟨rfl, b5'⟩; have D5 : Below W2.heap.size W2 w5 := D4.trans (b5'.mono D4.size)))
      | (go_at_call 16; (with_reducible refine (RS1.out _ D3).mono ?_); rintro e w4 ⟨rfl, b4'⟩; have D4 : Below W2.heap.size W2 w4 := D3.trans (b4'.mono D3.size))
      | (go_at_call 14; (with_reducible refine (AW1.out _ D5).mono ?_); rintro e w6 ⟨rfl, b6'⟩; have D6 : Below W2.heap.size W2 w6 := D5.trans (b6'.mono D5.size)))
    all_goals
      go_wp2_with (fail)
      go_ret
      exact ⟨rfl, HB.out _ D6⟩
end Go.Proofs.YtdidnlkilleljaaGreatDoor.Mn
