/- Joined by mkmerged.py: SvBoxRun. -/
import Derived.Test.YtifiipmmgnmciaaGreatDoorMi23
import Derived.Test.YtifiipmmgnmciaaGreatDoorMi32
import Derived.Test.YtifiipmmgnmciaaGreatDoorMi22
/- SvBoxRun, what a claim needs of it (prune.py). -/
namespace Go.Proofs.YtifiipmmgnmciaaGreatDoor.Sv
open Go.RowKit Go.Maps
open Lg (BelowX)
set_option linter.unusedVariables false
set_option maxRecDepth 100000
abbrev zeroU : Array Value := #[.int .i64 0, .slice none 0 0, .string ⟨#[]⟩, .int .i64 0, .string ⟨#[]⟩, .int .i64 0]
theorem set6u {w : World} {g : Nat} {a b c d e f : Value} {T : TypeId} (h : w.heap[g]? = some (.cells #[a, b, c, d, e, f] T (0, 0))) (a' b' c' d' e' f' : Value) :
    ((((((w.setCell ⟨g, 0, none⟩ a').setCell ⟨g, 1, none⟩ b').setCell ⟨g, 2, none⟩ c').setCell ⟨g, 3, none⟩ d').setCell ⟨g, 4, none⟩ e').setCell ⟨g, 5, none⟩ f').heap[g]? = some (.cells #[a', b', c', d', e', f'] T (0, 0)) :=
  (heap_set (heap_set (heap_set (heap_set (heap_set (heap_set h)))))).trans rfl
theorem load_outU {W : World} {g : Nat} {cs : Array Value} (h : W.heap[g]? = some (.cells cs 44 (0, 0))) (hs : cs.size = 6) : (loadVar 44 ⟨g, 0, none⟩).run Tryz.prog W = .ok (.agg cs) W :=
  run_loadVar_row W g 44 44 cs (0, 0) _ h rfl rfl (by rw [hs]; kernel_rfl)
theorem fls_one {V : World} {g : Nat} {p d : ByteArray} (h : FileB V g p d) : Fs.Fls V (some ⟨g, 0, none⟩) [⟨p, d⟩] := by
  obtain ⟨cs, h1, h2, h3⟩ := h
  refine ⟨rfl, fun _ => ⟨_, rfl, Lg.lt_heap h1, fun j v hj => ?_⟩⟩
  rw [Lg.add_eq, cell_heap h1]
  match j, hj with
  | 0, hj => cases hj; exact h2
  | 1, hj => cases hj; exact h3
  | j + 2, hj => cases hj
def RanB (p d : ByteArray) (w : World) (e : Ending) (w' : World) : Prop := (∃ gf cf, e = .returned (.agg #[.int .i64 1, .slice (some ⟨gf, 0, none⟩) 1 cf, .string ⟨#[]⟩, .int .i64 0, .string ⟨#[]⟩, .int .i64 2]) ∧ w.heap.size ≤ gf ∧ gf < w'.heap.size ∧ 1 ≤ cf ∧ FileB w' gf p d) ∧ Below w.heap.size w w'
set_option maxHeartbeats 8000000 in
theorem run1 (w : World) (p q y d : ByteArray) (hE : Lg.Env w) (hp0 : Lg.pathE (Lg.tl p) = 0) (hp : p.size ≤ 100) (hd : d.size = 2) (hy : y ++ ⟨#[10]⟩ = d) (hys : y.size ≤ 1000) (hu : Fs.under [⟨p, d⟩] (Lg.tl ⟨#[111, 117, 116]⟩) = [⟨q, d⟩])
    (sd : Addr) (mc : Nat) (hl : LineAt w sd p y)
    (RI : ∀ W, Below w.heap.size w W → Calls Tryz.prog 89 #[.slice (some sd) 1 mc] W fun e w' => e = .returned (.int .i64 0) ∧ Below W.heap.size W w') :
    Calls Tryz.prog 49 #[.slice (some sd) 1 mc, .slice none 0 0, .slice none 0 0, .int .i64 50] w (RanB q d w) := by
  obtain ⟨W1, eW⟩ : ∃ W1, W1 = w.alloc (.cells zeroU 44) := ⟨_, rfl⟩
  have hb1 : Below w.heap.size w W1 := by rw [eW]; exact (Below.refl _ _).alloc (Nat.le_refl _) _
  have q1 : W1.heap[w.heap.size]? = some (.cells zeroU 44 (0, 0)) := by rw [eW]; exact heap_alloc_new w _
  have RR := Lib.hid (RI W1 hb1)
  have ALL : Hid (∀ V, Below W1.heap.size W1 V → Calls Tryz.prog 90 #[.pointer (some ⟨V.heap.size, 0, none⟩), .slice (some sd) 1 mc] (V.alloc (.cells #[.slice none 0 0, .slice none 0 0, .int .i64 50, .int .i64 0, .slice none 0 0, .string ⟨#[]⟩, .int .i64 0, .string ⟨#[]⟩, .int .i64 0] 193))
      fun e w' => e = .returned (.tuple #[]) ∧ ∃ g cap, ZB w' V.heap.size (.slice (some ⟨g, 0, none⟩) 1 cap) 2 ∧ 1 ≤ cap ∧ FileB w' g p d ∧ w.heap.size < V.heap.size ∧ Below w.heap.size w w' ∧ w'.heap[w.heap.size]? = some (.cells zeroU 44 (0, 0))) := Lib.hid fun V hV => by
    have hbw := hb1.trans (hV.mono hb1.size)
    have hb2 : Below w.heap.size w (V.alloc (.cells #[.slice none 0 0, .slice none 0 0, .int .i64 50, .int .i64 0, .slice none 0 0, .string ⟨#[]⟩, .int .i64 0, .string ⟨#[]⟩, .int .i64 0] 193)) := hbw.alloc hbw.size _
    have hlt := Lg.lt_heap q1
    have hs := hV.size
    refine (all1 _ V.heap.size p y d w hE hbw.size hb2 (heap_alloc_new V _) hp0 (by omega) hd hy hys sd mc (hl.below hb2)).mono ?_
    rintro e w' ⟨rfl, g, cap, h1, h2, h3, h4, h5⟩
    refine ⟨rfl, g, cap, h1, h3, h4, by omega, hb2.trans (h5.below (by simp; omega) (by omega)), ?_⟩
    exact (h5.block w.heap.size (by simp; omega) (by omega)).trans (heap_alloc_lt ((hV.block _ hlt).trans q1))
  have FC : Hid (∀ V w', Below W1.heap.size W1 V → V = w' → Below W1.heap.size W1 w') := Lib.hid fun V w' h e => e ▸ h
  -- behind all: what stands, and what the rest leaves
  have UN : Hid (∀ V b g cap, ZB V b (.slice (some ⟨g, 0, none⟩) 1 cap) 2 → FileB V g p d → w.heap.size < b → Below w.heap.size w V → V.heap[w.heap.size]? = some (.cells zeroU 44 (0, 0)) →
      Calls Tryz.prog 92 #[.slice (some ⟨g, 0, none⟩) 1 cap, .string ⟨#[111, 117, 116]⟩] V fun e w' => ∃ gf cf, e = .returned (.slice (some ⟨gf, 0, none⟩) 1 cf) ∧ ZB w' b (.slice (some ⟨g, 0, none⟩) 1 cap) 2 ∧ w'.heap[w.heap.size]? = some (.cells zeroU 44 (0, 0)) ∧
        (∀ U, U = (((((((w'.setCell ⟨b, 3, none⟩ (.int .i64 1)).setCell ⟨b, 4, none⟩ (.slice (some ⟨gf, 0, none⟩) 1 cf)).setCell ⟨w.heap.size, 0, none⟩ (.int .i64 1)).setCell ⟨w.heap.size, 1, none⟩ (.slice (some ⟨gf, 0, none⟩) 1 cf)).setCell ⟨w.heap.size, 2, none⟩ (.string ⟨#[]⟩)).setCell ⟨w.heap.size, 3, none⟩ (.int .i64 0)).setCell ⟨w.heap.size, 4, none⟩ (.string ⟨#[]⟩)).setCell ⟨w.heap.size, 5, none⟩ (.int .i64 2) →
          U.heap[w.heap.size]? = some (.cells #[.int .i64 1, .slice (some ⟨gf, 0, none⟩) 1 cf, .string ⟨#[]⟩, .int .i64 0, .string ⟨#[]⟩, .int .i64 2] 44 (0, 0)) ∧ RanB q d w (.returned (.agg #[.int .i64 1, .slice (some ⟨gf, 0, none⟩) 1 cf, .string ⟨#[]⟩, .int .i64 0, .string ⟨#[]⟩, .int .i64 2])) U)) := Lib.hid fun V b g cap hz hf hlb hbw h0 => by
    have hfs : Fs.Small [⟨p, d⟩] := ⟨by simp, fun f hf => by rw [List.mem_singleton.1 hf]; exact ⟨by show p.size ≤ _; omega, by show d.size ≤ _; omega⟩⟩
    refine (Fs.under_own (some ⟨g, 0, none⟩) [⟨p, d⟩] cap ⟨#[111, 117, 116]⟩ (by decide) V (fls_one hf) hfs).mono ?_
    rintro e w' ⟨v, rfl, ho, hb⟩
    rw [hu] at ho
    obtain ⟨gf, cf, rfl, k1, k2, cs, k3, k4, k5⟩ := file_of (p := q) (d := d) ho
    have hbl := Lg.lt_heap hz
    have n1 : b ≠ gf := by omega
    have n2 : w.heap.size ≠ gf := by omega
    have n3 : b ≠ w.heap.size := by omega
    have hz' := hz.below hb
    have h0' := (hb.block _ (Lg.lt_heap h0)).trans h0
    refine ⟨gf, cf, rfl, hz', h0', fun U hU => ?_⟩
    subst hU
    refine ⟨set6u ((heap_set_ne n3).trans ((heap_set_ne n3).trans h0')) _ _ _ _ _ _, ⟨gf, cf, rfl, by omega, ?_, k2, cs, ?_, k4, k5⟩, ?_⟩
    · simpa using Lg.lt_heap k3
    · rw [heap_set_ne n2, heap_set_ne n2, heap_set_ne n2, heap_set_ne n2, heap_set_ne n2, heap_set_ne n2, heap_set_ne n1, heap_set_ne n1]
      exact k3
    · have hh := hbw.trans (hb.mono hbw.size)
      exact (((((((hh.setCell (p := ⟨b, 3, none⟩) (by show w.heap.size ≤ b; omega) _).setCell (p := ⟨b, 4, none⟩) (by show w.heap.size ≤ b; omega) _).setCell (p := ⟨w.heap.size, 0, none⟩) (Nat.le_refl _) _).setCell (p := ⟨w.heap.size, 1, none⟩) (Nat.le_refl _) _).setCell (p := ⟨w.heap.size, 2, none⟩) (Nat.le_refl _) _).setCell (p := ⟨w.heap.size, 3, none⟩) (Nat.le_refl _) _).setCell (p := ⟨w.heap.size, 4, none⟩) (Nat.le_refl _) _).setCell (p := ⟨w.heap.size, 5, none⟩) (Nat.le_refl _) _
  clear hE hp0 hp hd hy hys hu hl RI hb1 q1
  generalize RanB q d w = Q at *
  go_enter Tryz.func49, Tryz.ntmps49
  go_wp2_with (first
    | (go_at_call 89; rw [← eW]; clear eW; (with_reducible refine (RR.out).mono ?_); rintro e w2 ⟨rfl, hb2⟩)
    | (go_at_call 68; (with_reducible refine (fcheck0 _ _ _).mono ?_); rintro e w3 ⟨rfl, hw3⟩; have h3 := FC.out _ _ hb2 hw3; clear hw3)
    | (go_at_call 90; (with_reducible refine (ALL.out _ h3).mono ?_); rintro e w4 ⟨rfl, g, cap, z4, hcap, f4, hlb, b4, o4⟩; have OV := Lib.hid (over0 w4 _ _ _ z4); have U4 := Lib.hid (UN.out w4 _ g cap z4 f4 hlb b4 o4); have s0 : w4.cell? ⟨w3.heap.size, 0, none⟩ = some (.slice (some ⟨g, 0, none⟩) 1 cap) := (cell_heap z4 0).trans rfl; have ne1 : ¬ w.heap.size = w3.heap.size := (by omega); have ne2 : ¬ w3.heap.size = w.heap.size := (by omega); clear z4 f4 b4 o4)
    | (go_at_call 91; (with_reducible refine (OV.out).mono ?_); rintro e w5 ⟨rfl, rfl⟩)
    | (go_at_call 92; (with_reducible refine (U4.out).mono ?_); rintro e w6 ⟨gf, cf, rfl, z6, o6, hq⟩; have HQ := Lib.hid hq; clear hq s0; have s3 := cell_heap z6 3; have s4 := cell_heap z6 4; have s5 := cell_heap z6 5; have s6 := cell_heap z6 6; have s7 := cell_heap z6 7; have s8 := cell_heap z6 8; have t3 := frozen_heap z6 3; have t4 := frozen_heap z6 4; have x0 := cell_heap o6 0; have x1 := cell_heap o6 1; have x2 := cell_heap o6 2; have x3 := cell_heap o6 3; have x4 := cell_heap o6 4; have x5 := cell_heap o6 5; have y0 := frozen_heap o6 0; have y1 := frozen_heap o6 1; have y2 := frozen_heap o6 2; have y3 := frozen_heap o6 3; have y4 := frozen_heap o6 4; have y5 := frozen_heap o6 5; clear z6 o6))
  refine bodyPost_ret (results_cell rfl _ _ _ ⟨w.heap.size, 0, none⟩ _ _ rfl (load_outU (HQ.out _ rfl).1 rfl)) rfl ?_
  exact (HQ.out _ rfl).2
end Go.Proofs.YtifiipmmgnmciaaGreatDoor.Sv
