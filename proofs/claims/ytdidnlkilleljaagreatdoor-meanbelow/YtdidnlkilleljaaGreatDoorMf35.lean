/- Joined by mkmerged.py: MnWrong, MnBuild, MnSame. -/
import Derived.Test.YtdidnlkilleljaaGreatDoorMf34
import Derived.Test.YtdidnlkilleljaaGreatDoorMf15
import Derived.Test.YtdidnlkilleljaaGreatDoorMf19
import Derived.Test.YtdidnlkilleljaaGreatDoorMf20
import Derived.Test.YtdidnlkilleljaaGreatDoorMf29
import Derived.Laws.StructEq
import Derived.BigQuiet
/- MnWrong, what a claim needs of it (prune.py). -/
namespace Go.Proofs.YtdidnlkilleljaaGreatDoor.Mn
open Go.RowKit
open Lg (BelowX Lies)
open Fs (fc Fls B checkE)
open Gr (Fits isT find checkF)
set_option linter.unusedVariables false
set_option maxRecDepth 100000
theorem value_all {w0 : World} {a : Adr} {l : List Tg} {snap : List Fl} {T F : Option Addr} {c d : Nat} (hC : Cx w0 a l snap T F c d) : ∀ n, ValueOk w0 a l snap n
  | 0 => fun _ _ _ _ _ _ _ _ _ hch => absurd hch.pos (Nat.lt_irrefl 0)
  | n + 1 => value_any hC (fresh_any hC (value_all hC n))
noncomputable def wrongF (l : List Tg) (snap : List Fl) (goal : ByteArray) (fuel : Int) : Rs :=
  if checkF l ≠ 0 then failed (checkF l) ⟨#[]⟩ ⟨#[]⟩ else if checkE snap ≠ 0 then failed (checkE snap) ⟨#[]⟩ ⟨#[]⟩
  else if fuel < 1 ∨ 2000 < fuel then failed 1 ⟨#[]⟩ ⟨#[]⟩ else if find l goal = none then failed 30 goal ⟨#[]⟩ else failed 0 ⟨#[]⟩ ⟨#[]⟩
def WrongSays (r : Rs) (w : World) (e : Ending) (w' : World) : Prop := e = .returned (.agg #[.int .i64 r.err, .string r.at_, .string r.text, .slice none 0 0]) ∧ Below w.heap.size w w'
set_option maxHeartbeats 4000000 in
theorem wrong_any (T F : Option Addr) (l : List Tg) (snap : List Fl) (c d : Nat) (goal : ByteArray) (fuel : Int) (w : World) (hE : Lg.Env w) (hr : Gr.Tgs w T l) (hl : l.length ≤ 1000) (hlc : l.length ≤ c) (hf : ∀ t ∈ l, Fits t) (hs : Fls w F snap) (hsl : snap.length ≤ 1000000) (hsz : ∀ f ∈ snap, f.p.size ≤ maxLen ∧ f.d.size ≤ maxLen) :
    Calls Tryz.prog 40 #[.slice T l.length c, .slice F snap.length d, .string goal, .int .i64 fuel] w (WrongSays (wrongF l snap goal fuel) w) := by
  obtain ⟨W1, eW⟩ : ∃ W1, W1 = w.alloc (.cells #[.int .i64 0, .string ⟨#[]⟩, .string ⟨#[]⟩, .slice none 0 0] 37) := ⟨_, rfl⟩
  have b1 : Below w.heap.size w W1 := by rw [eW]; exact (Below.refl _ _).alloc (Nat.le_refl _) _
  have q1 : W1.heap[w.heap.size]? = some (.cells #[.int .i64 0, .string ⟨#[]⟩, .string ⟨#[]⟩, .slice none 0 0] 37 (0, 0)) := by rw [eW]; exact heap_alloc_new w _
  have GC := Lib.hid (Gr.pcheck_any T l c W1 (hE.below b1) (hr.below b1) hl hlc hf)
  have PC : Hid (∀ V, Below W1.heap.size W1 V → Calls Tryz.prog 20 #[.slice F snap.length d] V fun e w' => e = .returned (.int .i64 (checkE snap)) ∧ Below V.heap.size V w') := Lib.hid fun V hV => by
    have hb := b1.trans (hV.mono b1.size)
    exact Fs.pcheck_any F snap d V ⟨(hE.below hb).1, (hE.below hb).2.1⟩ ((Reads.below hs hb).more hb.size) (by simp only [maxLen]; omega) hsz
  have FD : Hid (∀ V, Below W1.heap.size W1 V → Calls Tryz.prog 21 #[.slice T l.length c, .string goal] V (Gr.FindSays l goal w V)) := Lib.hid fun V hV => Gr.find_any T l c goal w V hr (b1.trans (hV.mono b1.size)) (by omega)
  have Q1 : Hid (∀ V, Below W1.heap.size W1 V → V.heap[w.heap.size]? = some (.cells #[.int .i64 0, .string ⟨#[]⟩, .string ⟨#[]⟩, .slice none 0 0] 37 (0, 0))) := Lib.hid fun V hV => heap_below hV (lt_heap q1) q1
  obtain ⟨r, hr0⟩ : ∃ r, r = wrongF l snap goal fuel := ⟨_, rfl⟩
  rw [← hr0]
  have END : Hid (∀ V, Below W1.heap.size W1 V → WrongSays r w (.returned (.agg #[.int .i64 r.err, .string r.at_, .string r.text, .slice none 0 0])) ((((V.setCell ⟨w.heap.size, 0, none⟩ (.int .i64 r.err)).setCell ⟨w.heap.size, 1, none⟩ (.string r.at_)).setCell ⟨w.heap.size, 2, none⟩ (.string r.text)).setCell ⟨w.heap.size, 3, none⟩ (.slice none 0 0))) := Lib.hid fun V hV =>
    ⟨rfl, ((((b1.trans (hV.mono b1.size)).setCell (p := ⟨w.heap.size, 0, none⟩) (Nat.le_refl _) _).setCell (p := ⟨w.heap.size, 1, none⟩) (Nat.le_refl _) _).setCell (p := ⟨w.heap.size, 2, none⟩) (Nat.le_refl _) _).setCell (p := ⟨w.heap.size, 3, none⟩) (Nat.le_refl _) _⟩
  unfold wrongF at hr0
  have QR := Lib.hid q1
  clear hE hr hs hf q1
  generalize hQ : WrongSays r w = Q at *
  clear hQ
  by_cases h1 : checkF l ≠ 0
  · rw [if_pos h1] at hr0
    subst hr0
    have e1 : (checkF l != 0) = true := by simpa using h1
    have END := Lib.hid (fun V h => END.out V h)
    unfold failed at END
    go_enter Tryz.func40, Tryz.ntmps40
    go_wp2_with (first | (go_at_call 18; rw [← eW]; (with_reducible refine (GC.out).mono ?_); rintro e w2 ⟨rfl, b2⟩; have q2 := Q1.out _ b2; obtain ⟨⟨u0, x0⟩, ⟨u1, x1⟩, ⟨u2, x2⟩, ⟨u3, x3⟩, y0, y1, y2, y3⟩ := four q2))
    refine bodyPost_ret (results_cell rfl _ _ _ ⟨w.heap.size, 0, none⟩ _ _ rfl (load_res (set4 q2 _ _ _ _) rfl)) rfl ?_
    exact END.out _ b2
  rw [if_neg h1] at hr0
  have e1 : (checkF l != 0) = false := by simpa using h1
  by_cases h2 : checkE snap ≠ 0
  · rw [if_pos h2] at hr0
    subst hr0
    have e2 : (checkE snap != 0) = true := by simpa using h2
    go_enter Tryz.func40, Tryz.ntmps40
    go_wp2_with (first | (go_at_call 18; rw [← eW]; (with_reducible refine (GC.out).mono ?_); rintro e w2 ⟨rfl, b2⟩) | (go_at_call 20; (with_reducible refine (PC.out _ b2).mono ?_); rintro e w3 ⟨rfl, b3⟩; have h3 := b2.trans (b3.mono b2.size); have q3 := Q1.out _ h3; obtain ⟨⟨u0, x0⟩, ⟨u1, x1⟩, ⟨u2, x2⟩, ⟨u3, x3⟩, y0, y1, y2, y3⟩ := four q3))
    refine bodyPost_ret (results_cell rfl _ _ _ ⟨w.heap.size, 0, none⟩ _ _ rfl (load_res (set4 q3 _ _ _ _) rfl)) rfl ?_
    exact END.out _ h3
  rw [if_neg h2] at hr0
  have e2 : (checkE snap != 0) = false := by simpa using h2
  by_cases h3 : fuel < 1 ∨ 2000 < fuel
  · rw [if_pos h3] at hr0
    subst hr0
    rcases h3 with h3 | h3
    · go_enter Tryz.func40, Tryz.ntmps40
      go_wp2_with (first | (go_at_call 18; rw [← eW]; (with_reducible refine (GC.out).mono ?_); rintro e w2 ⟨rfl, b2⟩) | (go_at_call 20; (with_reducible refine (PC.out _ b2).mono ?_); rintro e w3 ⟨rfl, b3⟩; have h3 := b2.trans (b3.mono b2.size); have q3 := Q1.out _ h3; obtain ⟨⟨u0, x0⟩, ⟨u1, x1⟩, ⟨u2, x2⟩, ⟨u3, x3⟩, y0, y1, y2, y3⟩ := four q3))
      refine bodyPost_ret (results_cell rfl _ _ _ ⟨w.heap.size, 0, none⟩ _ _ rfl (load_res (set4 q3 _ _ _ _) rfl)) rfl ?_
      exact END.out _ h3
    · have h4 : ¬ fuel < 1 := by omega
      go_enter Tryz.func40, Tryz.ntmps40
      go_wp2_with (first | (go_at_call 18; rw [← eW]; (with_reducible refine (GC.out).mono ?_); rintro e w2 ⟨rfl, b2⟩) | (go_at_call 20; (with_reducible refine (PC.out _ b2).mono ?_); rintro e w3 ⟨rfl, b3⟩; have h5 := b2.trans (b3.mono b2.size); have q3 := Q1.out _ h5; obtain ⟨⟨u0, x0⟩, ⟨u1, x1⟩, ⟨u2, x2⟩, ⟨u3, x3⟩, y0, y1, y2, y3⟩ := four q3))
      refine bodyPost_ret (results_cell rfl _ _ _ ⟨w.heap.size, 0, none⟩ _ _ rfl (load_res (set4 q3 _ _ _ _) rfl)) rfl ?_
      exact END.out _ h5
  rw [if_neg h3] at hr0
  have h4 : ¬ fuel < 1 := by omega
  have h5 : ¬ 2000 < fuel := by omega
  cases hfd : find l goal with
  | none =>
    rw [if_pos hfd] at hr0
    subst hr0
    have FN : Hid (∀ V, Below W1.heap.size W1 V → Calls Tryz.prog 21 #[.slice T l.length c, .string goal] V fun e w' => (∃ Ad As cd cs, e = .returned (.tuple #[.agg #[.string ⟨#[]⟩, .string ⟨#[]⟩, .slice Ad 0 cd, .slice As 0 cs], .bool false])) ∧ Below V.heap.size V w') := Lib.hid fun V hV => (FD.out V hV).mono (by
      rintro e w' ⟨⟨t', A1, A2, c1, c2, h1, h2, _, _⟩, h5⟩
      rw [hfd] at h2
      have h2 : t' = Gr.zeroT := h2
      subst h2
      rw [Gr.none_isT hfd] at h1
      exact ⟨⟨A1, A2, c1, c2, h1⟩, h5⟩)
    clear h3 hfd FD
    go_enter Tryz.func40, Tryz.ntmps40
    go_wp2_with (first | (go_at_call 18; rw [← eW]; (with_reducible refine (GC.out).mono ?_); rintro e w2 ⟨rfl, b2⟩) | (go_at_call 20; (with_reducible refine (PC.out _ b2).mono ?_); rintro e w3 ⟨rfl, b3⟩; have h6 := b2.trans (b3.mono b2.size)) | (go_at_call 21; (with_reducible refine (FN.out _ h6).mono ?_); rintro e w4 ⟨⟨A1, A2, c1, c2, rfl⟩, b4⟩; have h7 := h6.trans (b4.mono h6.size)) | (go_at_call 45; (with_reducible refine (failed_any _ _ _ _).mono ?_); rintro e w5 ⟨rfl, b5⟩; have h8 : Below W1.heap.size W1 w5 := (h7.alloc h7.size _).trans (b5.mono (h7.alloc h7.size _).size); have q3 := Q1.out _ h8; obtain ⟨⟨u0, x0⟩, ⟨u1, x1⟩, ⟨u2, x2⟩, ⟨u3, x3⟩, y0, y1, y2, y3⟩ := four q3))
    refine bodyPost_ret (results_cell rfl _ _ _ ⟨w.heap.size, 0, none⟩ _ _ rfl (load_res (set4 q3 _ _ _ _) rfl)) rfl ?_
    exact END.out _ h8
  | some tq =>
    rw [if_neg (by rw [hfd]; simp)] at hr0
    subst hr0
    have FN : Hid (∀ V, Below W1.heap.size W1 V → Calls Tryz.prog 21 #[.slice T l.length c, .string goal] V fun e w' => (∃ Ad As cd cs, e = .returned (.tuple #[.agg #[.string tq.n, .string tq.c, .slice Ad tq.ds.length cd, .slice As tq.ss.length cs], .bool true])) ∧ Below V.heap.size V w') := Lib.hid fun V hV => (FD.out V hV).mono (by
      rintro e w' ⟨⟨t', A1, A2, c1, c2, h1, h2, _, _⟩, h5⟩
      rw [hfd] at h2
      have h2 : t' = tq := h2
      subst h2
      rw [Gr.some_isT hfd] at h1
      exact ⟨⟨A1, A2, c1, c2, h1⟩, h5⟩)
    clear h3 hfd FD
    go_enter Tryz.func40, Tryz.ntmps40
    go_wp2_with (first | (go_at_call 18; rw [← eW]; (with_reducible refine (GC.out).mono ?_); rintro e w2 ⟨rfl, b2⟩) | (go_at_call 20; (with_reducible refine (PC.out _ b2).mono ?_); rintro e w3 ⟨rfl, b3⟩; have h6 := b2.trans (b3.mono b2.size)) | (go_at_call 21; (with_reducible refine (FN.out _ h6).mono ?_); rintro e w4 ⟨⟨A1, A2, c1, c2, rfl⟩, b4⟩; have h7 := h6.trans (b4.mono h6.size); have x0 : ∀ o, (w4.alloc o).cell? ⟨w.heap.size, 0, none⟩ = some (.int .i64 0) := (fun o => (cell_heap (Q1.out _ (h7.alloc h7.size o)) 0).trans rfl); have y0 : ∀ o, (w4.alloc o).frozen? ⟨w.heap.size, 0, none⟩ = false := (fun o => frozen_heap (Q1.out _ (h7.alloc h7.size o)) 0); have x1 : ∀ o, (w4.alloc o).cell? ⟨w.heap.size, 1, none⟩ = some (.string ⟨#[]⟩) := (fun o => (cell_heap (Q1.out _ (h7.alloc h7.size o)) 1).trans rfl); have y1 : ∀ o, (w4.alloc o).frozen? ⟨w.heap.size, 1, none⟩ = false := (fun o => frozen_heap (Q1.out _ (h7.alloc h7.size o)) 1); have x2 : ∀ o, (w4.alloc o).cell? ⟨w.heap.size, 2, none⟩ = some (.string ⟨#[]⟩) := (fun o => (cell_heap (Q1.out _ (h7.alloc h7.size o)) 2).trans rfl); have y2 : ∀ o, (w4.alloc o).frozen? ⟨w.heap.size, 2, none⟩ = false := (fun o => frozen_heap (Q1.out _ (h7.alloc h7.size o)) 2); have x3 : ∀ o, (w4.alloc o).cell? ⟨w.heap.size, 3, none⟩ = some (.slice none 0 0) := (fun o => (cell_heap (Q1.out _ (h7.alloc h7.size o)) 3).trans rfl); have y3 : ∀ o, (w4.alloc o).frozen? ⟨w.heap.size, 3, none⟩ = false := (fun o => frozen_heap (Q1.out _ (h7.alloc h7.size o)) 3); have h8 := fun o => h7.alloc h7.size o))
    refine bodyPost_ret (results_cell rfl _ _ _ ⟨w.heap.size, 0, none⟩ _ _ rfl (load_res (set4 (Q1.out _ (h8 _)) _ _ _ _) rfl)) rfl ?_
    exact END.out _ (h8 _)
end Go.Proofs.YtdidnlkilleljaaGreatDoor.Mn
/- MnBuild, what a claim needs of it (prune.py). -/
namespace Go.Proofs.YtdidnlkilleljaaGreatDoor.Mn
open Go.RowKit
open Lg (BelowX Lies)
open Fs (fc Fls B checkE)
open Gr (Fits isT find checkF)
set_option linter.unusedVariables false
set_option maxRecDepth 100000
theorem wrong_zero {l : List Tg} {snap : List Fl} {goal : ByteArray} {fuel : Int} (h : (wrongF l snap goal fuel).err = 0) : checkF l = 0 ∧ 1 ≤ fuel ∧ fuel ≤ 2000 ∧ find l goal ≠ none ∧ buildF l snap goal fuel = valueF l snap goal fuel := by
  unfold wrongF at h
  unfold buildF
  by_cases h1 : checkF l ≠ 0
  · rw [if_pos h1] at h; exact absurd h h1
  rw [if_neg h1] at h ⊢
  by_cases h2 : checkE snap ≠ 0
  · rw [if_pos h2] at h; exact absurd h h2
  rw [if_neg h2] at h ⊢
  by_cases h3 : fuel < 1 ∨ 2000 < fuel
  · rw [if_pos h3] at h; exact absurd h (by simp [failed])
  rw [if_neg h3] at h ⊢
  by_cases h4 : find l goal = none
  · rw [if_pos h4] at h; exact absurd h (by simp [failed])
  rw [if_neg h4]
  exact ⟨by simpa using h1, by omega, by omega, h4, rfl⟩
theorem wrong_bad {l : List Tg} {snap : List Fl} {goal : ByteArray} {fuel : Int} (h : (wrongF l snap goal fuel).err ≠ 0) : buildF l snap goal fuel = wrongF l snap goal fuel ∧ (wrongF l snap goal fuel).files = [] := by
  unfold wrongF at h ⊢
  unfold buildF
  by_cases h1 : checkF l ≠ 0
  · rw [if_pos h1]; exact ⟨(if_pos h1).symm, by rw [if_pos h1]; rfl⟩
  rw [if_neg h1] at h ⊢
  rw [if_neg h1]
  by_cases h2 : checkE snap ≠ 0
  · rw [if_pos h2]; exact ⟨(if_pos h2).symm, by rw [if_pos h2]; rfl⟩
  rw [if_neg h2] at h ⊢
  rw [if_neg h2]
  by_cases h3 : fuel < 1 ∨ 2000 < fuel
  · rw [if_pos h3]; exact ⟨(if_pos h3).symm, by rw [if_pos h3]; rfl⟩
  rw [if_neg h3] at h ⊢
  rw [if_neg h3]
  by_cases h4 : find l goal = none
  · rw [if_pos h4]; exact ⟨(if_pos h4).symm, by rw [if_pos h4]; rfl⟩
  rw [if_neg h4] at h
  exact absurd rfl h
theorem lies_not {W : World} {ok : Nat → Prop} {A : Option Addr} {fs : List Fl} {g : Nat} {T : TypeId} (hl : Lies W ok 2 A fs.length (fc fs)) (hr : Bx.RightF fs) (q : W.heap[g]? = some (.cells #[.int .i64 0, .string ⟨#[]⟩, .string ⟨#[]⟩, .slice none 0 0] T (0, 0))) : Lies W (fun x => x ≠ g) 2 A fs.length (fc fs) := by
  refine ⟨hl.1, fun h0 => ?_⟩
  obtain ⟨ad, rfl, hok, hc⟩ := hl.2 h0
  refine ⟨ad, rfl, fun e => ?_, hc⟩
  cases fs with
  | nil => simp at h0
  | cons f rest =>
    have h1 := hc 0 (.string f.p) rfl
    have hp := (hr.each f (List.mem_cons_self ..)).1
    have hpos : 1 ≤ f.p.size := by
      unfold Lg.pathOk at hp
      simp only [Bool.and_eq_true, decide_eq_true_eq] at hp
      have := hp.1.1
      rw [Fs.tl_len] at this
      exact this
    subst e
    have h2 : ∃ i : Nat, (#[.int .i64 0, .string ⟨#[]⟩, .string ⟨#[]⟩, .slice none 0 0] : Array Value)[i]? = some (.string f.p) := by
      unfold World.cell? at h1
      rw [block_of_add, q] at h1
      simp at h1
      exact ⟨(ad.add 0).off, by simpa using h1.2⟩
    obtain ⟨i, hi⟩ := h2
    have e0 : f.p = ⟨#[]⟩ → False := fun e => by rw [e] at hpos; exact absurd hpos (by decide)
    rcases i with _ | _ | _ | _ | i <;> simp at hi
    · exact e0 hi.symm
    · exact e0 hi.symm
def adrOf (g n : Nat) (tv sv : Value) (fuel : Int) : Adr := ⟨g, g + 1, g + 1 + 1, n + 1 + 1, n + 1, n + 1 + 1 + 1 + 1, n + 1 + 1 + 1, n + 1 + 1 + 1 + 1 + 1, n + 1 + 1 + 1 + 1 + 1 + 1, n + 7, tv, sv, fuel⟩
theorem al_step {V V' U : World} {o : Obj} (e : V' = V.alloc o) (h : Below V'.heap.size V' U) : Below V.heap.size V U ∧ U.heap[V.heap.size]? = some o := by
  subst e
  exact ⟨((Below.refl _ _).alloc (Nat.le_refl _) _).trans (h.mono (by simp)), heap_below h (by simp) (heap_alloc_new V o)⟩
theorem start_at (w w5 : World) (O0 : Obj) (tv sv : Value) (fuel : Int) (nms : List ByteArray) (hb : Below w.heap.size w w5) (hz : w.heap.size + 4 ≤ w5.heap.size)
    (k0 : w5.heap[w.heap.size]? = some (.cells #[tv] 39 (0, 0))) (k1 : w5.heap[w.heap.size + 1]? = some (.cells #[sv] 23 (0, 0))) (k2 : w5.heap[w.heap.size + 2]? = some (.cells #[.int .i64 fuel] 3 (0, 0))) {U : World}
    (hU : U = ((((((w5.alloc O0).alloc (.map #[] 0)).alloc (.cells #[.map (some (w5.heap.size + 1))] 76)).alloc (.map #[] 0)).alloc (.cells #[.map (some (w5.heap.size + 1 + 1 + 1))] 77)).alloc (.cells #[(adrOf w.heap.size w5.heap.size tv sv fuel).fnV] 78)).alloc (.cells #[(adrOf w.heap.size w5.heap.size tv sv fuel).fnF] 87)) :
    MnAt w (adrOf w.heap.size w5.heap.size tv sv fuel) [] nms 1 (fun _ => none) (fun _ => false) U ∧ Below w5.heap.size w5 U := by
  obtain ⟨V1, e1⟩ : ∃ V, V = w5.alloc O0 := ⟨_, rfl⟩
  obtain ⟨V2, e2⟩ : ∃ V, V = V1.alloc (.map #[] 0) := ⟨_, rfl⟩
  obtain ⟨V3, e3⟩ : ∃ V, V = V2.alloc (.cells #[.map (some (w5.heap.size + 1))] 76) := ⟨_, rfl⟩
  obtain ⟨V4, e4⟩ : ∃ V, V = V3.alloc (.map #[] 0) := ⟨_, rfl⟩
  obtain ⟨V5, e5⟩ : ∃ V, V = V4.alloc (.cells #[.map (some (w5.heap.size + 1 + 1 + 1))] 77) := ⟨_, rfl⟩
  obtain ⟨V6, e6⟩ : ∃ V, V = V5.alloc (.cells #[(adrOf w.heap.size w5.heap.size tv sv fuel).fnV] 78) := ⟨_, rfl⟩
  have s1 : V1.heap.size = w5.heap.size + 1 := by rw [e1]; simp
  have s2 : V2.heap.size = w5.heap.size + 1 + 1 := by rw [e2]; simp [s1]
  have s3 : V3.heap.size = w5.heap.size + 1 + 1 + 1 := by rw [e3]; simp [s2]
  have s4 : V4.heap.size = w5.heap.size + 1 + 1 + 1 + 1 := by rw [e4]; simp [s3]
  have s5 : V5.heap.size = w5.heap.size + 1 + 1 + 1 + 1 + 1 := by rw [e5]; simp [s4]
  have s6 : V6.heap.size = w5.heap.size + 1 + 1 + 1 + 1 + 1 + 1 := by rw [e6]; simp [s5]
  rw [← e1, ← e2, ← e3, ← e4, ← e5, ← e6] at hU
  have sU : U.heap.size = w5.heap.size + 7 := by rw [hU]; simp [s6]
  have m2 : Mv.VMap V2 (w5.heap.size + 1) 0 (fun _ => none) := by have := Mv.VMap.made V1; rw [← e2, s1] at this; exact this
  have m4 : Mv.VMap V4 (w5.heap.size + 1 + 1 + 1) 0 (fun _ => none) := by have := Mv.VMap.made V3; rw [← e4, s3] at this; exact this
  obtain ⟨b6, q6⟩ := al_step hU (Below.refl _ _)
  obtain ⟨b5, q5⟩ := al_step e6 b6
  obtain ⟨b4, q4⟩ := al_step e5 b5
  obtain ⟨b3, q3⟩ := al_step e4 b4
  obtain ⟨b2, q2⟩ := al_step e3 b3
  obtain ⟨b1, q1⟩ := al_step e2 b2
  obtain ⟨b0, q0⟩ := al_step e1 b1
  rw [s6] at q6
  rw [s5] at q5
  rw [s4] at q4
  rw [s2] at q2
  refine ⟨⟨hb.trans (b0.mono hb.size), ⟨heap_below b0 (by show w.heap.size < _; omega) k0, heap_below b0 (by show w.heap.size + 1 < _; omega) k1, heap_below b0 (by show w.heap.size + 2 < _; omega) k2, q2, q4, q5, q6⟩, ?_, ?_, ?_, ?_, fun g hg => (by cases hg), ⟨0, fun _ => none, m2.later b2, Nat.zero_le _, fun s => .inl ⟨rfl, rfl⟩⟩, ⟨0, fun _ => none, m4.later b4, Nat.zero_le _, fun s => rfl⟩⟩, b0⟩
  · show w5.heap.size + 1 ≠ w5.heap.size + 1 + 1 + 1; omega
  · show w.heap.size ≤ w5.heap.size + 1 ∧ w.heap.size ≤ w5.heap.size + 1 + 1 + 1; omega
  · show w5.heap.size + 1 < w5.heap.size + 7 ∧ w5.heap.size + 1 + 1 + 1 < w5.heap.size + 7 ∧ w5.heap.size + 7 ≤ U.heap.size; omega
  · intro g hg
    show g < w5.heap.size + 7
    rcases hg with e | e | e | e | e | e | e <;> (rw [e]; simp only [adrOf]; omega)
def BuildSays (r : Rs) (w : World) (e : Ending) (w' : World) : Prop := ∃ A c, e = .returned (.agg #[.int .i64 r.err, .string r.at_, .string r.text, .slice A r.files.length c]) ∧ Fls w' A r.files ∧ r.files.length ≤ c ∧ Below w.heap.size w w'
set_option maxHeartbeats 4000000 in
theorem build_any (T F : Option Addr) (l : List Tg) (snap : List Fl) (c d : Nat) (goal : ByteArray) (fuel : Int) (w : World) (hE : Lg.Env w) (hr : Gr.Tgs w T l) (hl : l.length ≤ 1000) (hlc : l.length ≤ c) (hf : ∀ t ∈ l, Fits t) (hs : Fls w F snap) (hsl : snap.length ≤ 1000000) (hsz : ∀ f ∈ snap, f.p.size ≤ maxLen ∧ f.d.size ≤ maxLen) :
    Calls Tryz.prog 19 #[.slice T l.length c, .slice F snap.length d, .string goal, .int .i64 fuel] w (BuildSays (buildF l snap goal fuel) w) := by
  have hmm := @run_makeMap Tryz.prog
  have hsf := fun (fn : Fn) (first cap : Array Value) (a : Addr) (w : World) => run_store Tryz.prog w a (.func fn first cap) .plain rfl
  obtain ⟨W1, eW⟩ : ∃ W1, W1 = (((w.alloc (.cells #[.slice T l.length c] 39)).alloc (.cells #[.slice F snap.length d] 23)).alloc (.cells #[.int .i64 fuel] 3)).alloc (.cells #[.int .i64 0, .string ⟨#[]⟩, .string ⟨#[]⟩, .slice none 0 0] 37) := ⟨_, rfl⟩
  have b1 : Below w.heap.size w W1 := by rw [eW]; exact ((((Below.refl _ _).alloc (Nat.le_refl _) _).alloc (by simp) _).alloc (by simp; omega) _).alloc (by simp; omega) _
  have hz1 : W1.heap.size = w.heap.size + 4 := by rw [eW]; simp
  have k0 : W1.heap[w.heap.size]? = some (.cells #[.slice T l.length c] 39 (0, 0)) := by
    rw [eW]; exact heap_alloc_lt (heap_alloc_lt (heap_alloc_lt (heap_alloc_new w _)))
  have k1 : W1.heap[w.heap.size + 1]? = some (.cells #[.slice F snap.length d] 23 (0, 0)) := by
    rw [eW]; exact heap_alloc_lt (heap_alloc_lt (by have := heap_alloc_new (w.alloc (.cells #[.slice T l.length c] 39)) (.cells #[.slice F snap.length d] 23); simpa using this))
  have k2 : W1.heap[w.heap.size + 2]? = some (.cells #[.int .i64 fuel] 3 (0, 0)) := by
    rw [eW]; exact heap_alloc_lt (by have := heap_alloc_new ((w.alloc (.cells #[.slice T l.length c] 39)).alloc (.cells #[.slice F snap.length d] 23)) (.cells #[.int .i64 fuel] 3); simpa using this)
  have k3 : W1.heap[w.heap.size + 3]? = some (.cells #[.int .i64 0, .string ⟨#[]⟩, .string ⟨#[]⟩, .slice none 0 0] 37 (0, 0)) := by
    rw [eW]; have := heap_alloc_new (((w.alloc (.cells #[.slice T l.length c] 39)).alloc (.cells #[.slice F snap.length d] 23)).alloc (.cells #[.int .i64 fuel] 3)) (.cells #[.int .i64 0, .string ⟨#[]⟩, .string ⟨#[]⟩, .slice none 0 0] 37); simpa using this
  have WR := Lib.hid (wrong_any T F l snap c d goal fuel W1 (hE.below b1) (hr.below b1) hl hlc hf ((Reads.below hs b1).more b1.size) hsl hsz)
  have K := Lib.hid (And.intro k0 (And.intro k1 (And.intro k2 k3)))
  have B1 := Lib.hid b1
  have Z1 := Lib.hid hz1
  by_cases hw : (wrongF l snap goal fuel).err = 0
  · obtain ⟨g1, g2, g3, g4, g5⟩ := wrong_zero hw
    rw [g5]
    have e1 : ((wrongF l snap goal fuel).err != 0) = false := by simp [hw]
    have htq : isT l goal = true := by
      unfold isT
      cases e : find l goal with
      | none => exact absurd e g4
      | some t => rfl
    obtain ⟨v, hv0⟩ : ∃ v, v = valueF l snap goal fuel := ⟨_, rfl⟩
    have HV := Lib.hid hv0
    have hv : v = (VAL l snap fuel (l.length + 1) (fun _ => false) (fun _ => none) goal).1 := hv0
    clear hv0
    have hfr : Bx.RightF v.files := by rw [hv]; exact ((value_fine (good_of g1) g2 g3 (Fs.get snap) (l.length + 1) (l.length + 1) (fun _ => false)) (fun _ => none) goal htq (fun s r h => by cases h)).1.right
    have VO : Hid (∀ (w5 : World) (O0 : Obj), Below W1.heap.size W1 w5 → Calls Tryz.prog 46 #[.string goal, .pointer (some ⟨w5.heap.size + 1 + 1 + 1 + 1, 0, none⟩), .pointer (some ⟨w5.heap.size + 1 + 1, 0, none⟩), .pointer (some ⟨w.heap.size, 0, none⟩), .pointer (some ⟨w5.heap.size + 1 + 1 + 1 + 1 + 1 + 1, 0, none⟩)] ((((((((w5.alloc O0).alloc (.map #[] 0)).alloc (.cells #[.map (some (w5.heap.size + 1))] 76)).alloc (.map #[] 0)).alloc (.cells #[.map (some (w5.heap.size + 1 + 1 + 1))] 77)).alloc (.cells #[.func (.func 46) #[] #[.pointer (some ⟨w5.heap.size + 1 + 1 + 1 + 1, 0, none⟩), .pointer (some ⟨w5.heap.size + 1 + 1, 0, none⟩), .pointer (some ⟨w.heap.size, 0, none⟩), .pointer (some ⟨w5.heap.size + 1 + 1 + 1 + 1 + 1 + 1, 0, none⟩)]] 78)).alloc (.cells #[.func (.func 41) #[] #[.pointer (some ⟨w.heap.size + 1, 0, none⟩), .pointer (some ⟨w5.heap.size + 1 + 1 + 1 + 1 + 1, 0, none⟩), .pointer (some ⟨w.heap.size + 1 + 1, 0, none⟩), .pointer (some ⟨w.heap.size, 0, none⟩)]] 87))) fun e w6 => ∃ A6 c6, e = .returned (.agg #[.int .i64 v.err, .string v.at_, .string v.text, .slice A6 v.files.length c6]) ∧ Lies w6 (fun x => x ≠ w.heap.size + 1 + 1 + 1) 2 A6 v.files.length (fc v.files) ∧ v.files.length ≤ c6 ∧ Below w.heap.size w w6 ∧ w6.heap[w.heap.size + 1 + 1 + 1]? = some (.cells #[.int .i64 0, .string ⟨#[]⟩, .string ⟨#[]⟩, .slice none 0 0] 37 (0, 0))) := Lib.hid fun w5 O0 h5 => by
      have hz5 := h5.size
      have hb := b1.trans (h5.mono b1.size)
      obtain ⟨MS, bU⟩ := start_at w w5 O0 (.slice T l.length c) (.slice F snap.length d) fuel (names l) hb (by omega) (heap_below h5 (by omega) k0) (heap_below h5 (by omega) k1) (heap_below h5 (by omega) k2) rfl
      have hC : Cx w (adrOf w.heap.size w5.heap.size (.slice T l.length c) (.slice F snap.length d) fuel) l snap T F c d := ⟨hE, hr, rfl, hs, rfl, hf, good_of g1, g2, g3, hsl⟩
      have hh := value_all hC (l.length + 1) [] 1 (fun _ => false) goal (fun _ => none) _ MS (fun s r h => by cases h) htq ⟨[], List.nodup_nil, fun s => by simp, (fun s h => by cases h), rfl, rfl⟩
      refine Calls.mono hh ?_
      rintro e w6 ⟨A6, c6, he, hl6, hc6, M6, K6⟩
      have he : e = .returned (.agg #[.int .i64 (VAL l snap fuel (l.length + 1) (fun _ => false) (fun _ => none) goal).1.err, .string (VAL l snap fuel (l.length + 1) (fun _ => false) (fun _ => none) goal).1.at_, .string (VAL l snap fuel (l.length + 1) (fun _ => false) (fun _ => none) goal).1.text, .slice A6 (VAL l snap fuel (l.length + 1) (fun _ => false) (fun _ => none) goal).1.files.length c6]) := he
      have hl6 : Lies w6 (fun g => g ∉ ([] : List Nat)) 2 A6 (VAL l snap fuel (l.length + 1) (fun _ => false) (fun _ => none) goal).1.files.length (fc (VAL l snap fuel (l.length + 1) (fun _ => false) (fun _ => none) goal).1.files) := hl6
      have hc6 : (VAL l snap fuel (l.length + 1) (fun _ => false) (fun _ => none) goal).1.files.length ≤ c6 := hc6
      rw [← hv] at he hl6 hc6
      have q : w6.heap[w.heap.size + 1 + 1 + 1]? = some (.cells #[.int .i64 0, .string ⟨#[]⟩, .string ⟨#[]⟩, .slice none 0 0] 37 (0, 0)) := (K6.block _ (by have := bU.size; omega) (by show w.heap.size + 1 + 1 + 1 ≠ w5.heap.size + 1; omega) (by show w.heap.size + 1 + 1 + 1 ≠ w5.heap.size + 1 + 1 + 1; omega)).trans (heap_below bU (by omega) (heap_below h5 (by omega) k3))
      exact ⟨A6, c6, he, lies_not hl6 hfr q, hc6, M6.bw, q⟩
    clear k0 k1 k2 k3 b1 hz1 hw hv hfr hE hr hf hs htq g1 g4 g5 hsz
    generalize wrongF l snap goal fuel = r at *
    go_enter Tryz.func19, Tryz.ntmps19
    go_wp2_with (first
      | (go_at_call 40; rw [← eW]; (with_reducible refine (WR.out).mono ?_); rintro e w5 ⟨rfl, b5⟩; have BB := Lib.hid b5; have q0 : ∀ o, (w5.alloc o).cell? ⟨w.heap.size, 0, none⟩ = some (.slice T l.length c) := (fun o => (cell_heap (heap_alloc_lt (heap_below b5 (by rw [Z1.out]; omega) K.out.1)) 0).trans rfl))
      | (go_at_call 46; (with_reducible refine (VO.out w5 _ BB.out).mono ?_); rintro e w6 ⟨A6, c6, rfl, hl6, hc6, hb6, q6⟩; obtain ⟨⟨u0, x0⟩, ⟨u1, x1⟩, ⟨u2, x2⟩, ⟨u3, x3⟩, y0, y1, y2, y3⟩ := four q6; have HL6 := Lib.hid hl6; have HC6 := Lib.hid hc6; have HB6 := Lib.hid hb6; have Q6 := Lib.hid q6; clear hl6 hc6 hb6 q6))
    refine bodyPost_ret (results_cell rfl _ _ _ ⟨w.heap.size + 1 + 1 + 1, 0, none⟩ _ _ rfl (load_res (set4 Q6.out _ _ _ _) rfl)) rfl ?_
    have h3 : w.heap.size ≤ w.heap.size + 1 + 1 + 1 := by omega
    rw [← HV.out]
    exact ⟨A6, c6, rfl, (HL6.out.mono (ok' := fun _ => True) (by decide) fun g hg hs => ⟨trivial, set4_ne hg _ _ _ _⟩).reads (by decide), HC6.out, (((HB6.out.setCell (p := ⟨w.heap.size + 1 + 1 + 1, 0, none⟩) h3 _).setCell (p := ⟨w.heap.size + 1 + 1 + 1, 1, none⟩) h3 _).setCell (p := ⟨w.heap.size + 1 + 1 + 1, 2, none⟩) h3 _).setCell (p := ⟨w.heap.size + 1 + 1 + 1, 3, none⟩) h3 _⟩
  · obtain ⟨g1, g2⟩ := wrong_bad hw
    rw [g1]
    have e1 : ((wrongF l snap goal fuel).err != 0) = true := by simpa using hw
    clear hw g1
    generalize wrongF l snap goal fuel = r at *
    have FI := Lib.hid g2
    clear g2 k0 k1 k2 k3 b1 hz1
    go_enter Tryz.func19, Tryz.ntmps19
    go_wp2_with (first | (go_at_call 40; rw [← eW]; (with_reducible refine (WR.out).mono ?_); rintro e w5 ⟨rfl, b5⟩; have BB := Lib.hid b5; have x0 : ∀ o, (w5.alloc o).cell? ⟨w.heap.size + 1 + 1 + 1, 0, none⟩ = some (.int .i64 0) := (fun o => (cell_heap (heap_alloc_lt (heap_below b5 (by rw [Z1.out]; omega) K.out.2.2.2)) 0).trans rfl); have x1 : ∀ o, (w5.alloc o).cell? ⟨w.heap.size + 1 + 1 + 1, 1, none⟩ = some (.string ⟨#[]⟩) := (fun o => (cell_heap (heap_alloc_lt (heap_below b5 (by rw [Z1.out]; omega) K.out.2.2.2)) 1).trans rfl); have x2 : ∀ o, (w5.alloc o).cell? ⟨w.heap.size + 1 + 1 + 1, 2, none⟩ = some (.string ⟨#[]⟩) := (fun o => (cell_heap (heap_alloc_lt (heap_below b5 (by rw [Z1.out]; omega) K.out.2.2.2)) 2).trans rfl); have x3 : ∀ o, (w5.alloc o).cell? ⟨w.heap.size + 1 + 1 + 1, 3, none⟩ = some (.slice none 0 0) := (fun o => (cell_heap (heap_alloc_lt (heap_below b5 (by rw [Z1.out]; omega) K.out.2.2.2)) 3).trans rfl); have y0 : ∀ o i, (w5.alloc o).frozen? ⟨w.heap.size + 1 + 1 + 1, i, none⟩ = false := (fun o i => frozen_heap (heap_alloc_lt (heap_below b5 (by rw [Z1.out]; omega) K.out.2.2.2)) i)))
    have qe : ∀ o, (w5.alloc o).heap[w.heap.size + 1 + 1 + 1]? = some (.cells #[.int .i64 0, .string ⟨#[]⟩, .string ⟨#[]⟩, .slice none 0 0] 37 (0, 0)) := fun o => heap_alloc_lt (heap_below BB.out (by rw [Z1.out]; omega) K.out.2.2.2)
    refine bodyPost_ret (results_cell rfl _ _ _ ⟨w.heap.size + 1 + 1 + 1, 0, none⟩ _ _ rfl (load_res (set4 (qe _) _ _ _ _) rfl)) rfl ?_
    have h9 := B1.out.trans (BB.out.mono (by rw [Z1.out]; omega))
    exact ⟨none, 0, by rw [FI.out]; rfl, by rw [FI.out]; exact Reads.none_, by rw [FI.out]; exact Nat.le_refl _, ((((h9.alloc h9.size _).setCell (p := ⟨w.heap.size + 1 + 1 + 1, 0, none⟩) (by show w.heap.size ≤ w.heap.size + 1 + 1 + 1; omega) _).setCell (p := ⟨w.heap.size + 1 + 1 + 1, 1, none⟩) (by show w.heap.size ≤ w.heap.size + 1 + 1 + 1; omega) _).setCell (p := ⟨w.heap.size + 1 + 1 + 1, 2, none⟩) (by show w.heap.size ≤ w.heap.size + 1 + 1 + 1; omega) _).setCell (p := ⟨w.heap.size + 1 + 1 + 1, 3, none⟩) (by show w.heap.size ≤ w.heap.size + 1 + 1 + 1; omega) _⟩
end Go.Proofs.YtdidnlkilleljaaGreatDoor.Mn
/- MnSame, what a claim needs of it (prune.py). -/
namespace Go.Proofs.YtdidnlkilleljaaGreatDoor.Mn
open Go.RowKit
set_option linter.unusedVariables false
set_option maxRecDepth 100000
instance decRs : DecidableEq Rs := fun a b => decidable_of_iff (a.err = b.err ∧ a.at_ = b.at_ ∧ a.text = b.text ∧ a.files = b.files) (by cases a; cases b; simp)
abbrev resOf (r : Rs) (A : Option Addr) (c : Nat) : Value := .agg #[.int .i64 r.err, .string r.at_, .string r.text, .slice A r.files.length c]
theorem rs_ext {r s : Rs} (h0 : r.err = s.err) (h1 : r.at_ = s.at_) (h2 : r.text = s.text) (h3 : r.files = s.files) : r = s := by cases r; cases s; simp only at h0 h1 h2 h3; rw [h0, h1, h2, h3]
set_option maxHeartbeats 2000000 in
theorem msame_any (r s : Rs) (A F : Option Addr) (c d : Nat) (w : World) (hl : r.files.length ≤ 1000000000) (hm : s.files.length ≤ 1000000000) (hr : Fs.Fls w A r.files) (hq : Fs.Fls w F s.files) :
    Calls Tryz.prog 15 #[resOf r A c, resOf s F d] w fun e w' => e = .returned (.bool (decide (r = s))) ∧ Below w.heap.size w w' := by
  obtain ⟨W2, eW⟩ : ∃ W2, W2 = (w.alloc (.cells #[.int .i64 r.err, .string r.at_, .string r.text, .slice A r.files.length c] 37)).alloc (.cells #[.int .i64 s.err, .string s.at_, .string s.text, .slice F s.files.length d] 37) := ⟨_, rfl⟩
  have hb2 : Below w.heap.size w W2 := by rw [eW]; exact ((Below.refl _ _).alloc (Nat.le_refl _) _).alloc (by simp) _
  have EQ := Lib.hid (fun (b : Bool) (hb : b = decide (r.files = s.files)) => (hb ▸ equalF_any A F r.files s.files c d W2 hl hm ((hr.below hb2).more hb2.size) ((hq.below hb2).more hb2.size) : Calls Tryz.prog 36 #[.slice A r.files.length c, .slice F s.files.length d] W2 fun e w' => e = .returned (.bool b) ∧ Below W2.heap.size W2 w'))
  have EX := Lib.hid (@rs_ext r s)
  have NE : Hid (r ≠ s → decide (r = s) = false) := Lib.hid fun h => decide_eq_false h
  have YE : Hid (r = s → decide (r = s) = true) := Lib.hid fun h => decide_eq_true h
  have P0 : Hid (r = s → r.err = s.err ∧ r.at_ = s.at_ ∧ r.text = s.text ∧ r.files = s.files) := Lib.hid fun h => by subst h; exact ⟨rfl, rfl, rfl, rfl⟩
  clear hr hq
  generalize decide (r = s) = v at *
  unfold resOf
  generalize r.err = a0 at *
  generalize r.at_ = a1 at *
  generalize r.text = a2 at *
  generalize r.files = a3 at *
  generalize s.err = b0 at *
  generalize s.at_ = b1 at *
  generalize s.text = b2 at *
  generalize s.files = b3 at *
  by_cases h0 : a0 = b0
  · by_cases h1 : a1 = b1
    · by_cases h2 : a2 = b2
      · by_cases h3 : a3 = b3
        · have Q := Lib.hid (EQ.out true (decide_eq_true h3).symm)
          have F := Lib.hid (YE.out (EX.out h0 h1 h2 h3))
          clear EQ EX NE YE P0 h3
          subst h0 h1 h2
          go_enter Tryz.func15, Tryz.ntmps15
          go_wp2_with (go_at_call 36; rw [← eW]; (with_reducible refine (Q.out).mono ?_); rintro e w1 ⟨rfl, hb1⟩)
          go_ret
          exact ⟨Lg.ret_bool F.out, hb2.trans (hb1.mono hb2.size)⟩
        · have Q := Lib.hid (EQ.out false (decide_eq_false h3).symm)
          have F := Lib.hid (NE.out (fun e => h3 (P0.out e).2.2.2))
          clear EQ EX NE YE P0 h3
          subst h0 h1 h2
          go_enter Tryz.func15, Tryz.ntmps15
          go_wp2_with (go_at_call 36; rw [← eW]; (with_reducible refine (Q.out).mono ?_); rintro e w1 ⟨rfl, hb1⟩)
          go_ret
          exact ⟨Lg.ret_bool F.out, hb2.trans (hb1.mono hb2.size)⟩
      · have F := Lib.hid (NE.out (fun e => h2 (P0.out e).2.2.1))
        have g := Lg.s_ne h2
        clear EQ EX NE YE P0 h2
        subst h0 h1
        go_enter Tryz.func15, Tryz.ntmps15
        go_wp2_with (fail)
        rw [← eW]
        go_ret
        exact ⟨Lg.ret_bool F.out, hb2⟩
    · have F := Lib.hid (NE.out (fun e => h1 (P0.out e).2.1))
      have g := Lg.s_ne h1
      clear EQ EX NE YE P0 h1
      subst h0
      go_enter Tryz.func15, Tryz.ntmps15
      go_wp2_with (fail)
      rw [← eW]
      go_ret
      exact ⟨Lg.ret_bool F.out, hb2⟩
  · have F := Lib.hid (NE.out (fun e => h0 (P0.out e).1))
    have g : (a0 == b0) = false := by simpa using h0
    clear EQ EX NE YE P0 h0
    go_enter Tryz.func15, Tryz.ntmps15
    go_wp2_with (fail)
    rw [← eW]
    go_ret
    exact ⟨Lg.ret_bool F.out, hb2⟩
set_option maxHeartbeats 4000000 in
theorem rs_ext2 {r s : Rs} (h0 : r.err = s.err) (h1 : r.at_ = s.at_) (h2 : r.text = s.text) (h3 : r.files = s.files) : r = s := by cases r; cases s; simp only at h0 h1 h2 h3; rw [h0, h1, h2, h3]
set_option maxHeartbeats 2000000 in
theorem rmsame_any (r s : Rs) (A F : Option Addr) (c d : Nat) (w : World) (hl : r.files.length ≤ 1000000000) (hm : s.files.length ≤ 1000000000) (hr : Fs.Fls w A r.files) (hq : Fs.Fls w F s.files) :
    Calls Tryz.prog 16 #[resOf r A c, resOf s F d] w fun e w' => e = .returned (.bool (decide (r = s))) ∧ Below w.heap.size w w' := by
  obtain ⟨W2, eW⟩ : ∃ W2, W2 = (w.alloc (.cells #[.int .i64 r.err, .string r.at_, .string r.text, .slice A r.files.length c] 37)).alloc (.cells #[.int .i64 s.err, .string s.at_, .string s.text, .slice F s.files.length d] 37) := ⟨_, rfl⟩
  have hb2 : Below w.heap.size w W2 := by rw [eW]; exact ((Below.refl _ _).alloc (Nat.le_refl _) _).alloc (by simp) _
  have EQ := Lib.hid (fun (b : Bool) (hb : b = decide (r.files = s.files)) => (hb ▸ Fs.rsameF_any A F r.files s.files c d W2 hl hm ((hr.below hb2).more hb2.size) ((hq.below hb2).more hb2.size) : Calls Tryz.prog 13 #[.slice A r.files.length c, .slice F s.files.length d] W2 fun e w' => e = .returned (.bool b) ∧ Below W2.heap.size W2 w'))
  have EX := Lib.hid (@rs_ext2 r s)
  have NE : Hid (r ≠ s → decide (r = s) = false) := Lib.hid fun h => decide_eq_false h
  have YE : Hid (r = s → decide (r = s) = true) := Lib.hid fun h => decide_eq_true h
  have P0 : Hid (r = s → r.err = s.err ∧ r.at_ = s.at_ ∧ r.text = s.text ∧ r.files = s.files) := Lib.hid fun h => by subst h; exact ⟨rfl, rfl, rfl, rfl⟩
  clear hr hq
  generalize decide (r = s) = v at *
  unfold resOf
  generalize r.err = a0 at *
  generalize r.at_ = a1 at *
  generalize r.text = a2 at *
  generalize r.files = a3 at *
  generalize s.err = b0 at *
  generalize s.at_ = b1 at *
  generalize s.text = b2 at *
  generalize s.files = b3 at *
  by_cases h0 : a0 = b0
  · by_cases h1 : a1 = b1
    · by_cases h2 : a2 = b2
      · by_cases h3 : a3 = b3
        · have Q := Lib.hid (EQ.out true (decide_eq_true h3).symm)
          have F := Lib.hid (YE.out (EX.out h0 h1 h2 h3))
          clear EQ EX NE YE P0 h3
          subst h0 h1 h2
          go_enter Tryz.func16, Tryz.ntmps16
          go_wp2_with (go_at_call 13; rw [← eW]; (with_reducible refine (Q.out).mono ?_); rintro e w1 ⟨rfl, hb1⟩)
          go_ret
          exact ⟨Lg.ret_bool F.out, hb2.trans (hb1.mono hb2.size)⟩
        · have Q := Lib.hid (EQ.out false (decide_eq_false h3).symm)
          have F := Lib.hid (NE.out (fun e => h3 (P0.out e).2.2.2))
          clear EQ EX NE YE P0 h3
          subst h0 h1 h2
          go_enter Tryz.func16, Tryz.ntmps16
          go_wp2_with (go_at_call 13; rw [← eW]; (with_reducible refine (Q.out).mono ?_); rintro e w1 ⟨rfl, hb1⟩)
          go_ret
          exact ⟨Lg.ret_bool F.out, hb2.trans (hb1.mono hb2.size)⟩
      · have F := Lib.hid (NE.out (fun e => h2 (P0.out e).2.2.1))
        have g := Lg.s_ne h2
        clear EQ EX NE YE P0 h2
        subst h0 h1
        go_enter Tryz.func16, Tryz.ntmps16
        go_wp2_with (fail)
        rw [← eW]
        go_ret
        exact ⟨Lg.ret_bool F.out, hb2⟩
    · have F := Lib.hid (NE.out (fun e => h1 (P0.out e).2.1))
      have g := Lg.s_ne h1
      clear EQ EX NE YE P0 h1
      subst h0
      go_enter Tryz.func16, Tryz.ntmps16
      go_wp2_with (fail)
      rw [← eW]
      go_ret
      exact ⟨Lg.ret_bool F.out, hb2⟩
  · have F := Lib.hid (NE.out (fun e => h0 (P0.out e).1))
    have g : (a0 == b0) = false := by simpa using h0
    clear EQ EX NE YE P0 h0
    go_enter Tryz.func16, Tryz.ntmps16
    go_wp2_with (fail)
    rw [← eW]
    go_ret
    exact ⟨Lg.ret_bool F.out, hb2⟩
end Go.Proofs.YtdidnlkilleljaaGreatDoor.Mn
