/- Joined by mkmerged.py: RxRun, BxFew, BxAwake. -/
import Derived.Test.YtdidnlkilleljaaGreatDoorMg38
import Derived.Test.YtdidnlkilleljaaGreatDoorMg18
import Derived.Test.YtdidnlkilleljaaGreatDoorMg15
import Derived.Test.YtdidnlkilleljaaGreatDoorMg26
import Derived.Test.YtdidnlkilleljaaGreatDoorMg04
/- RxRun, what a claim needs of it (prune.py). -/
namespace Go.Proofs.YtdidnlkilleljaaGreatDoor.Bx
open Go.RowKit
open Lg (BelowX Lies strV StepsAt Stp numL rightE print)
open Fs (fc fc_len fc_cell Fls Env B under checkE)
set_option linter.unusedVariables false
set_option maxRecDepth 100000
theorem RAt.open_ {w : World} {b fu : Nat} {N A : Option Addr} {nn nc c : Nat} {s : St} (h : RAt w b fu N nn nc A c s) :
    w.cell? ⟨b, 0, none⟩ = some (.slice A s.files.length c) ∧ w.cell? ⟨b, 3, none⟩ = some (.int .i64 s.kind) ∧ w.cell? ⟨b, 4, none⟩ = some (.slice none 0 0) ∧ w.cell? ⟨b, 5, none⟩ = some (.string (bs s.need)) ∧ w.cell? ⟨b, 6, none⟩ = some (.int .i64 s.err) ∧ w.cell? ⟨b, 7, none⟩ = some (.string (bs s.text)) ∧ w.cell? ⟨b, 8, none⟩ = some (.int .i64 s.used) ∧ w.frozen? ⟨b, 3, none⟩ = false ∧ w.frozen? ⟨b, 4, none⟩ = false :=
  ⟨(cell_heap h.blk 0).trans rfl, (cell_heap h.blk 3).trans rfl, (cell_heap h.blk 4).trans rfl, (cell_heap h.blk 5).trans rfl, (cell_heap h.blk 6).trans rfl, (cell_heap h.blk 7).trans rfl, (cell_heap h.blk 8).trans rfl, frozen_heap h.blk 3, frozen_heap h.blk 4⟩
set_option maxHeartbeats 8000000 in
theorem rrun_own (l : List Stp) (L : Option Addr) (m mc : Nat) (fs : List Fl) (F : Option Addr) (fc' : Nat) (names : List B) (N : Option Addr) (nn nc : Nat) (fuel : Int) (w : World) (ok : Nat → Prop) (hE : Lg.Env w) (hsl : StepsAt w ok L m l) (hn : numL l) (hpl : (print l).length ≤ 4000000) (hw : Lg.weight l ≤ 1000000 ∧ Lg.wide l ≤ 1000000)
    (hf : Fls w F fs) (hfl : fs.length ≤ 1000) (hfc : fs.length ≤ fc') (hfz : ∀ f ∈ fs, f.p.size ≤ 1000000000 ∧ f.d.size ≤ maxLen) (hnm : Reads w w.heap.size 1 N nn (strV names)) (hnn : nn = names.length) (hnl : names.length ≤ 1000000) :
    Calls Tryz.prog 11 #[.slice L m mc, .slice F fs.length fc', .slice N nn nc, .int .i64 fuel] w (RunOwn (outcome l fs names fuel) w) := by
  obtain ⟨W1, eW⟩ : ∃ W1, W1 = w.alloc (.cells zeroO 31) := ⟨_, rfl⟩
  have hb1 : Below w.heap.size w W1 := by rw [eW]; exact (Below.refl _ _).alloc (Nat.le_refl _) _
  have q1 : W1.heap[w.heap.size]? = some (.cells zeroO 31 (0, 0)) := by rw [eW]; exact heap_alloc_new w _
  have hz1 : W1.heap.size = w.heap.size + 1 := by rw [eW]; simp
  have HB := Lib.hid (fun W (hW : Below W1.heap.size W1 W) => hb1.trans (hW.mono hb1.size))
  have RI := Lib.hid (Lg.rright_any l L m mc W1 ok (hsl.mono fun k hk hs => ⟨hk, hb1.block k hs⟩) hn (by omega) hw)
  have PC : Hid (∀ W, Below W1.heap.size W1 W → Calls Tryz.prog 33 #[.slice F fs.length fc'] W fun e w' => e = .returned (.int .i64 (checkE fs)) ∧ Below W.heap.size W w') := Lib.hid fun W hW => by
    have h := HB.out W hW
    exact Fs.rpcheck_any F fs fc' W ((hf.below h).more h.size) (by omega) hfz
  have BAD : Hid (∀ (e : Int) W, outcome l fs names fuel = badO e → Below W1.heap.size W1 W → RunOwn (outcome l fs names fuel) w (.returned (.agg #[.int .i64 3, .slice none 0 0, .string ⟨#[]⟩, .int .i64 e, .string ⟨#[]⟩, .int .i64 0]))
      ((((((W.setCell ⟨w.heap.size, 0, none⟩ (.int .i64 3)).setCell ⟨w.heap.size, 1, none⟩ (.slice none 0 0)).setCell ⟨w.heap.size, 2, none⟩ (.string ⟨#[]⟩)).setCell ⟨w.heap.size, 3, none⟩ (.int .i64 e)).setCell ⟨w.heap.size, 4, none⟩ (.string ⟨#[]⟩)).setCell ⟨w.heap.size, 5, none⟩ (.int .i64 0))) := Lib.hid fun e W h1 h2 => by
    rw [h1]
    exact ⟨none, 0, rfl, Lies.none_, Nat.le_refl _, set6_below (HB.out W h2) (Nat.le_refl _) _ _ _ _ _ _⟩
  have Q1 : Hid (∀ W, Below W1.heap.size W1 W → W.heap[w.heap.size]? = some (.cells zeroO 31 (0, 0))) := Lib.hid fun W hW => heap_below hW (by omega) q1
  have O1 : Hid (rightE l ≠ 0 → outcome l fs names fuel = badO (rightE l)) := Lib.hid fun h => by unfold outcome; rw [if_pos h]
  have ZC : Hid (∀ W, Below W1.heap.size W1 W → (∃ u, W.cell? ⟨w.heap.size, 0, none⟩ = some u) ∧ (∃ u, W.cell? ⟨w.heap.size, 1, none⟩ = some u) ∧ (∃ u, W.cell? ⟨w.heap.size, 2, none⟩ = some u) ∧ (∃ u, W.cell? ⟨w.heap.size, 3, none⟩ = some u) ∧ (∃ u, W.cell? ⟨w.heap.size, 4, none⟩ = some u) ∧ (∃ u, W.cell? ⟨w.heap.size, 5, none⟩ = some u) ∧
      W.frozen? ⟨w.heap.size, 0, none⟩ = false ∧ W.frozen? ⟨w.heap.size, 1, none⟩ = false ∧ W.frozen? ⟨w.heap.size, 2, none⟩ = false ∧ W.frozen? ⟨w.heap.size, 3, none⟩ = false ∧ W.frozen? ⟨w.heap.size, 4, none⟩ = false ∧ W.frozen? ⟨w.heap.size, 5, none⟩ = false) := Lib.hid fun W hW => by
    have q := Q1.out W hW
    exact ⟨⟨_, (cell_heap q 0).trans rfl⟩, ⟨_, (cell_heap q 1).trans rfl⟩, ⟨_, (cell_heap q 2).trans rfl⟩, ⟨_, (cell_heap q 3).trans rfl⟩, ⟨_, (cell_heap q 4).trans rfl⟩, ⟨_, (cell_heap q 5).trans rfl⟩, frozen_heap q 0, frozen_heap q 1, frozen_heap q 2, frozen_heap q 3, frozen_heap q 4, frozen_heap q 5⟩
  by_cases he : rightE l = 0
  · rw [he] at RI
    have hpa := Lg.right_ok he
    by_cases hgood : checkE fs = 0 ∧ 1 ≤ fuel ∧ fuel ≤ 2000
    · obtain ⟨hc0, hf1, hf2⟩ := hgood
      obtain ⟨fu, rfl⟩ : ∃ fu : Nat, fuel = (fu : Int) := ⟨fuel.toNat, by omega⟩
      rw [hc0] at PC
      have hRF := right_iff.1 hc0
      have k1 : ¬ (fu : Int) < 1 := by omega
      have k2 : ¬ (2000 : Int) < (fu : Int) := by omega
      have k3 : decide ((fu : Int) < 1) = false := decide_eq_false k1
      have k4 : decide ((2000 : Int) < (fu : Int)) = false := decide_eq_false k2
      have hrs : rightS l := by
        have := parse_right (cmd := print l)
        rw [hpa] at this
        exact this
      have hbk : bulkS l < 1000000 := by
        have h1 := Lg.parse_size hpa
        have h2 := parse_short hpa
        rw [bulk_weight]
        omega
      have hOUT : outcome l fs names fu = ended (run withF withoutF names upB soB fu l fs) := by
        unfold outcome
        rw [if_neg (by simp [he]), if_neg (by omega)]
        rfl
      -- the state that is begun
      have ALL : Hid (∀ W, Below W1.heap.size W1 W → Calls Tryz.prog 34 #[.pointer (some ⟨W.heap.size, 0, none⟩), .slice L m mc] (W.alloc (.cells #[.slice F fs.length fc', .slice N nn nc, .int .i64 fu, .int .i64 0, .slice none 0 0, .string ⟨#[]⟩, .int .i64 0, .string ⟨#[]⟩, .int .i64 0] 72))
          (RWent W.heap.size fu N nn nc (W.alloc (.cells #[.slice F fs.length fc', .slice N nn nc, .int .i64 fu, .int .i64 0, .slice none 0 0, .string ⟨#[]⟩, .int .i64 0, .string ⟨#[]⟩, .int .i64 0] 72)) (run withF withoutF names upB soB fu l fs))) := Lib.hid fun W hW => by
        have hw := HB.out W hW
        have hws := hw.size
        have hw2 : Below w.heap.size w (W.alloc (.cells #[.slice F fs.length fc', .slice N nn nc, .int .i64 fu, .int .i64 0, .slice none 0 0, .string ⟨#[]⟩, .int .i64 0, .string ⟨#[]⟩, .int .i64 0] 72)) := hw.alloc hws _
        exact rall_any (by omega) (by omega) hnn hnl 1000000 l (Nat.le_refl _) hbk hrs (loop_num hn) _ (start fs) L m mc ⟨w, fs_env hE, hws, hw2⟩
          ⟨F, fc', (heap_alloc_new W _).trans rfl, (Lies.of_reads hf).mono (by decide) (fun k hk hs => ⟨by omega, hw2.block k hs⟩), hfc⟩
          ⟨hRF, .inl ⟨rfl, rfl, rfl, rfl⟩⟩ (Nat.zero_le _)
          ((Lies.of_reads hnm).mono (by decide) (fun k hk hs => ⟨by omega, hw2.block k hs⟩)) (hsl.mono fun k hk hs => ⟨by omega, hw2.block k hs⟩)
      have QX : Hid (∀ W V, Below W1.heap.size W1 W → BelowX (W.alloc (.cells #[.slice F fs.length fc', .slice N nn nc, .int .i64 fu, .int .i64 0, .slice none 0 0, .string ⟨#[]⟩, .int .i64 0, .string ⟨#[]⟩, .int .i64 0] 72)).heap.size W.heap.size (W.alloc (.cells #[.slice F fs.length fc', .slice N nn nc, .int .i64 fu, .int .i64 0, .slice none 0 0, .string ⟨#[]⟩, .int .i64 0, .string ⟨#[]⟩, .int .i64 0] 72)) V →
          V.cell? ⟨w.heap.size, 0, none⟩ = some (.int .i64 0) ∧ V.cell? ⟨w.heap.size, 1, none⟩ = some (.slice none 0 0) ∧ V.cell? ⟨w.heap.size, 2, none⟩ = some (.string ⟨#[]⟩) ∧ V.cell? ⟨w.heap.size, 3, none⟩ = some (.int .i64 0) ∧ V.cell? ⟨w.heap.size, 4, none⟩ = some (.string ⟨#[]⟩) ∧ V.cell? ⟨w.heap.size, 5, none⟩ = some (.int .i64 0) ∧
          V.frozen? ⟨w.heap.size, 0, none⟩ = false ∧ V.frozen? ⟨w.heap.size, 1, none⟩ = false ∧ V.frozen? ⟨w.heap.size, 2, none⟩ = false ∧ V.frozen? ⟨w.heap.size, 3, none⟩ = false ∧ V.frozen? ⟨w.heap.size, 4, none⟩ = false ∧ V.frozen? ⟨w.heap.size, 5, none⟩ = false) := Lib.hid fun W V hW hX => by
        have hws := hW.size
        have q0 := heap_alloc_lt (o' := .cells #[.slice F fs.length fc', .slice N nn nc, .int .i64 fu, .int .i64 0, .slice none 0 0, .string ⟨#[]⟩, .int .i64 0, .string ⟨#[]⟩, .int .i64 0] 72) (Q1.out W hW)
        have q := (hX.block w.heap.size (by simp; omega) (by omega)).trans q0
        exact ⟨(cell_heap q 0).trans rfl, (cell_heap q 1).trans rfl, (cell_heap q 2).trans rfl, (cell_heap q 3).trans rfl, (cell_heap q 4).trans rfl, (cell_heap q 5).trans rfl, frozen_heap q 0, frozen_heap q 1, frozen_heap q 2, frozen_heap q 3, frozen_heap q 4, frozen_heap q 5⟩
      have QH : Hid (∀ W V, Below W1.heap.size W1 W → BelowX (W.alloc (.cells #[.slice F fs.length fc', .slice N nn nc, .int .i64 fu, .int .i64 0, .slice none 0 0, .string ⟨#[]⟩, .int .i64 0, .string ⟨#[]⟩, .int .i64 0] 72)).heap.size W.heap.size (W.alloc (.cells #[.slice F fs.length fc', .slice N nn nc, .int .i64 fu, .int .i64 0, .slice none 0 0, .string ⟨#[]⟩, .int .i64 0, .string ⟨#[]⟩, .int .i64 0] 72)) V →
          V.heap[w.heap.size]? = some (.cells zeroO 31 (0, 0)) ∧ w.heap.size < W.heap.size ∧ Below w.heap.size w V) := Lib.hid fun W V hW hX => by
        have hws := hW.size
        have q0 := heap_alloc_lt (o' := .cells #[.slice F fs.length fc', .slice N nn nc, .int .i64 fu, .int .i64 0, .slice none 0 0, .string ⟨#[]⟩, .int .i64 0, .string ⟨#[]⟩, .int .i64 0] 72) (Q1.out W hW)
        exact ⟨(hX.block w.heap.size (by simp; omega) (by omega)).trans q0, by omega, ((HB.out W hW).alloc (HB.out W hW).size _).trans (hX.below (by simp; omega) (by omega))⟩
      have FIN : Hid (Fine (fun _ => True) (run withF withoutF names upB soB fu l fs)) := Lib.hid (run_fine (by omega) (needs_true l) hRF)
      clear hpa hRF hrs hbk hE hsl hn hpl hf hfl hfc hfz hnm hnn hnl BAD O1 hb1 q1 hc0 he
      rw [hOUT]
      clear hOUT
      generalize run withF withoutF names upB soB fu l fs = st at *
      cases hov : over st with
      | true =>
        have OV := Lib.hid hov
        have n1 : ((st.kind : Int) == 0) = false := by have := kind_over hov; simpa using this
        have n2 : ¬ (st.kind : Int) = 0 := by have := kind_over hov; omega
        have EN : Hid (∀ V, Below w.heap.size w V → RunOwn (ended st) w (.returned (.agg #[.int .i64 st.kind, .slice none 0 0, .string (bs st.need), .int .i64 st.err, .string (bs st.text), .int .i64 st.used])) V) := Lib.hid fun V h => by
          unfold ended
          rw [if_pos hov]
          exact ⟨none, 0, rfl, Lies.none_, Nat.le_refl _, h⟩
        clear hov
        generalize RunOwn (ended st) w = Q at *
        go_enter Tryz.func11, Tryz.ntmps11
        go_wp2_with (first | (go_at_call 32; rw [zeroO] at eW; rw [← eW]; clear eW; (with_reducible refine (RI.out).mono ?_); rintro e w2 ⟨rfl, hb2⟩) | (go_at_call 33; (with_reducible refine (PC.out _ hb2).mono ?_); rintro e w3 ⟨rfl, hb3⟩; have h3 := hb2.trans (hb3.mono hb2.size); clear hb3) | (go_at_call 34; (with_reducible refine (ALL.out _ h3).mono ?_); rintro e w4 ⟨rfl, ⟨A4, c4, h4⟩, h5⟩; obtain ⟨s0, s3, s4, s5, s6, s7, s8, t3, t4⟩ := h4.open_; clear h4; obtain ⟨x0, x1, x2, x3, x4, x5, y0, y1, y2, y3, y4, y5⟩ := QX.out _ _ h3 h5))
        refine bodyPost_ret (results_cell rfl _ _ _ ⟨w.heap.size, 0, none⟩ _ _ rfl (load_out (set6 (QH.out _ _ h3 h5).1 _ _ _ _ _ _) rfl)) rfl ?_
        exact EN.out _ (set6_below (QH.out _ _ h3 h5).2.2 (Nat.le_refl _) _ _ _ _ _ _)
      | false =>
        have OV := Lib.hid hov
        have hk0 := kind_on hov
        have EN : Hid (∀ V A c, Lies V (fun g => w.heap.size ≤ g) 2 A (under st.files outB).length (fc (under st.files outB)) → (under st.files outB).length ≤ c → Below w.heap.size w V → RunOwn (ended st) w (.returned (.agg #[.int .i64 1, .slice A (under st.files outB).length c, .string (bs st.need), .int .i64 st.err, .string (bs st.text), .int .i64 st.used])) V) := Lib.hid fun V A c h1 h2 h => by
          unfold ended
          rw [if_neg (by simp [hov])]
          exact ⟨A, c, rfl, h1, h2, h⟩
        have HK := Lib.hid hk0
        clear hov hk0
        generalize RunOwn (ended st) w = Q at *
        go_enter Tryz.func11, Tryz.ntmps11
        go_upto_region 10 with (first | (go_at_call 32; rw [zeroO] at eW; rw [← eW]; clear eW; (with_reducible refine (RI.out).mono ?_); rintro e w2 ⟨rfl, hb2⟩) | (go_at_call 33; (with_reducible refine (PC.out _ hb2).mono ?_); rintro e w3 ⟨rfl, hb3⟩; have h3 := hb2.trans (hb3.mono hb2.size); clear hb3) | (go_at_call 34; (with_reducible refine (ALL.out _ h3).mono ?_); rintro e w4 ⟨rfl, ⟨A4, c4, h4⟩, h5⟩; have H4 := Lib.hid h4; obtain ⟨s0, s3, s4, s5, s6, s7, s8, t3, t4⟩ := h4.open_; rw [HK.out] at s3; clear h4 s4 s5 s6 s7 s8 t4))
        obtain ⟨V4, eV4⟩ : ∃ V, V = w4.setCell ⟨w3.heap.size, 3, none⟩ (.int .i64 1) := ⟨_, rfl⟩
        rw [← eV4]
        have H4' : Hid (RAt V4 w3.heap.size fu N nn nc A4 c4 { st with kind := 1 }) := Lib.hid (by
          rw [eV4]
          exact H4.out.set rfl ((heap_set H4.out.blk).trans rfl) (fun k hk => heap_set_ne hk.symm))
        have hx4 : BelowX (w3.alloc (.cells #[.slice F fs.length fc', .slice N nn nc, .int .i64 fu, .int .i64 0, .slice none 0 0, .string ⟨#[]⟩, .int .i64 0, .string ⟨#[]⟩, .int .i64 0] 72)).heap.size w3.heap.size (w3.alloc (.cells #[.slice F fs.length fc', .slice N nn nc, .int .i64 fu, .int .i64 0, .slice none 0 0, .string ⟨#[]⟩, .int .i64 0, .string ⟨#[]⟩, .int .i64 0] 72)) V4 := by
          rw [eV4]
          exact h5.setX (p := ⟨w3.heap.size, 3, none⟩) rfl _
        have UN : Hid (Calls Tryz.prog 35 #[.slice A4 st.files.length c4, .string ⟨#[111, 117, 116]⟩] V4 (Fs.FilesOwn (under st.files outB) V4)) := Lib.hid (Fs.runder_own A4 st.files c4 ⟨#[111, 117, 116]⟩ (by decide) V4 H4'.out.flsr (right_small FIN.out.files))
        clear eV4 s0 s3 t3 h5 H4
        obtain ⟨s0, s3, s4, s5, s6, s7, s8, t3, t4⟩ := H4'.out.open_
        have hq1 := (QH.out _ _ h3 hx4).2.1
        have hne1 : ¬ w.heap.size = w3.heap.size := by omega
        have hne2 : ¬ w3.heap.size = w.heap.size := by omega
        go_wp2_with (go_at_call 35; (with_reducible refine (UN.out).mono ?_); rintro e w6 ⟨v6, rfl, ho6, hb6⟩; clear s0 s3 s4 s5 s6 s7 s8 t3 t4; have H6 := Lib.hid (H4'.out.keep hb6); obtain ⟨vA, vc, rfl, hvc⟩ := own_slc ho6; have HO6 := Lib.hid ho6; have hlt4 := lt_heap H4'.out.blk; have hs4 := hx4.size; clear ho6; have hx6 := hx4.trans ((BelowX.of hb6).mono hx4.size); obtain ⟨s0, s3, s4, s5, s6, s7, s8, t3, t4⟩ := H6.out.open_; obtain ⟨x0, x1, x2, x3, x4, x5, y0, y1, y2, y3, y4, y5⟩ := QX.out _ _ h3 hx6; have HH := Lib.hid (QH.out _ _ h3 hx6))
        simp at hs4
        refine bodyPost_ret (results_cell rfl _ _ _ ⟨w.heap.size, 0, none⟩ _ _ rfl (load_out (set6 (by rw [heap_set_ne hne2]; exact HH.out.1) _ _ _ _ _ _) rfl)) rfl ?_
        refine EN.out _ vA vc (lies_own (c := vc) (own_past (own_past (own_past (own_past (own_past (own_past (own_past HO6.out hlt4 _ _) (by omega) _ _) (by omega) _ _) (by omega) _ _) (by omega) _ _) (by omega) _ _) (by omega) _ _) (fc_len _) (fun g hg => by have := HH.out.2.1; omega)) hvc ?_
        exact set6_below (HH.out.2.2.setCell (p := ⟨w3.heap.size, 4, none⟩) (by show w.heap.size ≤ w3.heap.size; omega) _) (Nat.le_refl _) _ _ _ _ _ _
    · have O2 : outcome l fs names fuel = badO 1 := by unfold outcome; rw [if_neg (by simp [he]), if_pos (by omega)]
      have B1 := Lib.hid (fun W hW => BAD.out _ W O2 hW)
      clear he hE hsl hn hpl hf hfl hfc hfz hnm hnn hnl BAD O1 hb1 q1 O2 hpa
      generalize RunOwn (outcome l fs names fuel) w = Q at *
      by_cases hc : checkE fs = 0
      · rw [hc] at PC
        have hff : fuel < 1 ∨ 2000 < fuel := by omega
        clear hc hgood
        rcases hff with hlo | hhi
        · have k1 : decide (fuel < 1) = true := decide_eq_true hlo
          go_enter Tryz.func11, Tryz.ntmps11
          go_wp2_with (first | (go_at_call 32; rw [zeroO] at eW; rw [← eW]; clear eW; (with_reducible refine (RI.out).mono ?_); rintro e w2 ⟨rfl, hb2⟩) | (go_at_call 33; (with_reducible refine (PC.out _ hb2).mono ?_); rintro e w3 ⟨rfl, hb3⟩; have h3 := hb2.trans (hb3.mono hb2.size); obtain ⟨⟨u0, x0⟩, ⟨u1, x1⟩, ⟨u2, x2⟩, ⟨u3, x3⟩, ⟨u4, x4⟩, ⟨u5, x5⟩, y0, y1, y2, y3, y4, y5⟩ := ZC.out _ h3))
          refine bodyPost_ret (results_cell rfl _ _ _ ⟨w.heap.size, 0, none⟩ _ _ rfl (load_out (set6 (Q1.out _ h3) _ _ _ _ _ _) rfl)) rfl ?_
          exact B1.out _ h3
        · have hlo : ¬ fuel < 1 := by omega
          have k1 : decide (fuel < 1) = false := decide_eq_false hlo
          have k2 : decide (2000 < fuel) = true := decide_eq_true hhi
          go_enter Tryz.func11, Tryz.ntmps11
          go_wp2_with (first | (go_at_call 32; rw [zeroO] at eW; rw [← eW]; clear eW; (with_reducible refine (RI.out).mono ?_); rintro e w2 ⟨rfl, hb2⟩) | (go_at_call 33; (with_reducible refine (PC.out _ hb2).mono ?_); rintro e w3 ⟨rfl, hb3⟩; have h3 := hb2.trans (hb3.mono hb2.size); obtain ⟨⟨u0, x0⟩, ⟨u1, x1⟩, ⟨u2, x2⟩, ⟨u3, x3⟩, ⟨u4, x4⟩, ⟨u5, x5⟩, y0, y1, y2, y3, y4, y5⟩ := ZC.out _ h3))
          refine bodyPost_ret (results_cell rfl _ _ _ ⟨w.heap.size, 0, none⟩ _ _ rfl (load_out (set6 (Q1.out _ h3) _ _ _ _ _ _) rfl)) rfl ?_
          exact B1.out _ h3
      · have k0 : (checkE fs != 0) = true := by simpa using hc
        clear hgood
        generalize checkE fs = ce at *
        go_enter Tryz.func11, Tryz.ntmps11
        go_wp2_with (first | (go_at_call 32; rw [zeroO] at eW; rw [← eW]; clear eW; (with_reducible refine (RI.out).mono ?_); rintro e w2 ⟨rfl, hb2⟩) | (go_at_call 33; (with_reducible refine (PC.out _ hb2).mono ?_); rintro e w3 ⟨rfl, hb3⟩; have h3 := hb2.trans (hb3.mono hb2.size); obtain ⟨⟨u0, x0⟩, ⟨u1, x1⟩, ⟨u2, x2⟩, ⟨u3, x3⟩, ⟨u4, x4⟩, ⟨u5, x5⟩, y0, y1, y2, y3, y4, y5⟩ := ZC.out _ h3))
        refine bodyPost_ret (results_cell rfl _ _ _ ⟨w.heap.size, 0, none⟩ _ _ rfl (load_out (set6 (Q1.out _ h3) _ _ _ _ _ _) rfl)) rfl ?_
        exact B1.out _ h3
  · have B1 := Lib.hid (fun W hW => BAD.out _ W (O1.out he) hW)
    have he2 : ((rightE l : Int) != 0) = true := by simpa using he
    have he3 : ¬ (rightE l : Int) = 0 := by omega
    clear he hE hsl hn hpl hf hfl hfc hfz hnm hnn hnl BAD O1 hb1 q1 PC
    generalize (rightE l : Int) = er at *
    generalize RunOwn (outcome l fs names fuel) w = Q at *
    go_enter Tryz.func11, Tryz.ntmps11
    go_wp2_with (go_at_call 32; rw [zeroO] at eW; rw [← eW]; clear eW; (with_reducible refine (RI.out).mono ?_); rintro e w2 ⟨rfl, hb2⟩; obtain ⟨⟨u0, x0⟩, ⟨u1, x1⟩, ⟨u2, x2⟩, ⟨u3, x3⟩, ⟨u4, x4⟩, ⟨u5, x5⟩, y0, y1, y2, y3, y4, y5⟩ := ZC.out _ hb2)
    refine bodyPost_ret (results_cell rfl _ _ _ ⟨w.heap.size, 0, none⟩ _ _ rfl (load_out (set6 (Q1.out _ hb2) _ _ _ _ _ _) rfl)) rfl ?_
    exact B1.out _ hb2
end Go.Proofs.YtdidnlkilleljaaGreatDoor.Bx
/- BxFew, what a claim needs of it (prune.py). -/
namespace Go.Proofs.YtdidnlkilleljaaGreatDoor.Bx
open Go.RowKit
open Lg (BelowX Lies strV StepsAt Stp numL smallL weight SmSays)
open Fs (fc fc_len fc_cell Fls B)
set_option linter.unusedVariables false
set_option maxRecDepth 100000
theorem bsmall_any (l : List Stp) (A : Option Addr) (n cp : Nat) (W : World) (ok : Nat → Prop) (hr : StepsAt W ok A n l) :
    Calls Tryz.prog 26 #[.slice A n cp] W fun e W' => ∃ b, e = .returned (.bool b) ∧ Below W.heap.size W W' ∧ (b = true → weight l ≤ 300 ∧ smallL l) := by
  have hr1 : StepsAt (W.alloc (.cells #[.int .i64 (300 : Int)] 3)) (fun b => b ≠ W.heap.size) A n l := hr.mono (fun b _ hs => ⟨by omega, Below.heap_alloc _ _ _ hs⟩)
  have IH : Hid (Calls Tryz.prog 63 #[.slice A n cp, .pointer (some ⟨W.heap.size, 0, none⟩), .int .i64 60] (W.alloc (.cells #[.int .i64 300] 3)) fun e W' => SmSays (W.alloc (.cells #[.int .i64 (300 : Int)] 3)) W' W.heap.size 300 l e) := Lib.hid (Lg.small_any 60 (by decide) l A n cp (W.alloc (.cells #[.int .i64 (300 : Int)] 3)) W.heap.size 300 hr1 (heap_alloc_new W _) (by omega))
  clear hr hr1
  go_enter Tryz.func26, Tryz.ntmps26
  go_wp2_with (go_at_call 63; (with_reducible refine (IH.out).mono ?_); rintro e w4 ⟨bv, rfl, hb4, hres⟩; have HRES := Lib.hid hres; clear hres)
  go_ret
  refine ⟨bv, rfl, (((Below.refl _ _).alloc (Nat.le_refl _) _).trans (hb4.below (by simp) (Nat.le_refl _))), fun h => ?_⟩
  obtain ⟨k, _, hw, hs⟩ := HRES.out h
  exact ⟨by omega, hs⟩
structure FewB (l : List Stp) (fs : List Fl) (names : Nat) : Prop where
  w : weight l ≤ 300
  s : smallL l
  fl : fs.length ≤ 60
  nl : names ≤ 30
  fz : ∀ f ∈ fs, f.p.size ≤ 100 ∧ f.d.size ≤ 3000
def FewSays (l : List Stp) (fs : List Fl) (names : Nat) (w : World) (e : Ending) (w' : World) : Prop := ∃ b, e = .returned (.bool b) ∧ Below w.heap.size w w' ∧ (b = true → FewB l fs names)
def ShortTo (fs : List Fl) (k : Nat) : Prop := ∀ j (hj : j < fs.length), j < k → fs[j].p.size ≤ 100 ∧ fs[j].d.size ≤ 3000
theorem ShortTo.next {fs : List Fl} {k : Nat} (hk : k < fs.length) (h : ShortTo fs k) (h1 : fs[k].p.size ≤ 100) (h2 : fs[k].d.size ≤ 3000) : ShortTo fs (k + 1) := fun j hj hjk => by
  rcases Nat.lt_or_ge j k with h3 | h3
  · exact h j hj h3
  · obtain rfl : j = k := by omega
    exact ⟨h1, h2⟩
set_option maxHeartbeats 2000000 in
theorem few_any (l : List Stp) (L : Option Addr) (m mc : Nat) (fs : List Fl) (F : Option Addr) (fcc : Nat) (N : Option Addr) (nn nc : Nat) (w : World) (ok : Nat → Prop) (hsl : StepsAt w ok L m l) (hf : Fls w F fs) (hfl : fs.length ≤ maxLen) (hnn : nn ≤ maxLen) (hfz : ∀ f ∈ fs, f.p.size ≤ maxLen ∧ f.d.size ≤ maxLen) :
    Calls Tryz.prog 8 #[.slice L m mc, .slice F fs.length fcc, .slice N nn nc] w (FewSays l fs nn w) := by
  have SM := Lib.hid (bsmall_any l L m mc w ok hsl)
  have RD : Hid (∀ W, Below w.heap.size w W → Reads W w.heap.size 2 F fs.length (fc fs)) := Lib.hid fun W hW => hf.below hW
  have NO : Hid (∀ W, Below w.heap.size w W → FewSays l fs nn w (.returned (.bool false)) W) := Lib.hid fun W h => ⟨false, rfl, h, fun h => by cases h⟩
  have YES : Hid (∀ W, Below w.heap.size w W → (weight l ≤ 300 ∧ smallL l) → fs.length ≤ 60 → nn ≤ 30 → ShortTo fs fs.length → FewSays l fs nn w (.returned (.bool true)) W) := Lib.hid fun W h h1 h2 h3 h4 => ⟨true, rfl, h, fun _ => ⟨h1.1, h1.2, h2, h3, fun f hf => by
    obtain ⟨j, hj, rfl⟩ := List.mem_iff_getElem.1 hf
    exact h4 j hj hj⟩⟩
  have FZ := Lib.hid hfz
  unfold maxLen at hfl hnn
  clear hsl hf hfz
  generalize FewSays l fs nn w = Q at *
  by_cases h60 : (60 : Int) < (fs.length : Int)
  · have d60 : decide ((60 : Int) < (fs.length : Int)) = true := decide_eq_true h60
    go_enter Tryz.func8, Tryz.ntmps8
    go_wp2_with (go_at_call 26; (with_reducible refine (SM.out).mono ?_); rintro e w1 ⟨bv, rfl, b1, hs⟩; clear hs; rcases bv with _ | _)
    all_goals exact NO.out _ b1
  · have d60 : decide ((60 : Int) < (fs.length : Int)) = false := decide_eq_false h60
    by_cases h30 : (30 : Int) < (nn : Int)
    · have d30 : decide ((30 : Int) < (nn : Int)) = true := decide_eq_true h30
      go_enter Tryz.func8, Tryz.ntmps8
      go_wp2_with (go_at_call 26; (with_reducible refine (SM.out).mono ?_); rintro e w1 ⟨bv, rfl, b1, hs⟩; clear hs; rcases bv with _ | _)
      all_goals exact NO.out _ b1
    · have d30 : decide ((30 : Int) < (nn : Int)) = false := decide_eq_false h30
      go_enter Tryz.func8, Tryz.ntmps8
      go_wp2_with (go_at_call 26; (with_reducible refine (SM.out).mono ?_); rintro e w1 ⟨bv, rfl, b1, hs⟩; have HS := Lib.hid hs; clear hs; rcases bv with _ | _)
      · exact NO.out _ b1
      · have H2 := Lib.hid (HS.out (by trivial))
        have B1 := Lib.hid b1
        clear HS b1
        go_loopw [7] (fun i W => ∃ k : Nat, i = .int .i64 k ∧ k ≤ fs.length ∧ Hid (ShortTo fs k) ∧ W = w1) (fun i _ => fs.length - (intOf i).toNat)
        case atStart => exact ⟨0, rfl, by omega, Lib.hid (fun j _ h => by omega), rfl⟩
        case round =>
          obtain ⟨k, rfl, hk, HA, rfl⟩ := hrel
          by_cases hlt : k < fs.length
          · have hkI : (k : Int) < (fs.length : Int) := by omega
            obtain ⟨ad, rfl, had, c0, c1⟩ := Fs.Fls.at_ (RD.out _ B1.out) hlt
            have NX := Lib.hid (fun h1 h2 => HA.out.next hlt h1 h2)
            have fz := FZ.out _ (List.getElem_mem hlt)
            unfold maxLen at fz
            obtain ⟨fz1, fz2⟩ := fz
            generalize fs[k] = f at *
            by_cases hp : (100 : Int) < (f.p.size : Int)
            · have dp : decide ((100 : Int) < (f.p.size : Int)) = true := decide_eq_true hp
              go_wp2_with (fail)
              exact NO.out _ B1.out
            · have dp : decide ((100 : Int) < (f.p.size : Int)) = false := decide_eq_false hp
              by_cases hd : (3000 : Int) < (f.d.size : Int)
              · have dd : decide ((3000 : Int) < (f.d.size : Int)) = true := decide_eq_true hd
                go_wp2_with (fail)
                exact NO.out _ B1.out
              · have dd : decide ((3000 : Int) < (f.d.size : Int)) = false := decide_eq_false hd
                have G := Lib.hid (NX.out (by omega) (by omega))
                go_wp2_with (fail)
                go_roundw
                case rel => exact ⟨k + 1, by go_num, by omega, G, by first | rfl | trivial⟩
                case measure => simp [intOf]; omega
          · obtain rfl : k = fs.length := by omega
            go_wp2_with (fail)
            exact YES.out _ B1.out H2.out (by omega) (by omega) HA.out
theorem rsame6_any (kd er us : Int) (nd tx : ByteArray) (fs : List Fl) (A F : Option Addr) (c d : Nat) (w : World) (hA : Fls w A fs) (hF : Fls w F fs) (hl : fs.length ≤ 1000000000) :
    Calls Tryz.prog 12 #[.agg #[.int .i64 kd, .slice A fs.length c, .string nd, .int .i64 er, .string tx, .int .i64 us], .agg #[.int .i64 kd, .slice F fs.length d, .string nd, .int .i64 er, .string tx, .int .i64 us]] w fun e w' => e = .returned (.bool true) ∧ Below w.heap.size w w' := by
  obtain ⟨W1, eW⟩ : ∃ W1, W1 = (w.alloc (.cells #[.int .i64 kd, .slice A fs.length c, .string nd, .int .i64 er, .string tx, .int .i64 us] 31)).alloc (.cells #[.int .i64 kd, .slice F fs.length d, .string nd, .int .i64 er, .string tx, .int .i64 us] 31) := ⟨_, rfl⟩
  have hb : Below w.heap.size w W1 := by rw [eW]; exact ((Below.refl _ _).alloc (Nat.le_refl _) _).alloc (by simp) _
  have SM : Hid (Calls Tryz.prog 13 #[.slice A fs.length c, .slice F fs.length d] W1 fun e w' => e = .returned (.bool true) ∧ Below W1.heap.size W1 w') := Lib.hid (by
    have := Fs.rsameF_any A F fs fs c d W1 hl hl ((hA.below hb).more hb.size) ((hF.below hb).more hb.size)
    rw [decide_eq_true rfl] at this
    exact this)
  have n1 : (nd.toList == nd.toList) = true := by simp
  have n2 : (tx.toList == tx.toList) = true := by simp
  clear hA hF hl
  go_enter Tryz.func12, Tryz.ntmps12
  go_wp2_with (go_at_call 13; rw [← eW]; clear eW; (with_reducible refine (SM.out).mono ?_); rintro e w2 ⟨rfl, h2⟩)
  go_ret
  exact ⟨rfl, hb.trans (h2.mono hb.size)⟩
end Go.Proofs.YtdidnlkilleljaaGreatDoor.Bx
/- BxAwake, what a claim needs of it (prune.py). -/
namespace Go.Proofs.YtdidnlkilleljaaGreatDoor.Bx
open Go.RowKit
open Lg (BelowX Lies strV StepsAt RowAt Stp numL rightE print parse)
open Fs (fc fc_len fc_cell Fls B under checkE)
set_option linter.unusedVariables false
set_option maxRecDepth 100000
theorem one_any (o : Int) (ag : List B) (A : Option Addr) (k c g : Nat) (w : World) (hg : w.heap.size = g) (hr : Lies w (fun _ => True) 1 A k (strV ag)) (hk : k = ag.length) (hc : k ≤ c) :
    Calls Tryz.prog 27 #[.int .i64 o, .slice A k c] w fun e w' => e = .returned (.slice (some ⟨g, 0, none⟩) 1 1) ∧ StepsAt w' (fun _ => True) (some ⟨g, 0, none⟩) 1 [⟨o, ag, 0, []⟩] ∧ Below w.heap.size w w' ∧ w'.heap.size = w.heap.size + 1 := by
  subst hg
  have EN : Hid (StepsAt (w.alloc (.cells #[.int .i64 o, .slice A k c, .int .i64 0, .slice none 0 0] 61)) (fun _ => True) (some ⟨w.heap.size, 0, none⟩) 1 [⟨o, ag, 0, []⟩]) := Lib.hid (by
    have q := heap_alloc_new w (.cells #[.int .i64 o, .slice A k c, .int .i64 0, .slice none 0 0] 61)
    refine ⟨rfl, [.int .i64 o, .slice A k c, .int .i64 0, .slice none 0 0], ⟨rfl, fun _ => ⟨_, rfl, trivial, fun j u hu => ?_⟩⟩, ?_⟩
    · rw [Lg.add_eq, cell_heap q]
      simpa using hu
    · exact .cons hk hc (hr.mono (by decide) fun b _ hs => ⟨trivial, Below.heap_alloc _ _ _ hs⟩) rfl (Nat.le_refl _) Lies.none_ .nil .nil)
  clear hr hk hc
  go_enter Tryz.func27, Tryz.ntmps27
  go_wp2_with (fail)
  go_ret
  exact ⟨rfl, EN.out, (Below.refl _ _).alloc (Nat.le_refl _) _, by simp⟩
theorem lies_new (w : World) (cs : Array Value) (l : List B) (n g : Nat) (hg : w.heap.size = g) (h : cs.toList = strV l) (hn : n = l.length) : Lies (w.alloc (.cells cs 9)) (fun _ => True) 1 (some ⟨g, 0, none⟩) n (strV l) := by
  subst hn hg
  refine ⟨by simp, fun _ => ⟨_, rfl, trivial, fun j u hu => ?_⟩⟩
  rw [Lg.add_eq, cell_heap (heap_alloc_new w _)]
  rw [← h] at hu
  simpa using hu
theorem check_nil : checkE [] = 0 := right_iff.2 ⟨fun f hf => (by cases hf), by simp, List.Pairwise.nil, fun a ha => (by cases ha)⟩
theorem outcome_of {cmd : B} {l : List Stp} (hp : parse cmd = (l, 0)) {fs : List Fl} (hf : checkE fs = 0) {names : List B} {fu : Nat} (h1 : 1 ≤ fu) (h2 : fu ≤ 2000) : outcome l fs names fu = ended (run withF withoutF names upB soB fu l fs) := by
  unfold outcome
  rw [if_neg (by rw [Lg.right_parse hp]; simp), if_neg (by omega)]
  rfl
theorem run_line {cmd : B} {l : List Stp} (hp : parse cmd = (l, 0)) (hcl : cmd.length ≤ 4000000) {fs : List Fl} (hf : checkE fs = 0) {names : List B} {fu : Nat} (h1 : 1 ≤ fu) (h2 : fu ≤ 2000) {o : Out} (ho : ended (run withF withoutF names upB soB fu l fs) = o)
    (L : Option Addr) (m mc : Nat) (F : Option Addr) (fn fcc : Nat) (N : Option Addr) (nn nc : Nat) (w : World) (ok : Nat → Prop) (hE : Lg.Env w) (hsl : StepsAt w ok L m l) (hfl : Fls w F fs) (hfn : fn = fs.length) (hfc : fn ≤ fcc) (hnm : Reads w w.heap.size 1 N nn (strV names)) (hnn : nn = names.length) (hnl : names.length ≤ 1000000) :
    Calls Tryz.prog 10 #[.slice L m mc, .slice F fn fcc, .slice N nn nc, .int .i64 fu] w (RunSays o w) := by
  subst hfn
  have hR := right_iff.1 hf
  have := run_any l L m mc fs F fcc names N nn nc fu w ok hE hsl (Lg.parse_num hp) (by rw [Lg.parse_print hp]; exact hcl) hfl (by have := hR.len; omega) hfc (fun f hf => ⟨by have := path_size (hR.each f hf).1; unfold maxLen; omega, by have := (hR.each f hf).2; unfold maxLen; omega⟩) hnm hnn hnl
  rw [outcome_of hp hf h1 h2, ho] at this
  exact this
def c1 : B := [112, 117, 116, 32, 111, 117, 116, 47, 97, 32, 120, 10]
def l1 : List Stp := [⟨1, [[111, 117, 116, 47, 97], [120]], 0, []⟩]
def c2 : B := [110, 101, 101, 100, 32, 116, 10]
def l2 : List Stp := [⟨7, [[116]], 0, []⟩]
def c4 : B := [108, 111, 111, 112, 32, 57, 57, 10, 100, 114, 111, 112, 32, 97, 10, 101, 110, 100, 10]
def l4 : List Stp := [⟨9, [], 99, [⟨6, [[97]], 0, []⟩]⟩]
def c5 : B := [99, 111, 112, 121, 32, 97, 32, 98, 10]
def l5 : List Stp := [⟨2, [[97], [98]], 0, []⟩]
theorem p1 : parse c1 = (l1, 0) := by kernel_rfl
theorem p2 : parse c2 = (l2, 0) := by kernel_rfl
theorem p4 : parse c4 = (l4, 0) := by kernel_rfl
theorem p5 : parse c5 = (l5, 0) := by kernel_rfl
def o1 : Out := ⟨1, [⟨bs [97], bs [120, 10]⟩], [], 0, [], 2⟩
def o2 : Out := ⟨2, [], [116], 0, [], 1⟩
def o3 : Out := ⟨1, [], [], 0, [], 1⟩
def o4 : Out := ⟨3, [], [], 34, [], 50⟩
def o5 : Out := ⟨3, [], [], 17, [97], 1⟩
theorem all_single {fu : Nat} {names : List B} {o n : Int} {a : List B} {b : List Stp} {s t : St} (ho : s.kind = 0) (h : does fu withF withoutF names upB soB o a n (all fu withF withoutF names upB soB b) s = t) : all fu withF withoutF names upB soB [⟨o, a, n, b⟩] s = t := (all_one ho h).trans all_end
theorem all_nil_fun {fu : Nat} {names : List B} : all fu withF withoutF names upB soB [] = id := funext fun s => all_end
theorem r1 : ended (run withF withoutF [] upB soB 9 l1 []) = o1 := by
  have : run withF withoutF [] upB soB 9 l1 [] = ⟨[⟨bs [111, 117, 116, 47, 97], bs [120, 10]⟩], 2, 0, [], 0, []⟩ := all_single rfl (by rw [all_nil_fun]; kernel_rfl)
  exact (congrArg ended this).trans (by kernel_rfl)
theorem r2 : ended (run withF withoutF [] upB soB 9 l2 []) = o2 := by
  have : run withF withoutF [] upB soB 9 l2 [] = ⟨[], 1, 2, [116], 0, []⟩ := all_single rfl (by rw [all_nil_fun]; kernel_rfl)
  exact (congrArg ended this).trans (by kernel_rfl)
theorem r3 : ended (run withF withoutF [[116]] upB soB 9 l2 []) = o3 := by
  have : run withF withoutF [[116]] upB soB 9 l2 [] = ⟨[], 1, 0, [], 0, []⟩ := all_single rfl (by rw [all_nil_fun]; kernel_rfl)
  exact (congrArg ended this).trans (by kernel_rfl)
theorem r5 : ended (run withF withoutF [] upB soB 9 l5 []) = o5 := by
  have : run withF withoutF [] upB soB 9 l5 [] = ⟨[], 1, 3, [], 17, [97]⟩ := all_single rfl (by rw [all_nil_fun]; kernel_rfl)
  exact (congrArg ended this).trans (by kernel_rfl)
def dropG (s : St) : St := if over s = true then s else does 50 withF withoutF [] upB soB 6 [[97]] 0 id s
theorem drop_fun : all 50 withF withoutF [] upB soB [⟨6, [[97]], 0, []⟩] = dropG := funext fun s => by
  unfold dropG
  rw [all, all_nil_fun]
  by_cases h : over s = true
  · rw [if_pos h, if_pos h]
  · rw [if_neg h, if_neg h]; rfl
theorem r4 : ended (run withF withoutF [] upB soB 50 l4 []) = o4 := by
  have : run withF withoutF [] upB soB 50 l4 [] = ⟨[], 50, 3, [], 34, []⟩ := all_single rfl (by rw [drop_fun]; kernel_rfl)
  exact (congrArg ended this).trans (by kernel_rfl)
end Go.Proofs.YtdidnlkilleljaaGreatDoor.Bx
