/- Joined by mkmerged.py: BxWithW, BxState. -/
import Derived.Test.YtdidnlkilleljaaGreatDoorMg27
import Derived.Test.YtdidnlkilleljaaGreatDoorMg28
import Derived.Test.YtdidnlkilleljaaGreatDoorMg25
import Derived.Test.YtdidnlkilleljaaGreatDoorMg05
/- BxWithW, what a claim needs of it (prune.py). -/
namespace Go.Proofs.YtdidnlkilleljaaGreatDoor.Bx
open Go.RowKit
open Fs (fc fc_len fc_at fc_cell fc_append fc_one Fls FilesOwn infoF B idx idx_cases NoneTo Env belowB)
set_option linter.unusedVariables false
set_option maxRecDepth 100000
theorem with1_any (a d s : ByteArray) (Bk : Nat) (W : World) (ha : a.size ≤ 1000000000) (hs : s.size ≤ 1000000000) (hB : Bk < W.heap.size) (hc : W.cell? ⟨Bk, 0, none⟩ = some (.string s)) :
    Calls Tryz.prog 135 #[.agg #[.string a, .string d], .pointer (some ⟨Bk, 0, none⟩)] W fun e w' => e = .returned (.bool (clashP (tl s) (tl a))) ∧ Below W.heap.size W w' := by
  have hne : Bk ≠ W.heap.size := by omega
  have CL : Hid (∀ V, Calls Tryz.prog 50 #[.string s, .string a] V fun e w' => e = .returned (.bool (clashP (tl s) (tl a))) ∧ V = w') := Lib.hid fun V => Fs.clash_any s a hs ha V
  go_enter Tryz.func135, Tryz.ntmps135
  go_wp2_with (go_at_call 50; (with_reducible refine (CL.out _).mono ?_); rintro e w1 ⟨rfl, rfl⟩)
  go_ret
  exact ⟨rfl, (Below.refl _ _).alloc (Nat.le_refl _) _⟩
theorem gt_op (a s : ByteArray) : decide (tl s < tl a) = (!Op.bytesLess a.toList s.toList && !a.toList == s.toList) := by
  rcases Fs.lt_or (a := tl a) (b := tl s) with h | h | h
  · rw [Fs.lt_op h, decide_eq_false (fun k => List.lt_irrefl _ (List.lt_trans h k))]; rfl
  · have e : a = s := Lg.tl_inj h
    subst e
    rw [decide_eq_false (List.lt_irrefl _)]; simp
  · have hne : a ≠ s := fun e => by subst e; exact List.lt_irrefl _ h
    rw [decide_eq_true h, Fs.nlt_op (fun k => List.lt_irrefl _ (List.lt_trans h k)), Lg.s_ne hne]; rfl
theorem with2_any (a d s : ByteArray) (Bk : Nat) (W : World) (hB : Bk < W.heap.size) (hc : W.cell? ⟨Bk, 0, none⟩ = some (.string s)) :
    Calls Tryz.prog 137 #[.agg #[.string a, .string d], .pointer (some ⟨Bk, 0, none⟩)] W fun e w' => e = .returned (.bool (decide (tl s < tl a))) ∧ Below W.heap.size W w' := by
  have hne : Bk ≠ W.heap.size := by omega
  have F := Lib.hid (gt_op a s)
  go_enter Tryz.func137, Tryz.ntmps137
  go_wp2_with (fail)
  go_ret
  exact ⟨Lg.ret_bool F.out, (Below.refl _ _).alloc (Nat.le_refl _) _⟩
theorem insF_at (f : Fl) : ∀ (l : List Fl) (k : Nat), k ≤ l.length → (∀ j (hj : j < l.length), j < k → ¬ tl f.p < tl l[j].p) → (∀ hk : k < l.length, tl f.p < tl l[k].p) → insF f l = l.take k ++ f :: l.drop k
  | [], k, hk, _, _ => by obtain rfl : k = 0 := by simpa using hk
                          rfl
  | g :: l, 0, _, _, h => by
    have := h (by simp)
    have this : tl f.p < tl g.p := this
    rw [insF, if_pos this]; rfl
  | g :: l, k + 1, hk, h1, h2 => by
    have h0 : ¬ tl f.p < tl g.p := h1 0 (by simp) (by omega)
    rw [insF, if_neg h0, insF_at f l k (by simpa using hk) (fun j hj hjk => h1 (j + 1) (by simpa using hj) (by omega)) (fun hk => h2 (by simpa using hk))]
    rfl
theorem idx_lt_of {p : Fl → Bool} {l : List Fl} (h : idx p l = -1) : ∀ j (hj : j < l.length), p l[j] = false := fun j hj => by
  rcases idx_cases p l with ⟨_, e2⟩ | ⟨k, hk, e1, _⟩
  · simpa using List.find?_eq_none.1 e2 _ (List.getElem_mem hj)
  · rw [e1] at h; omega
theorem put_ins {l : List Fl} {f : Fl} {k : Nat} (h : idx (fun g : Fl => decide (tl g.p = tl f.p)) l = -1) (hk : k ≤ l.length) (h1 : ∀ j (hj : j < l.length), j < k → ¬ tl f.p < tl l[j].p) (h2 : ∀ hk : k < l.length, tl f.p < tl l[k].p) : putF l (tl f.p) (tl f.d) = l.take k ++ f :: l.drop k := by
  have ha : l.any (atP (tl f.p)) = false := by
    rw [List.any_eq_false]
    intro x hx
    obtain ⟨j, hj, rfl⟩ := List.mem_iff_getElem.1 hx
    have := idx_lt_of h j hj
    unfold atP
    simpa using this
  unfold putF
  rw [if_neg (by simp [ha])]
  exact insF_at f l k hk h1 h2
theorem put_set {l : List Fl} {f : Fl} {k : Nat} (hk : k < l.length) (h : idx (fun g : Fl => decide (tl g.p = tl f.p)) l = k) : putF l (tl f.p) (tl f.d) = l.set k f := by
  unfold idx at h
  cases e : l.findIdx? (fun g : Fl => decide (tl g.p = tl f.p)) with
  | none => rw [e] at h; simp only at h; omega
  | some i =>
    rw [e] at h
    have : i = k := by simp only at h; omega
    subst this
    obtain ⟨hi, h2, h3⟩ := List.findIdx?_eq_some_iff_getElem.1 e
    have ha : l.any (atP (tl f.p)) = true := by
      rw [List.any_eq_true]
      exact ⟨l[i], List.getElem_mem hi, by unfold atP; simpa using h2⟩
    have hf : l.findIdx (atP (tl f.p)) = i := by
      have := List.findIdx?_eq_some_iff_findIdx_eq.1 e
      exact this.2
    unfold putF
    rw [if_pos ha, hf]
    rfl
def WithSays (l : List Fl) (f : Fl) (w : World) (en : Ending) (w' : World) : Prop := ∃ v', en = .returned (.tuple #[v', .int .i64 (withF l (tl f.p) (tl f.d)).2]) ∧ w'.ownsRow w.heap.size 49 2 v' (withF l (tl f.p) (tl f.d)).1.length (fc (withF l (tl f.p) (tl f.d)).1) ∧ Below w.heap.size w w'
theorem with_e1 {l : List Fl} {p d : B} (h : Lg.pathOk p = false) : withF l p d = ([], 13) := by unfold withF; rw [if_pos h]
theorem with_e2 {l : List Fl} {p d : B} (h : Lg.pathOk p = true) (h2 : 2048 < d.length) : withF l p d = ([], 15) := by unfold withF; rw [if_neg (by simp [h]), if_pos h2]
theorem with_e3 {l : List Fl} {p d : B} (h : Lg.pathOk p = true) (h2 : ¬ 2048 < d.length) (h3 : l.any (fun g => clashP p (tl g.p)) = true) : withF l p d = ([], 16) := by unfold withF; rw [if_neg (by simp [h]), if_neg h2, if_pos h3]
theorem with_e4 {l : List Fl} {p d : B} (h : Lg.pathOk p = true) (h2 : ¬ 2048 < d.length) (h3 : l.any (fun g => clashP p (tl g.p)) = false) (h4 : 32 < (putF l p d).length) : withF l p d = ([], 15) := by unfold withF; rw [if_neg (by simp [h]), if_neg h2, if_neg (by simp [h3]), if_pos h4]
theorem with_e5 {l : List Fl} {p d : B} (h : Lg.pathOk p = true) (h2 : ¬ 2048 < d.length) (h3 : l.any (fun g => clashP p (tl g.p)) = false) (h4 : ¬ 32 < (putF l p d).length) : withF l p d = (putF l p d, 0) := by unfold withF; rw [if_neg (by simp [h]), if_neg h2, if_neg (by simp [h3]), if_neg h4]
theorem path_size {s : ByteArray} (h : Lg.pathOk (tl s) = true) : s.size ≤ 48 := by
  unfold Lg.pathOk at h
  simp only [Bool.and_eq_true, decide_eq_true_eq] at h
  have := h.1.2
  rw [Fs.tl_len] at this
  exact this
set_option maxHeartbeats 8000000 in
theorem with_any (A : Option Addr) (l : List Fl) (c : Nat) (f : Fl) (w : World) (hE : Env w) (hr : Fls w A l) (hl : l.length ≤ 900) (hz : ∀ g ∈ l, g.p.size ≤ 1000000000) :
    Calls Tryz.prog 80 #[.slice A l.length c, .agg #[.string f.p, .string f.d]] w (WithSays l f w) := by
  obtain ⟨W1, eW⟩ : ∃ W1, W1 = w.alloc (.cells #[.string f.p, .string f.d] 49) := ⟨_, rfl⟩
  have hb1 : Below w.heap.size w W1 := by rw [eW]; exact (Below.refl _ _).alloc (Nat.le_refl _) _
  have q0 : W1.heap[w.heap.size]? = some (.cells #[.string f.p, .string f.d] 49 (0, 0)) := by rw [eW]; exact heap_alloc_new w _
  have hz1 : W1.heap.size = w.heap.size + 1 := by rw [eW]; simp
  have hw1 := hb1.size
  have D0 : Hid (∀ W, Below W1.heap.size W1 W → W.cell? ⟨w.heap.size, 0, none⟩ = some (.string f.p) ∧ W.cell? ⟨w.heap.size, 1, none⟩ = some (.string f.d)) := Lib.hid fun W hW => ⟨(cell_heap (heap_below hW (lt_heap q0) q0) 0).trans rfl, (cell_heap (heap_below hW (lt_heap q0) q0) 1).trans rfl⟩
  have RD : Hid (∀ W, Below W1.heap.size W1 W → Fls W A l) := Lib.hid fun W hW => by
    have h1 := hb1.trans (hW.mono hb1.size)
    exact (hr.below h1).more h1.size
  have HB := Lib.hid (fun W (hW : Below W1.heap.size W1 W) => hb1.trans (hW.mono hb1.size))
  have PA := Lib.hid (Fs.ppath_all f.p W1 (hE.below hb1))
  have d00 := (D0.out W1 (Below.refl _ _)).1
  have d01 := (D0.out W1 (Below.refl _ _)).2
  have ERR : Hid (∀ k : Int, withF l (tl f.p) (tl f.d) = ([], k) → ∀ W, Below w.heap.size w W → WithSays l f w (.returned (.tuple #[.slice none 0 0, .int .i64 k])) W) := Lib.hid fun k hk W hW => ⟨_, by rw [hk], by rw [hk]; exact World.ownsRow_nil _ _ _ _, hW⟩
  have GOOD : Hid (∀ m, withF l (tl f.p) (tl f.d) = (m, 0) → ∀ v W, W.ownsRow w.heap.size 49 2 v m.length (fc m) → Below w.heap.size w W → WithSays l f w (.returned (.tuple #[v, .int .i64 0])) W) := Lib.hid fun m hm v W h1 h2 => ⟨v, by rw [hm], by rw [hm]; exact h1, h2⟩
  generalize hQ : WithSays l f w = Q at *
  clear hQ
  by_cases hp : Lg.pathOk (tl f.p) = true
  · have hps := path_size hp
    rw [Fs.pathE_yes hp] at PA
    by_cases hd : 2048 < f.d.size
    · have E2 := Lib.hid (ERR.out 15 (with_e2 hp (by rw [Fs.tl_len]; exact hd)))
      have j1 : decide ((2048 : Int) < (f.d.size : Int)) = true := decide_eq_true (by omega)
      have j2 : (2048 : Int) < (f.d.size : Int) := by omega
      clear hp hd hr hE hb1 q0
      go_enter Tryz.func80, Tryz.ntmps80
      go_wp2_with (go_at_call 47; rw [← eW]; clear eW; (with_reducible refine (PA.out).mono ?_); rintro e w2 ⟨rfl, hb2⟩; have d2 := (D0.out _ hb2).1; have d3 := (D0.out _ hb2).2)
      exact E2.out _ (HB.out _ hb2)
    · have hd' : ¬ 2048 < (tl f.d).length := by rw [Fs.tl_len]; exact hd
      have j1 : decide ((2048 : Int) < (f.d.size : Int)) = false := decide_eq_false (by omega)
      have j2 : ¬ (2048 : Int) < (f.d.size : Int) := by omega
      have CF : Hid (∀ W, Below W1.heap.size W1 W → Calls Tryz.prog 48 #[.slice A l.length c, .func (.func 135) #[] #[.pointer (some ⟨w.heap.size, 0, none⟩)]] W fun e w' => e = .returned (.bool (l.any fun g => clashP (tl f.p) (tl g.p))) ∧ Below W.heap.size W w') := Lib.hid fun W hW =>
        Fs.containsF_any _ _ _ _ _ _ _ (Lib.hid (Fs.indexF_any 135 #[.pointer (some ⟨w.heap.size, 0, none⟩)] (enters_of Tryz.func135 (by kernel_rfl) rfl) (fun g => clashP (tl f.p) (tl g.p)) A l c W (RD.out _ hW) (by omega)
          (fun g hg V hV => with1_any g.p g.d f.p w.heap.size V (hz g hg) (by omega) (by have := hV.size; have := hW.size; omega) (D0.out _ (hW.trans (hV.mono hW.size))).1)))
      have hmf : ∀ (fn : Fn) (first cap : Array Value) (w : World), (Instr.makeFunc fn first cap).run Tryz.prog w = .ok (.func fn first cap) w := fun _ _ _ _ => rfl
      cases hx : l.any (fun g => clashP (tl f.p) (tl g.p)) with
      | true =>
        rw [hx] at CF
        have E3 := Lib.hid (ERR.out 16 (with_e3 hp hd' hx))
        clear hx hp hd hd' hr hE hb1 q0
        go_enter Tryz.func80, Tryz.ntmps80
        go_wp2_with (first
          | (go_at_call 47; rw [← eW]; clear eW; (with_reducible refine (PA.out).mono ?_); rintro e w2 ⟨rfl, hb2⟩; have d2 := (D0.out _ hb2).1; have d3 := (D0.out _ hb2).2)
          | (go_at_call 48; (with_reducible refine (CF.out _ hb2).mono ?_); rintro e w3 ⟨rfl, hb3⟩))
        exact E3.out _ (HB.out _ (hb2.trans (hb3.mono hb2.size)))
      | false =>
        rw [hx] at CF
        have E4 := Lib.hid (fun h W hW => ERR.out 15 (with_e4 hp hd' hx h) W hW)
        have E5 := Lib.hid (fun h => GOOD.out _ (with_e5 hp hd' hx h))
        have CL : Hid (∀ W, Below W1.heap.size W1 W → Calls Tryz.prog 136 #[.slice A l.length c] W (FilesOwn l W)) := Lib.hid fun W hW => clone_any A l c W (RD.out _ hW) (by omega)
        have FA : Hid (∀ W, Below W1.heap.size W1 W → Calls Tryz.prog 134 #[.slice A l.length c, .string f.p] W fun e w' => e = .returned (.int .i64 (idx (fun g : Fl => decide (tl g.p = tl f.p)) l)) ∧ Below W.heap.size W w') := Lib.hid fun W hW => Fs.find_any A l c f.p W (RD.out _ hW) (by omega)
        have IX : Hid (∀ W, Below W1.heap.size W1 W → Calls Tryz.prog 88 #[.slice A l.length c, .func (.func 137) #[] #[.pointer (some ⟨w.heap.size, 0, none⟩)]] W fun e w' => e = .returned (.int .i64 (idx (fun g : Fl => decide (tl f.p < tl g.p)) l)) ∧ Below W.heap.size W w') := Lib.hid fun W hW =>
          Fs.indexF_any 137 #[.pointer (some ⟨w.heap.size, 0, none⟩)] (enters_of Tryz.func137 (by kernel_rfl) rfl) (fun g => decide (tl f.p < tl g.p)) A l c W (RD.out _ hW) (by omega)
            (fun g hg V hV => with2_any g.p g.d f.p w.heap.size V (by have := hV.size; have := hW.size; omega) (D0.out _ (hW.trans (hV.mono hW.size))).1)
        clear hp hd hd' hE hb1 q0 hr ERR GOOD
        rcases idx_cases (fun g : Fl => decide (tl g.p = tl f.p)) l with ⟨e1, e2⟩ | ⟨k, hk, e1, e2⟩
        · rw [e1] at FA
          have HI := Lib.hid e1
          clear e1 e2 hx
          have TAIL : Hid (∀ (at_ : Nat), at_ ≤ l.length → (∀ j (hj : j < l.length), j < at_ → ¬ tl f.p < tl l[j].p) → (∀ hk : at_ < l.length, tl f.p < tl l[at_].p) → ∀ v W, W.ownsRow w.heap.size 49 2 v (l.take at_ ++ f :: l.drop at_).length (fc (l.take at_ ++ f :: l.drop at_)) → Below w.heap.size w W → ¬ 32 < l.length + 1 → Q (.returned (.tuple #[v, .int .i64 0])) W) := Lib.hid fun at_ h1 h2 h3 v W h4 h5 h6 => by
            have hp := put_ins HI.out h1 h2 h3
            refine E5.out (by rw [hp, ins_len h1]; exact h6) v W (by rw [hp]; exact h4) h5
          have BIG : Hid (32 < l.length + 1 → ∀ W, Below w.heap.size w W → Q (.returned (.tuple #[.slice none 0 0, .int .i64 15])) W) := Lib.hid fun h W hW => E4.out (by
            have : (putF l (tl f.p) (tl f.d)).length = l.length + 1 := by
              have ha : l.any (atP (tl f.p)) = false := by
                rw [List.any_eq_false]
                intro x hx
                obtain ⟨j, hj, rfl⟩ := List.mem_iff_getElem.1 hx
                have := idx_lt_of HI.out j hj
                unfold atP
                simpa using this
              unfold putF
              rw [if_neg (by simp [ha]), insF_len]
            omega) W hW
          clear E4 E5 HI
          have IDX : ∃ (at_ : Nat) (r : Int), idx (fun g : Fl => decide (tl f.p < tl g.p)) l = r ∧ ((r = -1 ∧ at_ = l.length) ∨ (r = at_ ∧ at_ < l.length)) ∧ (∀ j (hj : j < l.length), j < at_ → ¬ tl f.p < tl l[j].p) ∧ (∀ hk : at_ < l.length, tl f.p < tl l[at_].p) := by
            rcases idx_cases (fun g : Fl => decide (tl f.p < tl g.p)) l with ⟨e1, e2⟩ | ⟨k, hk, e1, e2⟩
            · exact ⟨l.length, -1, e1, .inl ⟨rfl, rfl⟩, fun j hj _ => by simpa using idx_lt_of e1 j hj, fun h => absurd h (by omega)⟩
            · obtain ⟨g1, g2⟩ := idx_hits hk e2 e1
              exact ⟨k, k, e1, .inr ⟨rfl, hk⟩, fun j hj hjk => by simpa using g2 j hj hjk, fun _ => by simpa using g1⟩
          obtain ⟨at_, r, e1, e2, e3, e4⟩ := IDX
          rw [e1] at IX
          have T2 := Lib.hid (fun h => TAIL.out at_ h e3 e4)
          clear e1 e3 e4 TAIL
          have hat : at_ ≤ l.length := by omega
          have IN : Hid (∀ v W, W.ownsRow w.heap.size 49 2 v l.length (fc l) → Below w.heap.size w W → Calls Tryz.prog 138 #[v, .int .i64 at_, .slice (some ⟨W.heap.size, 0, none⟩) 1 1] (W.alloc (.cells #[.string f.p, .string f.d] 49)) (InsSays w.heap.size l f at_ (W.alloc (.cells #[.string f.p, .string f.d] 49)))) := Lib.hid fun v W ho hb =>
            insert_any w.heap.size v l f at_ W.heap.size _ (ho.alloc _) (heap_alloc_new W _) (by simp; have := hb.size; omega) (by omega) hat (fun e => by have := (ho.lt _ e).2; omega)
          have hlen := ins_len (f := f) hat
          by_cases h32 : 32 < l.length + 1
          · have B1 := Lib.hid (BIG.out h32)
            have k1 : (32 : Int) < (l.length : Int) + 1 := by omega
            clear BIG T2
            rcases e2 with ⟨rfl, rfl⟩ | ⟨rfl, hlt⟩
            · go_enter Tryz.func80, Tryz.ntmps80
              go_wp2_with (first
            | (go_at_call 47; rw [← eW]; clear eW; (with_reducible refine (PA.out).mono ?_); rintro e w2 ⟨rfl, hb2⟩; have d2 := (D0.out _ hb2).1; have d3 := (D0.out _ hb2).2)
            | (go_at_call 48; (with_reducible refine (CF.out _ hb2).mono ?_); rintro e w3 ⟨rfl, hb3⟩; have h3 := hb2.trans (hb3.mono hb2.size); clear hb3)
            | (go_at_call 136; (with_reducible refine (CL.out _ h3).mono ?_); rintro e w4 ⟨v4, rfl, ho4, hb4⟩; have h4 := h3.trans (hb4.mono h3.size); have HO4 := Lib.hid (own_low ho4 (Nat.le_trans hw1 h3.size)); clear hb4 ho4; have d4 := (D0.out _ h4).1; have d5 := (D0.out _ h4).2)
            | (go_at_call 134; (with_reducible refine (FA.out _ h4).mono ?_); rintro e w5 ⟨rfl, hb5⟩; have h5 := h4.trans (hb5.mono h4.size); have HO5 := Lib.hid (own_on HO4.out hb5); clear hb5; have d6 := (D0.out _ h5).1; have d7 := (D0.out _ h5).2)
            | (go_at_call 88; (with_reducible refine (IX.out _ h5).mono ?_); rintro e w6 ⟨rfl, hb6⟩; have h6 := h5.trans (hb6.mono h5.size); have HO6 := Lib.hid (own_on HO5.out hb6); clear hb6; have d8 := (D0.out _ h6).1; have d9 := (D0.out _ h6).2; have INS := Lib.hid (IN.out v4 w6 HO6.out (HB.out _ h6)))
            | (go_at_call 138; (with_reducible refine (INS.out).mono ?_); rintro e w7 ⟨v7, rfl, ho7, hb7⟩; have h7 := Lib.hid (((HB.out _ h6).alloc (HB.out _ h6).size _).trans hb7); obtain ⟨g7, c7, rfl⟩ := own_pos ho7 hlen (by omega); have HO7 := Lib.hid ho7; clear ho7 hb7))
              exact B1.out _ h7.out
            · have hI : ¬ (at_ : Int) < 0 := by omega
              go_enter Tryz.func80, Tryz.ntmps80
              go_wp2_with (first
            | (go_at_call 47; rw [← eW]; clear eW; (with_reducible refine (PA.out).mono ?_); rintro e w2 ⟨rfl, hb2⟩; have d2 := (D0.out _ hb2).1; have d3 := (D0.out _ hb2).2)
            | (go_at_call 48; (with_reducible refine (CF.out _ hb2).mono ?_); rintro e w3 ⟨rfl, hb3⟩; have h3 := hb2.trans (hb3.mono hb2.size); clear hb3)
            | (go_at_call 136; (with_reducible refine (CL.out _ h3).mono ?_); rintro e w4 ⟨v4, rfl, ho4, hb4⟩; have h4 := h3.trans (hb4.mono h3.size); have HO4 := Lib.hid (own_low ho4 (Nat.le_trans hw1 h3.size)); clear hb4 ho4; have d4 := (D0.out _ h4).1; have d5 := (D0.out _ h4).2)
            | (go_at_call 134; (with_reducible refine (FA.out _ h4).mono ?_); rintro e w5 ⟨rfl, hb5⟩; have h5 := h4.trans (hb5.mono h4.size); have HO5 := Lib.hid (own_on HO4.out hb5); clear hb5; have d6 := (D0.out _ h5).1; have d7 := (D0.out _ h5).2)
            | (go_at_call 88; (with_reducible refine (IX.out _ h5).mono ?_); rintro e w6 ⟨rfl, hb6⟩; have h6 := h5.trans (hb6.mono h5.size); have HO6 := Lib.hid (own_on HO5.out hb6); clear hb6; have d8 := (D0.out _ h6).1; have d9 := (D0.out _ h6).2; have INS := Lib.hid (IN.out v4 w6 HO6.out (HB.out _ h6)))
            | (go_at_call 138; (with_reducible refine (INS.out).mono ?_); rintro e w7 ⟨v7, rfl, ho7, hb7⟩; have h7 := Lib.hid (((HB.out _ h6).alloc (HB.out _ h6).size _).trans hb7); obtain ⟨g7, c7, rfl⟩ := own_pos ho7 hlen (by omega); have HO7 := Lib.hid ho7; clear ho7 hb7))
              exact B1.out _ h7.out
          · have k1 : ¬ (32 : Int) < (l.length : Int) + 1 := by omega
            have B1 := Lib.hid (fun v W h4 h5 => T2.out hat v W h4 h5 h32)
            clear BIG T2
            rcases e2 with ⟨rfl, rfl⟩ | ⟨rfl, hlt⟩
            · go_enter Tryz.func80, Tryz.ntmps80
              go_wp2_with (first
            | (go_at_call 47; rw [← eW]; clear eW; (with_reducible refine (PA.out).mono ?_); rintro e w2 ⟨rfl, hb2⟩; have d2 := (D0.out _ hb2).1; have d3 := (D0.out _ hb2).2)
            | (go_at_call 48; (with_reducible refine (CF.out _ hb2).mono ?_); rintro e w3 ⟨rfl, hb3⟩; have h3 := hb2.trans (hb3.mono hb2.size); clear hb3)
            | (go_at_call 136; (with_reducible refine (CL.out _ h3).mono ?_); rintro e w4 ⟨v4, rfl, ho4, hb4⟩; have h4 := h3.trans (hb4.mono h3.size); have HO4 := Lib.hid (own_low ho4 (Nat.le_trans hw1 h3.size)); clear hb4 ho4; have d4 := (D0.out _ h4).1; have d5 := (D0.out _ h4).2)
            | (go_at_call 134; (with_reducible refine (FA.out _ h4).mono ?_); rintro e w5 ⟨rfl, hb5⟩; have h5 := h4.trans (hb5.mono h4.size); have HO5 := Lib.hid (own_on HO4.out hb5); clear hb5; have d6 := (D0.out _ h5).1; have d7 := (D0.out _ h5).2)
            | (go_at_call 88; (with_reducible refine (IX.out _ h5).mono ?_); rintro e w6 ⟨rfl, hb6⟩; have h6 := h5.trans (hb6.mono h5.size); have HO6 := Lib.hid (own_on HO5.out hb6); clear hb6; have d8 := (D0.out _ h6).1; have d9 := (D0.out _ h6).2; have INS := Lib.hid (IN.out v4 w6 HO6.out (HB.out _ h6)))
            | (go_at_call 138; (with_reducible refine (INS.out).mono ?_); rintro e w7 ⟨v7, rfl, ho7, hb7⟩; have h7 := Lib.hid (((HB.out _ h6).alloc (HB.out _ h6).size _).trans hb7); obtain ⟨g7, c7, rfl⟩ := own_pos ho7 hlen (by omega); have HO7 := Lib.hid ho7; clear ho7 hb7))
              exact B1.out _ _ HO7.out h7.out
            · have hI : ¬ (at_ : Int) < 0 := by omega
              go_enter Tryz.func80, Tryz.ntmps80
              go_wp2_with (first
            | (go_at_call 47; rw [← eW]; clear eW; (with_reducible refine (PA.out).mono ?_); rintro e w2 ⟨rfl, hb2⟩; have d2 := (D0.out _ hb2).1; have d3 := (D0.out _ hb2).2)
            | (go_at_call 48; (with_reducible refine (CF.out _ hb2).mono ?_); rintro e w3 ⟨rfl, hb3⟩; have h3 := hb2.trans (hb3.mono hb2.size); clear hb3)
            | (go_at_call 136; (with_reducible refine (CL.out _ h3).mono ?_); rintro e w4 ⟨v4, rfl, ho4, hb4⟩; have h4 := h3.trans (hb4.mono h3.size); have HO4 := Lib.hid (own_low ho4 (Nat.le_trans hw1 h3.size)); clear hb4 ho4; have d4 := (D0.out _ h4).1; have d5 := (D0.out _ h4).2)
            | (go_at_call 134; (with_reducible refine (FA.out _ h4).mono ?_); rintro e w5 ⟨rfl, hb5⟩; have h5 := h4.trans (hb5.mono h4.size); have HO5 := Lib.hid (own_on HO4.out hb5); clear hb5; have d6 := (D0.out _ h5).1; have d7 := (D0.out _ h5).2)
            | (go_at_call 88; (with_reducible refine (IX.out _ h5).mono ?_); rintro e w6 ⟨rfl, hb6⟩; have h6 := h5.trans (hb6.mono h5.size); have HO6 := Lib.hid (own_on HO5.out hb6); clear hb6; have d8 := (D0.out _ h6).1; have d9 := (D0.out _ h6).2; have INS := Lib.hid (IN.out v4 w6 HO6.out (HB.out _ h6)))
            | (go_at_call 138; (with_reducible refine (INS.out).mono ?_); rintro e w7 ⟨v7, rfl, ho7, hb7⟩; have h7 := Lib.hid (((HB.out _ h6).alloc (HB.out _ h6).size _).trans hb7); obtain ⟨g7, c7, rfl⟩ := own_pos ho7 hlen (by omega); have HO7 := Lib.hid ho7; clear ho7 hb7))
              exact B1.out _ _ HO7.out h7.out
        · rw [e1] at FA
          have hput := put_set hk e1
          have hk0 : (0 : Int) ≤ (k : Int) := by omega
          have hk1 : (k : Int) < (l.length : Int) := by omega
          have PL : Hid ((putF l (tl f.p) (tl f.d)).length = l.length) := Lib.hid (by rw [hput]; simp)
          have HP := Lib.hid hput
          clear e1 e2 hx hput IX
          have PUT : Hid (∀ v W, W.ownsRow w.heap.size 49 2 v l.length (fc l) → Below w.heap.size w W → ∃ g cap, v = .slice (some ⟨g, 0, none⟩) l.length cap ∧ (∃ u, W.cell? ⟨g, k * 2, none⟩ = some u) ∧ (∃ u, W.cell? ⟨g, k * 2 + 1, none⟩ = some u) ∧ W.frozen? ⟨g, k * 2, none⟩ = false ∧ W.frozen? ⟨g, k * 2 + 1, none⟩ = false ∧
              ((W.setCell ⟨g, k * 2, none⟩ (.string f.p)).setCell ⟨g, k * 2 + 1, none⟩ (.string f.d)).ownsRow w.heap.size 49 2 v (putF l (tl f.p) (tl f.d)).length (fc (putF l (tl f.p) (tl f.d))) ∧ Below w.heap.size w ((W.setCell ⟨g, k * 2, none⟩ (.string f.p)).setCell ⟨g, k * 2 + 1, none⟩ (.string f.d))) := Lib.hid fun v W ho hb => by
            obtain ⟨_, ⟨_, rfl⟩ | ⟨g, cap, cur, rfl, hBg, hh, hc, hc2, h3, h4⟩⟩ := own_open ho
            · simp at hk
            · refine ⟨g, cap, rfl, ⟨_, (cell_heap hh _).trans (Array.getElem?_eq_getElem (by omega))⟩, ⟨_, (cell_heap hh _).trans (Array.getElem?_eq_getElem (by omega))⟩, frozen_heap hh _, frozen_heap hh _, ?_, (hb.setCell (p := ⟨g, k * 2, none⟩) hBg _).setCell (p := ⟨g, k * 2 + 1, none⟩) hBg _⟩
              have hlen : (l.set k f).length = l.length := by simp
              have := own_shut (l := l.set k f) (w := (W.setCell ⟨g, k * 2, none⟩ (.string f.p)).setCell ⟨g, k * 2 + 1, none⟩ (.string f.d)) (cap := cap) hBg (heap_set (heap_set hh)) (by rw [hlen]; exact hc) hc2 (by simp [h3]) (fc_set f h4 hk (by omega))
              rw [HP.out]
              rw [hlen] at this ⊢
              exact this
          by_cases h32 : 32 < l.length
          · have B1 := Lib.hid (fun W hW => E4.out (by rw [PL.out]; exact h32) W hW)
            have k1 : (32 : Int) < (l.length : Int) := by omega
            clear E4 E5
            go_enter Tryz.func80, Tryz.ntmps80
            go_wp2_with (first
              | (go_at_call 47; rw [← eW]; clear eW; (with_reducible refine (PA.out).mono ?_); rintro e w2 ⟨rfl, hb2⟩; have d2 := (D0.out _ hb2).1; have d3 := (D0.out _ hb2).2)
              | (go_at_call 48; (with_reducible refine (CF.out _ hb2).mono ?_); rintro e w3 ⟨rfl, hb3⟩; have h3 := hb2.trans (hb3.mono hb2.size); clear hb3)
              | (go_at_call 136; (with_reducible refine (CL.out _ h3).mono ?_); rintro e w4 ⟨v4, rfl, ho4, hb4⟩; have h4 := h3.trans (hb4.mono h3.size); have HO4 := Lib.hid (own_low ho4 (Nat.le_trans hw1 h3.size)); clear hb4 ho4; have d4 := (D0.out _ h4).1; have d5 := (D0.out _ h4).2)
              | (go_at_call 134; (with_reducible refine (FA.out _ h4).mono ?_); rintro e w5 ⟨rfl, hb5⟩; have h5 := h4.trans (hb5.mono h4.size); have HO5 := Lib.hid (own_on HO4.out hb5); clear hb5; have d6 := (D0.out _ h5).1; have d7 := (D0.out _ h5).2; obtain ⟨g6, c6, rfl, ⟨u0, x0⟩, ⟨u1, x1⟩, x2, x3, ho6, hb6⟩ := PUT.out v4 w5 HO5.out (HB.out _ h5); have H6 := Lib.hid ho6; have h6 := Lib.hid hb6; clear ho6 hb6))
            exact B1.out _ h6.out
          · have B1 := Lib.hid (E5.out (by rw [PL.out]; exact h32))
            have k1 : ¬ (32 : Int) < (l.length : Int) := by omega
            clear E4 E5
            go_enter Tryz.func80, Tryz.ntmps80
            go_wp2_with (first
              | (go_at_call 47; rw [← eW]; clear eW; (with_reducible refine (PA.out).mono ?_); rintro e w2 ⟨rfl, hb2⟩; have d2 := (D0.out _ hb2).1; have d3 := (D0.out _ hb2).2)
              | (go_at_call 48; (with_reducible refine (CF.out _ hb2).mono ?_); rintro e w3 ⟨rfl, hb3⟩; have h3 := hb2.trans (hb3.mono hb2.size); clear hb3)
              | (go_at_call 136; (with_reducible refine (CL.out _ h3).mono ?_); rintro e w4 ⟨v4, rfl, ho4, hb4⟩; have h4 := h3.trans (hb4.mono h3.size); have HO4 := Lib.hid (own_low ho4 (Nat.le_trans hw1 h3.size)); clear hb4 ho4; have d4 := (D0.out _ h4).1; have d5 := (D0.out _ h4).2)
              | (go_at_call 134; (with_reducible refine (FA.out _ h4).mono ?_); rintro e w5 ⟨rfl, hb5⟩; have h5 := h4.trans (hb5.mono h4.size); have HO5 := Lib.hid (own_on HO4.out hb5); clear hb5; have d6 := (D0.out _ h5).1; have d7 := (D0.out _ h5).2; obtain ⟨g6, c6, rfl, ⟨u0, x0⟩, ⟨u1, x1⟩, x2, x3, ho6, hb6⟩ := PUT.out v4 w5 HO5.out (HB.out _ h5); have H6 := Lib.hid ho6; have h6 := Lib.hid hb6; clear ho6 hb6))
            exact B1.out _ _ H6.out h6.out
  · have hp' : Lg.pathOk (tl f.p) = false := by simpa using hp
    rw [Fs.pathE_not hp'] at PA
    have E1 := Lib.hid (ERR.out 13 (with_e1 hp'))
    clear hp hp' hr hE hb1 q0
    go_enter Tryz.func80, Tryz.ntmps80
    go_wp2_with (go_at_call 47; rw [← eW]; clear eW; (with_reducible refine (PA.out).mono ?_); rintro e w2 ⟨rfl, hb2⟩)
    exact E1.out _ (HB.out _ hb2)
end Go.Proofs.YtdidnlkilleljaaGreatDoor.Bx
/- BxState, what a claim needs of it (prune.py). -/
namespace Go.Proofs.YtdidnlkilleljaaGreatDoor.Bx
open Go.RowKit
open Lg (BelowX Lies)
open Fs (fc fc_len fc_cell Fls Env B)
set_option linter.unusedVariables false
set_option maxRecDepth 100000
def stc (A : Option Addr) (c : Nat) (N : Option Addr) (nn nc fu : Nat) (s : St) : Array Value :=
  #[.slice A s.files.length c, .slice N nn nc, .int .i64 fu, .int .i64 s.kind, .slice none 0 0, .string (bs s.need), .int .i64 s.err, .string (bs s.text), .int .i64 s.used]
structure StAt (w : World) (b fu : Nat) (N : Option Addr) (nn nc : Nat) (A : Option Addr) (c : Nat) (s : St) : Prop where
  blk : w.heap[b]? = some (.cells (stc A c N nn nc fu s) 65 (0, 0))
  fls : Lies w (fun k => k ≠ b) 2 A s.files.length (fc s.files)
  cap : s.files.length ≤ c
def StM (w : World) (b fu : Nat) (N : Option Addr) (nn nc : Nat) (s : St) : Prop := ∃ A c, StAt w b fu N nn nc A c s
theorem StAt.flsr {w : World} {b fu : Nat} {N A : Option Addr} {nn nc c : Nat} {s : St} (h : StAt w b fu N nn nc A c s) : Fls w A s.files := h.fls.reads (by decide)
theorem StAt.keep {w w' : World} {b fu : Nat} {N A : Option Addr} {nn nc c : Nat} {s : St} (h : StAt w b fu N nn nc A c s) (hb : Below w.heap.size w w') : StAt w' b fu N nn nc A c s :=
  ⟨heap_below hb (lt_heap h.blk) h.blk, h.fls.mono (by decide) fun k hk hs => ⟨hk, hb.block k hs⟩, h.cap⟩
theorem StAt.set {w w' : World} {b fu : Nat} {N A : Option Addr} {nn nc c : Nat} {s s' : St} (h : StAt w b fu N nn nc A c s) (hf : s'.files = s.files) (hb : w'.heap[b]? = some (.cells (stc A c N nn nc fu s') 65 (0, 0))) (hk : ∀ k, k ≠ b → w'.heap[k]? = w.heap[k]?) : StAt w' b fu N nn nc A c s' :=
  ⟨hb, by rw [hf]; exact h.fls.mono (by decide) fun k hk' _ => ⟨hk', hk k hk'⟩, by rw [hf]; exact h.cap⟩
theorem set3 {b : Nat} {i j k : Nat} {u v x : Value} (w : World) : BelowX w.heap.size b w (((w.setCell ⟨b, i, none⟩ u).setCell ⟨b, j, none⟩ v).setCell ⟨b, k, none⟩ x) :=
  (((BelowX.refl _ b _).setX (p := ⟨b, i, none⟩) rfl _).setX (p := ⟨b, j, none⟩) rfl _).setX (p := ⟨b, k, none⟩) rfl _
theorem set3_ne {b g : Nat} {i j k : Nat} {u v x : Value} (w : World) (h : g ≠ b) : (((w.setCell ⟨b, i, none⟩ u).setCell ⟨b, j, none⟩ v).setCell ⟨b, k, none⟩ x).heap[g]? = w.heap[g]? := by
  rw [heap_set_ne h.symm, heap_set_ne h.symm, heap_set_ne h.symm]
theorem over_any {w : World} {b fu : Nat} {N A : Option Addr} {nn nc c : Nat} {s : St} (h : StAt w b fu N nn nc A c s) :
    Calls Tryz.prog 30 #[.pointer (some ⟨b, 0, none⟩)] w fun e w' => e = .returned (.bool (over s)) ∧ w = w' := by
  have c3 : w.cell? ⟨b, 3, none⟩ = some (.int .i64 s.kind) := (cell_heap h.blk 3).trans rfl
  have hlt := lt_heap h.blk
  clear h
  by_cases hk : s.kind = 0
  · have F : Hid (over s = false) := Lib.hid (by unfold over; simp [hk])
    have n1 : ((s.kind : Int) != 0) = false := by simp [hk]
    have n2 : (s.kind : Int) = 0 := by omega
    clear hk
    generalize (s.kind : Int) = q at *
    go_enter Tryz.func30, Tryz.ntmps30
    go_wp2_with (fail)
    go_ret
    exact ⟨Lg.ret_bool F.out, rfl⟩
  · have F : Hid (over s = true) := Lib.hid (by unfold over; simp [hk])
    have n1 : ((s.kind : Int) != 0) = true := by simpa using hk
    have n2 : ¬ (s.kind : Int) = 0 := by omega
    clear hk
    generalize (s.kind : Int) = q at *
    go_enter Tryz.func30, Tryz.ntmps30
    go_wp2_with (fail)
    go_ret
    exact ⟨Lg.ret_bool F.out, rfl⟩
def Went (b fu : Nat) (N : Option Addr) (nn nc : Nat) (w : World) (s' : St) (e : Ending) (w' : World) : Prop := e = .returned (.tuple #[]) ∧ StM w' b fu N nn nc s' ∧ BelowX w.heap.size b w w'
theorem fail_any {w : World} {b fu : Nat} {N A : Option Addr} {nn nc c : Nat} {s : St} (h : StAt w b fu N nn nc A c s) (e : Int) (t : B) :
    Calls Tryz.prog 170 #[.pointer (some ⟨b, 0, none⟩), .int .i64 e, .string (bs t)] w (Went b fu N nn nc w (fail e t s)) := by
  have c3 : w.cell? ⟨b, 3, none⟩ = some (.int .i64 s.kind) := (cell_heap h.blk 3).trans rfl
  have c6 : w.cell? ⟨b, 6, none⟩ = some (.int .i64 s.err) := (cell_heap h.blk 6).trans rfl
  have c7 : w.cell? ⟨b, 7, none⟩ = some (.string (bs s.text)) := (cell_heap h.blk 7).trans rfl
  have f3 := frozen_heap h.blk 3
  have f6 := frozen_heap h.blk 6
  have f7 := frozen_heap h.blk 7
  have hlt := lt_heap h.blk
  have EN : Hid (Went b fu N nn nc w (fail e t s) (.returned (.tuple #[])) (((w.setCell ⟨b, 3, none⟩ (.int .i64 3)).setCell ⟨b, 6, none⟩ (.int .i64 e)).setCell ⟨b, 7, none⟩ (.string (bs t)))) := Lib.hid
    ⟨rfl, ⟨A, c, h.set rfl ((heap_set (heap_set (heap_set h.blk))).trans rfl) (fun k hk => set3_ne w hk)⟩, set3 w⟩
  clear h
  generalize Went b fu N nn nc w (fail e t s) = Q at *
  go_enter Tryz.func170, Tryz.ntmps170
  go_wp2_with (fail)
  go_end0
  exact EN.out
def Spent (b fu : Nat) (N : Option Addr) (nn nc : Nat) (w : World) (s' : St) (ok : Bool) (e : Ending) (w' : World) : Prop := e = .returned (.bool ok) ∧ StM w' b fu N nn nc s' ∧ BelowX w.heap.size b w w'
theorem StAt.drewN {w : World} {b fu : Nat} {N A : Option Addr} {nn nc c : Nat} {s : St} (h : StAt w b fu N nn nc A c s) (n : Nat) : StAt (w.drewN n) b fu N nn nc A c s := ⟨h.blk, h.fls, h.cap⟩
theorem spend_yes {w : World} {b fu : Nat} {N A : Option Addr} {nn nc c : Nat} {s : St} (h : StAt w b fu N nn nc A c s) (n : Nat) (hn : ¬ fu < s.used + n) (hfu : fu ≤ 2000) :
    Calls Tryz.prog 120 #[.pointer (some ⟨b, 0, none⟩), .int .i64 n] w (Spent b fu N nn nc w { s with used := s.used + n } true) := by
  have c2 : w.cell? ⟨b, 2, none⟩ = some (.int .i64 fu) := (cell_heap h.blk 2).trans rfl
  have c8 : w.cell? ⟨b, 8, none⟩ = some (.int .i64 s.used) := (cell_heap h.blk 8).trans rfl
  have f8 := frozen_heap h.blk 8
  have hlt := lt_heap h.blk
  have EN : Hid (∀ k, Spent b fu N nn nc w { s with used := s.used + n } true (.returned (.bool true)) ((w.drewN k).setCell ⟨b, 8, none⟩ (.int .i64 ((s.used + n : Nat) : Int)))) := Lib.hid fun k =>
    ⟨rfl, ⟨A, c, (h.drewN k).set (s' := { s with used := s.used + n }) rfl ((heap_set (w := w.drewN k) h.blk).trans rfl) (fun g hg => heap_set_ne hg.symm)⟩, ((BelowX.refl _ b _).drewN k).setX (p := ⟨b, 8, none⟩) rfl _⟩
  clear h
  generalize Spent b fu N nn nc w { s with used := s.used + n } true = Q at *
  generalize s.used = u at *
  have i1 : IntKind.i64.wrap ((fu : Int) - (u : Int)) = (fu : Int) - (u : Int) := IntWalk.i64_in _ (by omega)
  have i2 : ¬ (fu : Int) - (u : Int) < (n : Int) := by omega
  have i3 : decide ((fu : Int) - (u : Int) < (n : Int)) = false := decide_eq_false i2
  have i4 : ((u + n : Nat) : Int) = (u : Int) + (n : Int) := by omega
  rw [i4] at EN
  clear i4
  have b1 : u ≤ 2000 := by omega
  have b2 : n ≤ 2000 := by omega
  go_enter Tryz.func120, Tryz.ntmps120
  go_wp2_with (fail)
  go_quiet (fail)
  go_wp2_with (fail)
  exact EN.out _
theorem spend_no {w : World} {b fu : Nat} {N A : Option Addr} {nn nc c : Nat} {s : St} (h : StAt w b fu N nn nc A c s) (n : Nat) (hn : fu < s.used + n) (hu : s.used ≤ fu) (hfu : fu ≤ 2000) (hn2 : n ≤ 100000) :
    Calls Tryz.prog 120 #[.pointer (some ⟨b, 0, none⟩), .int .i64 n] w (Spent b fu N nn nc w (dry fu s) false) := by
  have c2 : w.cell? ⟨b, 2, none⟩ = some (.int .i64 fu) := (cell_heap h.blk 2).trans rfl
  have c8 : w.cell? ⟨b, 8, none⟩ = some (.int .i64 s.used) := (cell_heap h.blk 8).trans rfl
  have f8 := frozen_heap h.blk 8
  have hlt := lt_heap h.blk
  have FA : Hid (∀ k, Calls Tryz.prog 170 #[.pointer (some ⟨b, 0, none⟩), .int .i64 34, .string ⟨#[]⟩] ((w.drewN k).setCell ⟨b, 8, none⟩ (.int .i64 fu)) (Went b fu N nn nc ((w.drewN k).setCell ⟨b, 8, none⟩ (.int .i64 fu)) (fail 34 [] { s with used := fu }))) := Lib.hid fun k =>
    fail_any (s := { s with used := fu }) ((h.drewN k).set (w' := (w.drewN k).setCell ⟨b, 8, none⟩ (.int .i64 fu)) (s' := { s with used := fu }) rfl ((heap_set (w := w.drewN k) h.blk).trans rfl) (fun g hg => heap_set_ne hg.symm)) 34 []
  have EN : Hid (∀ k w', StM w' b fu N nn nc (fail 34 [] { s with used := fu }) → BelowX ((w.drewN k).setCell ⟨b, 8, none⟩ (.int .i64 fu)).heap.size b ((w.drewN k).setCell ⟨b, 8, none⟩ (.int .i64 fu)) w' → Spent b fu N nn nc w (dry fu s) false (.returned (.bool false)) w') := Lib.hid fun k w' h1 h2 =>
    ⟨rfl, h1, (((BelowX.refl _ b _).drewN k).setX (p := ⟨b, 8, none⟩) rfl _).trans (h2.mono (by simp [World.setCell]))⟩
  clear h
  generalize Spent b fu N nn nc w (dry fu s) false = Q at *
  generalize fail 34 [] { s with used := fu } = s2 at *
  generalize s.used = u at *
  have i1 : IntKind.i64.wrap ((fu : Int) - (u : Int)) = (fu : Int) - (u : Int) := IntWalk.i64_in _ (by omega)
  have i2 : (fu : Int) - (u : Int) < (n : Int) := by omega
  have i3 : decide ((fu : Int) - (u : Int) < (n : Int)) = true := decide_eq_true i2
  go_enter Tryz.func120, Tryz.ntmps120
  go_wp2_with (fail)
  go_quiet (fail)
  go_wp2_with (go_at_call 170; (with_reducible refine (FA.out _).mono ?_); rintro e w2 ⟨rfl, h1, h2⟩)
  exact EN.out _ _ h1 h2
end Go.Proofs.YtdidnlkilleljaaGreatDoor.Bx
