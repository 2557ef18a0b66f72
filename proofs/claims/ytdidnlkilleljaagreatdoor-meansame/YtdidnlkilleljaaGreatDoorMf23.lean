/- Joined by mkmerged.py: BxWith, BxWithW. -/
import Derived.Test.YtdidnlkilleljaaGreatDoorMf22
import Derived.Test.YtdidnlkilleljaaGreatDoorMf19
/- BxWith, what a claim needs of it (prune.py). -/
namespace Go.Proofs.YtdidnlkilleljaaGreatDoor.Bx
open Fs (B belowB)
set_option linter.unusedVariables false
def clashP (a b : B) : Bool := (belowB a b).isSome || (belowB b a).isSome
def atP (p : B) (g : Fl) : Bool := decide (tl g.p = p)
def insF (f : Fl) : List Fl → List Fl
  | [] => [f]
  | g :: l => if tl f.p < tl g.p then f :: g :: l else g :: insF f l
def putF (l : List Fl) (p d : B) : List Fl := if l.any (atP p) = true then l.set (l.findIdx (atP p)) ⟨bs p, bs d⟩ else insF ⟨bs p, bs d⟩ l
def withF (l : List Fl) (p d : B) : List Fl × Int :=
  if Lg.pathOk p = false then ([], 13) else if 2048 < d.length then ([], 15)
  else if l.any (fun g => clashP p (tl g.p)) = true then ([], 16)
  else if 32 < (putF l p d).length then ([], 15) else (putF l p d, 0)
def withoutF (l : List Fl) (p : B) : List Fl := l.filter fun f => !((belowB (tl f.p) p).isSome || decide (tl f.p = p))
theorem without_right {l : List Fl} (h : RightF l) (p : B) : RightF (withoutF l p) := by
  unfold withoutF
  exact ⟨fun f hf => h.each f (List.mem_filter.1 hf).1, Nat.le_trans (List.length_filter_le _ _) h.len, h.up.filter _, fun a ha b hb => h.apart a (List.mem_filter.1 ha).1 b (List.mem_filter.1 hb).1⟩
theorem mem_insF {f x : Fl} : ∀ {l : List Fl}, x ∈ insF f l ↔ x = f ∨ x ∈ l
  | [] => by simp [insF]
  | g :: l => by
    unfold insF
    split
    · simp
    · rw [List.mem_cons, mem_insF, List.mem_cons]
      constructor
      · rintro (h | h | h)
        · exact .inr (.inl h)
        · exact .inl h
        · exact .inr (.inr h)
      · rintro (h | h | h)
        · exact .inr (.inl h)
        · exact .inl h
        · exact .inr (.inr h)
theorem insF_up {f : Fl} : ∀ {l : List Fl}, (l.Pairwise fun a b => tl a.p < tl b.p) → (∀ g ∈ l, tl g.p ≠ tl f.p) → (insF f l).Pairwise fun a b => tl a.p < tl b.p
  | [], _, _ => by simp [insF]
  | g :: l, h, hn => by
    obtain ⟨h1, h2⟩ := List.pairwise_cons.1 h
    unfold insF
    by_cases hl : tl f.p < tl g.p
    · rw [if_pos hl]
      refine List.pairwise_cons.2 ⟨fun x hx => ?_, h⟩
      rcases List.mem_cons.1 hx with rfl | hx
      · exact hl
      · exact List.lt_trans hl (h1 x hx)
    · rw [if_neg hl]
      refine List.pairwise_cons.2 ⟨fun x hx => ?_, insF_up h2 fun x hx => hn x (List.mem_cons_of_mem _ hx)⟩
      rcases mem_insF.1 hx with rfl | hx
      · rcases Fs.lt_or (a := tl g.p) (b := tl x.p) with k | k | k
        · exact k
        · exact absurd k (hn g (List.mem_cons_self ..))
        · exact absurd k hl
      · exact h1 x hx
theorem insF_len (f : Fl) : ∀ l : List Fl, (insF f l).length = l.length + 1
  | [] => rfl
  | g :: l => by
    unfold insF
    split
    · rfl
    · rw [List.length_cons, insF_len f l, List.length_cons]
theorem below_self (p : B) : (belowB p p).isSome = false := by
  cases e : (belowB p p).isSome with
  | false => rfl
  | true =>
    obtain ⟨r, _, h⟩ := below_some.1 e
    have := congrArg List.length h
    simp at this
theorem put_mem {l : List Fl} {p d : B} {x : Fl} (hx : x ∈ putF l p d) : x = ⟨bs p, bs d⟩ ∨ x ∈ l := by
  unfold putF at hx
  split at hx
  · rcases List.mem_or_eq_of_mem_set hx with h | h
    · exact .inr h
    · exact .inl h
  · exact mem_insF.1 hx
theorem put_up {l : List Fl} (h : l.Pairwise fun a b => tl a.p < tl b.p) (p d : B) : (putF l p d).Pairwise fun a b => tl a.p < tl b.p := by
  unfold putF
  by_cases ha : l.any (atP p) = true
  · rw [if_pos ha]
    have hi : l.findIdx (atP p) < l.length := List.findIdx_lt_length_of_exists (by simpa using ha)
    have hp : tl l[l.findIdx (atP p)].p = p := by
      have := List.findIdx_getElem (w := hi) (p := atP p) (xs := l)
      unfold atP at this ⊢
      simpa using this
    have key : ∀ j (hj : j < l.length), tl ((l.set (l.findIdx (atP p)) ⟨bs p, bs d⟩)[j]'(by simpa using hj)).p = tl l[j].p := fun j hj => by
      rw [List.getElem_set]
      by_cases e : l.findIdx (atP p) = j
      · rw [if_pos e]
        subst e
        exact hp.symm
      · rw [if_neg e]
    rw [List.pairwise_iff_getElem] at h ⊢
    intro i j hi' hj' hij
    have hi2 : i < l.length := by simpa using hi'
    have hj2 : j < l.length := by simpa using hj'
    rw [key i hi2, key j hj2]
    exact h i j hi2 hj2 hij
  · rw [if_neg ha]
    refine insF_up h fun g hg e => ha (List.any_eq_true.2 ⟨g, hg, ?_⟩)
    unfold atP
    exact decide_eq_true e
theorem with_right {l : List Fl} (h : RightF l) {p d : B} (h0 : (withF l p d).2 = 0) : RightF (withF l p d).1 := by
  unfold withF at h0 ⊢
  by_cases h1 : Lg.pathOk p = false
  · rw [if_pos h1] at h0; exact absurd h0 (by decide)
  rw [if_neg h1] at h0 ⊢
  by_cases h2 : 2048 < d.length
  · rw [if_pos h2] at h0; exact absurd h0 (by decide)
  rw [if_neg h2] at h0 ⊢
  by_cases h3 : l.any (fun g => clashP p (tl g.p)) = true
  · rw [if_pos h3] at h0; exact absurd h0 (by decide)
  rw [if_neg h3] at h0 ⊢
  by_cases h4 : 32 < (putF l p d).length
  · rw [if_pos h4] at h0; exact absurd h0 (by decide)
  rw [if_neg h4] at h0 ⊢
  have hc : ∀ g ∈ l, (belowB p (tl g.p)).isSome = false ∧ (belowB (tl g.p) p).isSome = false := fun g hg => by
    have := List.any_eq_false.1 (by simpa using h3 : l.any (fun g => clashP p (tl g.p)) = false) g hg
    unfold clashP at this
    simpa using this
  refine ⟨fun f hf => ?_, by show (putF l p d).length ≤ 32; omega, put_up h.up p d, fun a ha b hb => ?_⟩
  · rcases put_mem hf with rfl | hf
    · refine ⟨by show Lg.pathOk p = true; simpa using h1, ?_⟩
      show (bs d).size ≤ 2048
      rw [Fs.bs_len]; omega
    · exact h.each f hf
  · rcases put_mem ha with rfl | ha <;> rcases put_mem hb with rfl | hb
    · exact below_self p
    · exact (hc b hb).1
    · exact (hc a ha).2
    · exact h.apart a ha b hb
end Go.Proofs.YtdidnlkilleljaaGreatDoor.Bx
/- BxWithW, what a claim needs of it (prune.py). -/
namespace Go.Proofs.YtdidnlkilleljaaGreatDoor.Bx
open Go.RowKit
open Fs (fc fc_len fc_at fc_cell fc_append fc_one Fls FilesOwn infoF B idx idx_cases NoneTo Env belowB)
set_option linter.unusedVariables false
set_option maxRecDepth 100000
theorem with1_any (a d s : ByteArray) (Bk : Nat) (W : World) (ha : a.size ≤ 1000000000) (hs : s.size ≤ 1000000000) (hB : Bk < W.heap.size) (hc : W.cell? ⟨Bk, 0, none⟩ = some (.string s)) :
    Calls Tryz.prog 135 #[.agg #[.string a, .string d], .pointer (some ⟨Bk, 0, none⟩)] W fun e w' => e = .returned (.bool (clashP (tl s) (tl a))) ∧ Below W.heap.size W w' := by
  have hne : Bk ≠ W.heap.size := by omega
  have CL : Hid (∀ V, Calls Tryz.prog 50 #[.string s, .string a] V fun e w' => e = .returned (.bool (clashP (tl s) (tl a))) ∧ V = w') := Lib.hid fun V => Fs.clash_any s a hs ha V
  go_enter Tryz.func135, Tryz.ntmps135
  go_wp2_with (go_at_call 50; (with_reducible refine (CL.out _).mono ?_); rintro e w1 ⟨rfl, rfl⟩)
  go_ret
  exact ⟨rfl, (Below.refl _ _).alloc (Nat.le_refl _) _⟩
theorem gt_op (a s : ByteArray) : decide (tl s < tl a) = (!Op.bytesLess a.toList s.toList && !a.toList == s.toList) := by
  rcases Fs.lt_or (a := tl a) (b := tl s) with h | h | h
  · rw [Fs.lt_op h, decide_eq_false (fun k => List.lt_irrefl _ (List.lt_trans h k))]; rfl
  · have e : a = s := Lg.tl_inj h
    subst e
    rw [decide_eq_false (List.lt_irrefl _)]; simp
  · have hne : a ≠ s := fun e => by subst e; exact List.lt_irrefl _ h
    rw [decide_eq_true h, Fs.nlt_op (fun k => List.lt_irrefl _ (List.lt_trans h k)), Lg.s_ne hne]; rfl
theorem with2_any (a d s : ByteArray) (Bk : Nat) (W : World) (hB : Bk < W.heap.size) (hc : W.cell? ⟨Bk, 0, none⟩ = some (.string s)) :
    Calls Tryz.prog 137 #[.agg #[.string a, .string d], .pointer (some ⟨Bk, 0, none⟩)] W fun e w' => e = .returned (.bool (decide (tl s < tl a))) ∧ Below W.heap.size W w' := by
  have hne : Bk ≠ W.heap.size := by omega
  have F := Lib.hid (gt_op a s)
  go_enter Tryz.func137, Tryz.ntmps137
  go_wp2_with (fail)
  go_ret
  exact ⟨Lg.ret_bool F.out, (Below.refl _ _).alloc (Nat.le_refl _) _⟩
theorem insF_at (f : Fl) : ∀ (l : List Fl) (k : Nat), k ≤ l.length → (∀ j (hj : j < l.length), j < k → ¬ tl f.p < tl l[j].p) → (∀ hk : k < l.length, tl f.p < tl l[k].p) → insF f l = l.take k ++ f :: l.drop k
  | [], k, hk, _, _ => by obtain rfl : k = 0 := by simpa using hk
                          rfl
  | g :: l, 0, _, _, h => by
    have := h (by simp)
    have this : tl f.p < tl g.p := this
    rw [insF, if_pos this]; rfl
  | g :: l, k + 1, hk, h1, h2 => by
    have h0 : ¬ tl f.p < tl g.p := h1 0 (by simp) (by omega)
    rw [insF, if_neg h0, insF_at f l k (by simpa using hk) (fun j hj hjk => h1 (j + 1) (by simpa using hj) (by omega)) (fun hk => h2 (by simpa using hk))]
    rfl
theorem idx_lt_of {p : Fl → Bool} {l : List Fl} (h : idx p l = -1) : ∀ j (hj : j < l.length), p l[j] = false := fun j hj => by
  rcases idx_cases p l with ⟨_, e2⟩ | ⟨k, hk, e1, _⟩
  · simpa using List.find?_eq_none.1 e2 _ (List.getElem_mem hj)
  · rw [e1] at h; omega
theorem put_ins {l : List Fl} {f : Fl} {k : Nat} (h : idx (fun g : Fl => decide (tl g.p = tl f.p)) l = -1) (hk : k ≤ l.length) (h1 : ∀ j (hj : j < l.length), j < k → ¬ tl f.p < tl l[j].p) (h2 : ∀ hk : k < l.length, tl f.p < tl l[k].p) : putF l (tl f.p) (tl f.d) = l.take k ++ f :: l.drop k := by
  have ha : l.any (atP (tl f.p)) = false := by
    rw [List.any_eq_false]
    intro x hx
    obtain ⟨j, hj, rfl⟩ := List.mem_iff_getElem.1 hx
    have := idx_lt_of h j hj
    unfold atP
    simpa using this
  unfold putF
  rw [if_neg (by simp [ha])]
  exact insF_at f l k hk h1 h2
theorem put_set {l : List Fl} {f : Fl} {k : Nat} (hk : k < l.length) (h : idx (fun g : Fl => decide (tl g.p = tl f.p)) l = k) : putF l (tl f.p) (tl f.d) = l.set k f := by
  unfold idx at h
  cases e : l.findIdx? (fun g : Fl => decide (tl g.p = tl f.p)) with
  | none => rw [e] at h; simp only at h; omega
  | some i =>
    rw [e] at h
    have : i = k := by simp only at h; omega
    subst this
    obtain ⟨hi, h2, h3⟩ := List.findIdx?_eq_some_iff_getElem.1 e
    have ha : l.any (atP (tl f.p)) = true := by
      rw [List.any_eq_true]
      exact ⟨l[i], List.getElem_mem hi, by unfold atP; simpa using h2⟩
    have hf : l.findIdx (atP (tl f.p)) = i := by
      have := List.findIdx?_eq_some_iff_findIdx_eq.1 e
      exact this.2
    unfold putF
    rw [if_pos ha, hf]
    rfl
def WithSays (l : List Fl) (f : Fl) (w : World) (en : Ending) (w' : World) : Prop := ∃ v', en = .returned (.tuple #[v', .int .i64 (withF l (tl f.p) (tl f.d)).2]) ∧ w'.ownsRow w.heap.size 49 2 v' (withF l (tl f.p) (tl f.d)).1.length (fc (withF l (tl f.p) (tl f.d)).1) ∧ Below w.heap.size w w'
theorem with_e1 {l : List Fl} {p d : B} (h : Lg.pathOk p = false) : withF l p d = ([], 13) := by unfold withF; rw [if_pos h]
theorem with_e2 {l : List Fl} {p d : B} (h : Lg.pathOk p = true) (h2 : 2048 < d.length) : withF l p d = ([], 15) := by unfold withF; rw [if_neg (by simp [h]), if_pos h2]
theorem with_e3 {l : List Fl} {p d : B} (h : Lg.pathOk p = true) (h2 : ¬ 2048 < d.length) (h3 : l.any (fun g => clashP p (tl g.p)) = true) : withF l p d = ([], 16) := by unfold withF; rw [if_neg (by simp [h]), if_neg h2, if_pos h3]
theorem with_e4 {l : List Fl} {p d : B} (h : Lg.pathOk p = true) (h2 : ¬ 2048 < d.length) (h3 : l.any (fun g => clashP p (tl g.p)) = false) (h4 : 32 < (putF l p d).length) : withF l p d = ([], 15) := by unfold withF; rw [if_neg (by simp [h]), if_neg h2, if_neg (by simp [h3]), if_pos h4]
theorem with_e5 {l : List Fl} {p d : B} (h : Lg.pathOk p = true) (h2 : ¬ 2048 < d.length) (h3 : l.any (fun g => clashP p (tl g.p)) = false) (h4 : ¬ 32 < (putF l p d).length) : withF l p d = (putF l p d, 0) := by unfold withF; rw [if_neg (by simp [h]), if_neg h2, if_neg (by simp [h3]), if_neg h4]
theorem path_size {s : ByteArray} (h : Lg.pathOk (tl s) = true) : s.size ≤ 48 := by
  unfold Lg.pathOk at h
  simp only [Bool.and_eq_true, decide_eq_true_eq] at h
  have := h.1.2
  rw [Fs.tl_len] at this
  exact this
set_option maxHeartbeats 8000000 in
theorem with_any (A : Option Addr) (l : List Fl) (c : Nat) (f : Fl) (w : World) (hE : Env w) (hr : Fls w A l) (hl : l.length ≤ 900) (hz : ∀ g ∈ l, g.p.size ≤ 1000000000) :
    Calls Tryz.prog 80 #[.slice A l.length c, .agg #[.string f.p, .string f.d]] w (WithSays l f w) := by
  obtain ⟨W1, eW⟩ : ∃ W1, W1 = w.alloc (.cells #[.string f.p, .string f.d] 49) := ⟨_, rfl⟩
  have hb1 : Below w.heap.size w W1 := by rw [eW]; exact (Below.refl _ _).alloc (Nat.le_refl _) _
  have q0 : W1.heap[w.heap.size]? = some (.cells #[.string f.p, .string f.d] 49 (0, 0)) := by rw [eW]; exact heap_alloc_new w _
  have hz1 : W1.heap.size = w.heap.size + 1 := by rw [eW]; simp
  have hw1 := hb1.size
  have D0 : Hid (∀ W, Below W1.heap.size W1 W → W.cell? ⟨w.heap.size, 0, none⟩ = some (.string f.p) ∧ W.cell? ⟨w.heap.size, 1, none⟩ = some (.string f.d)) := Lib.hid fun W hW => ⟨(cell_heap (heap_below hW (lt_heap q0) q0) 0).trans rfl, (cell_heap (heap_below hW (lt_heap q0) q0) 1).trans rfl⟩
  have RD : Hid (∀ W, Below W1.heap.size W1 W → Fls W A l) := Lib.hid fun W hW => by
    have h1 := hb1.trans (hW.mono hb1.size)
    exact (hr.below h1).more h1.size
  have HB := Lib.hid (fun W (hW : Below W1.heap.size W1 W) => hb1.trans (hW.mono hb1.size))
  have PA := Lib.hid (Fs.ppath_all f.p W1 (hE.below hb1))
  have d00 := (D0.out W1 (Below.refl _ _)).1
  have d01 := (D0.out W1 (Below.refl _ _)).2
  have ERR : Hid (∀ k : Int, withF l (tl f.p) (tl f.d) = ([], k) → ∀ W, Below w.heap.size w W → WithSays l f w (.returned (.tuple #[.slice none 0 0, .int .i64 k])) W) := Lib.hid fun k hk W hW => ⟨_, by rw [hk], by rw [hk]; exact World.ownsRow_nil _ _ _ _, hW⟩
  have GOOD : Hid (∀ m, withF l (tl f.p) (tl f.d) = (m, 0) → ∀ v W, W.ownsRow w.heap.size 49 2 v m.length (fc m) → Below w.heap.size w W → WithSays l f w (.returned (.tuple #[v, .int .i64 0])) W) := Lib.hid fun m hm v W h1 h2 => ⟨v, by rw [hm], by rw [hm]; exact h1, h2⟩
  generalize hQ : WithSays l f w = Q at *
  clear hQ
  by_cases hp : Lg.pathOk (tl f.p) = true
  · have hps := path_size hp
    rw [Fs.pathE_yes hp] at PA
    by_cases hd : 2048 < f.d.size
    · have E2 := Lib.hid (ERR.out 15 (with_e2 hp (by rw [Fs.tl_len]; exact hd)))
      have j1 : decide ((2048 : Int) < (f.d.size : Int)) = true := decide_eq_true (by omega)
      have j2 : (2048 : Int) < (f.d.size : Int) := by omega
      clear hp hd hr hE hb1 q0
      go_enter Tryz.func80, Tryz.ntmps80
      go_wp2_with (go_at_call 47; rw [← eW]; clear eW; (with_reducible refine (PA.out).mono ?_); rintro e w2 ⟨rfl, hb2⟩; have d2 := (D0.out _ hb2).1; have d3 := (D0.out _ hb2).2)
      exact E2.out _ (HB.out _ hb2)
    · have hd' : ¬ 2048 < (tl f.d).length := by rw [Fs.tl_len]; exact hd
      have j1 : decide ((2048 : Int) < (f.d.size : Int)) = false := decide_eq_false (by omega)
      have j2 : ¬ (2048 : Int) < (f.d.size : Int) := by omega
      have CF : Hid (∀ W, Below W1.heap.size W1 W → Calls Tryz.prog 48 #[.slice A l.length c, .func (.func 135) #[] #[.pointer (some ⟨w.heap.size, 0, none⟩)]] W fun e w' => e = .returned (.bool (l.any fun g => clashP (tl f.p) (tl g.p))) ∧ Below W.heap.size W w') := Lib.hid fun W hW =>
        Fs.containsF_any _ _ _ _ _ _ _ (Lib.hid (Fs.indexF_any 135 #[.pointer (some ⟨w.heap.size, 0, none⟩)] (enters_of Tryz.func135 (by kernel_rfl) rfl) (fun g => clashP (tl f.p) (tl g.p)) A l c W (RD.out _ hW) (by omega)
          (fun g hg V hV => with1_any g.p g.d f.p w.heap.size V (hz g hg) (by omega) (by have := hV.size; have := hW.size; omega) (D0.out _ (hW.trans (hV.mono hW.size))).1)))
      have hmf : ∀ (fn : Fn) (first cap : Array Value) (w : World), (Instr.makeFunc fn first cap).run Tryz.prog w = .ok (.func fn first cap) w := fun _ _ _ _ => rfl
      cases hx : l.any (fun g => clashP (tl f.p) (tl g.p)) with
      | true =>
        rw [hx] at CF
        have E3 := Lib.hid (ERR.out 16 (with_e3 hp hd' hx))
        clear hx hp hd hd' hr hE hb1 q0
        go_enter Tryz.func80, Tryz.ntmps80
        go_wp2_with (first
          | (go_at_call 47; rw [← eW]; clear eW; (with_reducible refine (PA.out).mono ?_); rintro e w2 ⟨rfl, hb2⟩; have d2 := (D0.out _ hb2).1; have d3 := (D0.out _ hb2).2)
          | (go_at_call 48; (with_reducible refine (CF.out _ hb2).mono ?_); rintro e w3 ⟨rfl, hb3⟩))
        exact E3.out _ (HB.out _ (hb2.trans (hb3.mono hb2.size)))
      | false =>
        rw [hx] at CF
        have E4 := Lib.hid (fun h W hW => ERR.out 15 (with_e4 hp hd' hx h) W hW)
        have E5 := Lib.hid (fun h => GOOD.out _ (with_e5 hp hd' hx h))
        have CL : Hid (∀ W, Below W1.heap.size W1 W → Calls Tryz.prog 136 #[.slice A l.length c] W (FilesOwn l W)) := Lib.hid fun W hW => clone_any A l c W (RD.out _ hW) (by omega)
        have FA : Hid (∀ W, Below W1.heap.size W1 W → Calls Tryz.prog 134 #[.slice A l.length c, .string f.p] W fun e w' => e = .returned (.int .i64 (idx (fun g : Fl => decide (tl g.p = tl f.p)) l)) ∧ Below W.heap.size W w') := Lib.hid fun W hW => Fs.find_any A l c f.p W (RD.out _ hW) (by omega)
        have IX : Hid (∀ W, Below W1.heap.size W1 W → Calls Tryz.prog 88 #[.slice A l.length c, .func (.func 137) #[] #[.pointer (some ⟨w.heap.size, 0, none⟩)]] W fun e w' => e = .returned (.int .i64 (idx (fun g : Fl => decide (tl f.p < tl g.p)) l)) ∧ Below W.heap.size W w') := Lib.hid fun W hW =>
          Fs.indexF_any 137 #[.pointer (some ⟨w.heap.size, 0, none⟩)] (enters_of Tryz.func137 (by kernel_rfl) rfl) (fun g => decide (tl f.p < tl g.p)) A l c W (RD.out _ hW) (by omega)
            (fun g hg V hV => with2_any g.p g.d f.p w.heap.size V (by have := hV.size; have := hW.size; omega) (D0.out _ (hW.trans (hV.mono hW.size))).1)
        clear hp hd hd' hE hb1 q0 hr ERR GOOD
        rcases idx_cases (fun g : Fl => decide (tl g.p = tl f.p)) l with ⟨e1, e2⟩ | ⟨k, hk, e1, e2⟩
        · rw [e1] at FA
          have HI := Lib.hid e1
          clear e1 e2 hx
          have TAIL : Hid (∀ (at_ : Nat), at_ ≤ l.length → (∀ j (hj : j < l.length), j < at_ → ¬ tl f.p < tl l[j].p) → (∀ hk : at_ < l.length, tl f.p < tl l[at_].p) → ∀ v W, W.ownsRow w.heap.size 49 2 v (l.take at_ ++ f :: l.drop at_).length (fc (l.take at_ ++ f :: l.drop at_)) → Below w.heap.size w W → ¬ 32 < l.length + 1 → Q (.returned (.tuple #[v, .int .i64 0])) W) := Lib.hid fun at_ h1 h2 h3 v W h4 h5 h6 => by
            have hp := put_ins HI.out h1 h2 h3
            refine E5.out (by rw [hp, ins_len h1]; exact h6) v W (by rw [hp]; exact h4) h5
          have BIG : Hid (32 < l.length + 1 → ∀ W, Below w.heap.size w W → Q (.returned (.tuple #[.slice none 0 0, .int .i64 15])) W) := Lib.hid fun h W hW => E4.out (by
            have : (putF l (tl f.p) (tl f.d)).length = l.length + 1 := by
              have ha : l.any (atP (tl f.p)) = false := by
                rw [List.any_eq_false]
                intro x hx
                obtain ⟨j, hj, rfl⟩ := List.mem_iff_getElem.1 hx
                have := idx_lt_of HI.out j hj
                unfold atP
                simpa using this
              unfold putF
              rw [if_neg (by simp [ha]), insF_len]
            omega) W hW
          clear E4 E5 HI
          have IDX : ∃ (at_ : Nat) (r : Int), idx (fun g : Fl => decide (tl f.p < tl g.p)) l = r ∧ ((r = -1 ∧ at_ = l.length) ∨ (r = at_ ∧ at_ < l.length)) ∧ (∀ j (hj : j < l.length), j < at_ → ¬ tl f.p < tl l[j].p) ∧ (∀ hk : at_ < l.length, tl f.p < tl l[at_].p) := by
            rcases idx_cases (fun g : Fl => decide (tl f.p < tl g.p)) l with ⟨e1, e2⟩ | ⟨k, hk, e1, e2⟩
            · exact ⟨l.length, -1, e1, .inl ⟨rfl, rfl⟩, fun j hj _ => by simpa using idx_lt_of e1 j hj, fun h => absurd h (by omega)⟩
            · obtain ⟨g1, g2⟩ := idx_hits hk e2 e1
              exact ⟨k, k, e1, .inr ⟨rfl, hk⟩, fun j hj hjk => by simpa using g2 j hj hjk, fun _ => by simpa using g1⟩
          obtain ⟨at_, r, e1, e2, e3, e4⟩ := IDX
          rw [e1] at IX
          have T2 := Lib.hid (fun h => TAIL.out at_ h e3 e4)
          clear e1 e3 e4 TAIL
          have hat : at_ ≤ l.length := by omega
          have IN : Hid (∀ v W, W.ownsRow w.heap.size 49 2 v l.length (fc l) → Below w.heap.size w W → Calls Tryz.prog 138 #[v, .int .i64 at_, .slice (some ⟨W.heap.size, 0, none⟩) 1 1] (W.alloc (.cells #[.string f.p, .string f.d] 49)) (InsSays w.heap.size l f at_ (W.alloc (.cells #[.string f.p, .string f.d] 49)))) := Lib.hid fun v W ho hb =>
            insert_any w.heap.size v l f at_ W.heap.size _ (ho.alloc _) (heap_alloc_new W _) (by simp; have := hb.size; omega) (by omega) hat (fun e => by have := (ho.lt _ e).2; omega)
          have hlen := ins_len (f := f) hat
          by_cases h32 : 32 < l.length + 1
          · have B1 := Lib.hid (BIG.out h32)
            have k1 : (32 : Int) < (l.length : Int) + 1 := by omega
            clear BIG T2
            rcases e2 with ⟨rfl, rfl⟩ | ⟨rfl, hlt⟩
            · go_enter Tryz.func80, Tryz.ntmps80
              go_wp2_with (first
            | (go_at_call 47; rw [← eW]; clear eW; (with_reducible refine (PA.out).mono ?_); rintro e w2 ⟨rfl, hb2⟩; have d2 := (D0.out _ hb2).1; have d3 := (D0.out _ hb2).2)
            | (go_at_call 48; (with_reducible refine (CF.out _ hb2).mono ?_); rintro e w3 ⟨rfl, hb3⟩; have h3 := hb2.trans (hb3.mono hb2.size); clear hb3)
            | (go_at_call 136; (with_reducible refine (CL.out _ h3).mono ?_); rintro e w4 ⟨v4, rfl, ho4, hb4⟩; have h4 := h3.trans (hb4.mono h3.size); have HO4 := Lib.hid (own_low ho4 (Nat.le_trans hw1 h3.size)); clear hb4 ho4; have d4 := (D0.out _ h4).1; have d5 := (D0.out _ h4).2)
            | (go_at_call 134; (with_reducible refine (FA.out _ h4).mono ?_); rintro e w5 ⟨rfl, hb5⟩; have h5 := h4.trans (hb5.mono h4.size); have HO5 := Lib.hid (own_on HO4.out hb5); clear hb5; have d6 := (D0.out _ h5).1; have d7 := (D0.out _ h5).2)
            | (go_at_call 88; (with_reducible refine (IX.out _ h5).mono ?_); rintro e w6 ⟨rfl, hb6⟩; have h6 := h5.trans (hb6.mono h5.size); have HO6 := Lib.hid (own_on HO5.out hb6); clear hb6; have d8 := (D0.out _ h6).1; have d9 := (D0.out _ h6).2; have INS := Lib.hid (IN.out v4 w6 HO6.out (HB.out _ h6)))
            | (go_at_call 138; (with_reducible refine (INS.out).mono ?_); rintro e w7 ⟨v7, rfl, ho7, hb7⟩; have h7 := Lib.hid (((HB.out _ h6).alloc (HB.out _ h6).size _).trans hb7); obtain ⟨g7, c7, rfl⟩ := own_pos ho7 hlen (by omega); have HO7 := Lib.hid ho7; clear ho7 hb7))
              exact B1.out _ h7.out
            · have hI : ¬ (at_ : Int) < 0 := by omega
              go_enter Tryz.func80, Tryz.ntmps80
              go_wp2_with (first
            | (go_at_call 47; rw [← eW]; clear eW; (with_reducible refine (PA.out).mono ?_); rintro e w2 ⟨rfl, hb2⟩; have d2 := (D0.out _ hb2).1; have d3 := (D0.out _ hb2).2)
            | (go_at_call 48; (with_reducible refine (CF.out _ hb2).mono ?_); rintro e w3 ⟨rfl, hb3⟩; have h3 := hb2.trans (hb3.mono hb2.size); clear hb3)
            | (go_at_call 136; (with_reducible refine (CL.out _ h3).mono ?_); rintro e w4 ⟨v4, rfl, ho4, hb4⟩; have h4 := h3.trans (hb4.mono h3.size); have HO4 := Lib.hid (own_low ho4 (Nat.le_trans hw1 h3.size)); clear hb4 ho4; have d4 := (D0.out _ h4).1; have d5 := (D0.out _ h4).2)
            | (go_at_call 134; (with_reducible refine (FA.out _ h4).mono ?_); rintro e w5 ⟨rfl, hb5⟩; have h5 := h4.trans (hb5.mono h4.size); have HO5 := Lib.hid (own_on HO4.out hb5); clear hb5; have d6 := (D0.out _ h5).1; have d7 := (D0.out _ h5).2)
            | (go_at_call 88; (with_reducible refine (IX.out _ h5).mono ?_); rintro e w6 ⟨rfl, hb6⟩; have h6 := h5.trans (hb6.mono h5.size); have HO6 := Lib.hid (own_on HO5.out hb6); clear hb6; have d8 := (D0.out _ h6).1; have d9 := (D0.out _ h6).2; have INS := Lib.hid (IN.out v4 w6 HO6.out (HB.out _ h6)))
            | (go_at_call 138; (with_reducible refine (INS.out).mono ?_); rintro e w7 ⟨v7, rfl, ho7, hb7⟩; have h7 := Lib.hid (((HB.out _ h6).alloc (HB.out _ h6).size _).trans hb7); obtain ⟨g7, c7, rfl⟩ := own_pos ho7 hlen (by omega); have HO7 := Lib.hid ho7; clear ho7 hb7))
              exact B1.out _ h7.out
          · have k1 : ¬ (32 : Int) < (l.length : Int) + 1 := by omega
            have B1 := Lib.hid (fun v W h4 h5 => T2.out hat v W h4 h5 h32)
            clear BIG T2
            rcases e2 with ⟨rfl, rfl⟩ | ⟨rfl, hlt⟩
            · go_enter Tryz.func80, Tryz.ntmps80
              go_wp2_with (first
            | (go_at_call 47; rw [← eW]; clear eW; (with_reducible refine (PA.out).mono ?_); rintro e w2 ⟨rfl, hb2⟩; have d2 := (D0.out _ hb2).1; have d3 := (D0.out _ hb2).2)
            | (go_at_call 48; (with_reducible refine (CF.out _ hb2).mono ?_); rintro e w3 ⟨rfl, hb3⟩; have h3 := hb2.trans (hb3.mono hb2.size); clear hb3)
            | (go_at_call 136; (with_reducible refine (CL.out _ h3).mono ?_); rintro e w4 ⟨v4, rfl, ho4, hb4⟩; have h4 := h3.trans (hb4.mono h3.size); have HO4 := Lib.hid (own_low ho4 (Nat.le_trans hw1 h3.size)); clear hb4 ho4; have d4 := (D0.out _ h4).1; have d5 := (D0.out _ h4).2)
            | (go_at_call 134; (with_reducible refine (FA.out _ h4).mono ?_); rintro e w5 ⟨rfl, hb5⟩; have h5 := h4.trans (hb5.mono h4.size); have HO5 := Lib.hid (own_on HO4.out hb5); clear hb5; have d6 := (D0.out _ h5).1; have d7 := (D0.out _ h5).2)
            | (go_at_call 88; (with_reducible refine (IX.out _ h5).mono ?_); rintro e w6 ⟨rfl, hb6⟩; have h6 := h5.trans (hb6.mono h5.size); have HO6 := Lib.hid (own_on HO5.out hb6); clear hb6; have d8 := (D0.out _ h6).1; have d9 := (D0.out _ h6).2; have INS := Lib.hid (IN.out v4 w6 HO6.out (HB.out _ h6)))
            | (go_at_call 138; (with_reducible refine (INS.out).mono ?_); rintro e w7 ⟨v7, rfl, ho7, hb7⟩; have h7 := Lib.hid (((HB.out _ h6).alloc (HB.out _ h6).size _).trans hb7); obtain ⟨g7, c7, rfl⟩ := own_pos ho7 hlen (by omega); have HO7 := Lib.hid ho7; clear ho7 hb7))
              exact B1.out _ _ HO7.out h7.out
            · have hI : ¬ (at_ : Int) < 0 := by omega
              go_enter Tryz.func80, Tryz.ntmps80
              go_wp2_with (first
            | (go_at_call 47; rw [← eW]; clear eW; (with_reducible refine (PA.out).mono ?_); rintro e w2 ⟨rfl, hb2⟩; have d2 := (D0.out _ hb2).1; have d3 := (D0.out _ hb2).2)
            | (go_at_call 48; (with_reducible refine (CF.out _ hb2).mono ?_); rintro e w3 ⟨rfl, hb3⟩; have h3 := hb2.trans (hb3.mono hb2.size); clear hb3)
            | (go_at_call 136; (with_reducible refine (CL.out _ h3).mono ?_); rintro e w4 ⟨v4, rfl, ho4, hb4⟩; have h4 := h3.trans (hb4.mono h3.size); have HO4 := Lib.hid (own_low ho4 (Nat.le_trans hw1 h3.size)); clear hb4 ho4; have d4 := (D0.out _ h4).1; have d5 := (D0.out _ h4).2)
            | (go_at_call 134; (with_reducible refine (FA.out _ h4).mono ?_); rintro e w5 ⟨rfl, hb5⟩; have h5 := h4.trans (hb5.mono h4.size); have HO5 := Lib.hid (own_on HO4.out hb5); clear hb5; have d6 := (D0.out _ h5).1; have d7 := (D0.out _ h5).2)
            | (go_at_call 88; (with_reducible refine (IX.out _ h5).mono ?_); rintro e w6 ⟨rfl, hb6⟩; have h6 := h5.trans (hb6.mono h5.size); have HO6 := Lib.hid (own_on HO5.out hb6); clear hb6; have d8 := (D0.out _ h6).1; have d9 := (D0.out _ h6).2; have INS := Lib.hid (IN.out v4 w6 HO6.out (HB.out _ h6)))
            | (go_at_call 138; (with_reducible refine (INS.out).mono ?_); rintro e w7 ⟨v7, rfl, ho7, hb7⟩; have h7 := Lib.hid (((HB.out _ h6).alloc (HB.out _ h6).size _).trans hb7); obtain ⟨g7, c7, rfl⟩ := own_pos ho7 hlen (by omega); have HO7 := Lib.hid ho7; clear ho7 hb7))
              exact B1.out _ _ HO7.out h7.out
        · rw [e1] at FA
          have hput := put_set hk e1
          have hk0 : (0 : Int) ≤ (k : Int) := by omega
          have hk1 : (k : Int) < (l.length : Int) := by omega
          have PL : Hid ((putF l (tl f.p) (tl f.d)).length = l.length) := Lib.hid (by rw [hput]; simp)
          have HP := Lib.hid hput
          clear e1 e2 hx hput IX
          have PUT : Hid (∀ v W, W.ownsRow w.heap.size 49 2 v l.length (fc l) → Below w.heap.size w W → ∃ g cap, v = .slice (some ⟨g, 0, none⟩) l.length cap ∧ (∃ u, W.cell? ⟨g, k * 2, none⟩ = some u) ∧ (∃ u, W.cell? ⟨g, k * 2 + 1, none⟩ = some u) ∧ W.frozen? ⟨g, k * 2, none⟩ = false ∧ W.frozen? ⟨g, k * 2 + 1, none⟩ = false ∧
              ((W.setCell ⟨g, k * 2, none⟩ (.string f.p)).setCell ⟨g, k * 2 + 1, none⟩ (.string f.d)).ownsRow w.heap.size 49 2 v (putF l (tl f.p) (tl f.d)).length (fc (putF l (tl f.p) (tl f.d))) ∧ Below w.heap.size w ((W.setCell ⟨g, k * 2, none⟩ (.string f.p)).setCell ⟨g, k * 2 + 1, none⟩ (.string f.d))) := Lib.hid fun v W ho hb => by
            obtain ⟨_, ⟨_, rfl⟩ | ⟨g, cap, cur, rfl, hBg, hh, hc, hc2, h3, h4⟩⟩ := own_open ho
            · simp at hk
            · refine ⟨g, cap, rfl, ⟨_, (cell_heap hh _).trans (Array.getElem?_eq_getElem (by omega))⟩, ⟨_, (cell_heap hh _).trans (Array.getElem?_eq_getElem (by omega))⟩, frozen_heap hh _, frozen_heap hh _, ?_, (hb.setCell (p := ⟨g, k * 2, none⟩) hBg _).setCell (p := ⟨g, k * 2 + 1, none⟩) hBg _⟩
              have hlen : (l.set k f).length = l.length := by simp
              have := own_shut (l := l.set k f) (w := (W.setCell ⟨g, k * 2, none⟩ (.string f.p)).setCell ⟨g, k * 2 + 1, none⟩ (.string f.d)) (cap := cap) hBg (heap_set (heap_set hh)) (by rw [hlen]; exact hc) hc2 (by simp [h3]) (fc_set f h4 hk (by omega))
              rw [HP.out]
              rw [hlen] at this ⊢
              exact this
          by_cases h32 : 32 < l.length
          · have B1 := Lib.hid (fun W hW => E4.out (by rw [PL.out]; exact h32) W hW)
            have k1 : (32 : Int) < (l.length : Int) := by omega
            clear E4 E5
            go_enter Tryz.func80, Tryz.ntmps80
            go_wp2_with (first
              | (go_at_call 47; rw [← eW]; clear eW; (with_reducible refine (PA.out).mono ?_); rintro e w2 ⟨rfl, hb2⟩; have d2 := (D0.out _ hb2).1; have d3 := (D0.out _ hb2).2)
              | (go_at_call 48; (with_reducible refine (CF.out _ hb2).mono ?_); rintro e w3 ⟨rfl, hb3⟩; have h3 := hb2.trans (hb3.mono hb2.size); clear hb3)
              | (go_at_call 136; (with_reducible refine (CL.out _ h3).mono ?_); rintro e w4 ⟨v4, rfl, ho4, hb4⟩; have h4 := h3.trans (hb4.mono h3.size); have HO4 := Lib.hid (own_low ho4 (Nat.le_trans hw1 h3.size)); clear hb4 ho4; have d4 := (D0.out _ h4).1; have d5 := (D0.out _ h4).2)
              | (go_at_call 134; (with_reducible refine (FA.out _ h4).mono ?_); rintro e w5 ⟨rfl, hb5⟩; have h5 := h4.trans (hb5.mono h4.size); have HO5 := Lib.hid (own_on HO4.out hb5); clear hb5; have d6 := (D0.out _ h5).1; have d7 := (D0.out _ h5).2; obtain ⟨g6, c6, rfl, ⟨u0, x0⟩, ⟨u1, x1⟩, x2, x3, ho6, hb6⟩ := PUT.out v4 w5 HO5.out (HB.out _ h5); have H6 := Lib.hid ho6; have h6 := Lib.hid hb6; clear ho6 hb6))
            exact B1.out _ h6.out
          · have B1 := Lib.hid (E5.out (by rw [PL.out]; exact h32))
            have k1 : ¬ (32 : Int) < (l.length : Int) := by omega
            clear E4 E5
            go_enter Tryz.func80, Tryz.ntmps80
            go_wp2_with (first
              | (go_at_call 47; rw [← eW]; clear eW; (with_reducible refine (PA.out).mono ?_); rintro e w2 ⟨rfl, hb2⟩; have d2 := (D0.out _ hb2).1; have d3 := (D0.out _ hb2).2)
              | (go_at_call 48; (with_reducible refine (CF.out _ hb2).mono ?_); rintro e w3 ⟨rfl, hb3⟩; have h3 := hb2.trans (hb3.mono hb2.size); clear hb3)
              | (go_at_call 136; (with_reducible refine (CL.out _ h3).mono ?_); rintro e w4 ⟨v4, rfl, ho4, hb4⟩; have h4 := h3.trans (hb4.mono h3.size); have HO4 := Lib.hid (own_low ho4 (Nat.le_trans hw1 h3.size)); clear hb4 ho4; have d4 := (D0.out _ h4).1; have d5 := (D0.out _ h4).2)
              | (go_at_call 134; (with_reducible refine (FA.out _ h4).mono ?_); rintro e w5 ⟨rfl, hb5⟩; have h5 := h4.trans (hb5.mono h4.size); have HO5 := Lib.hid (own_on HO4.out hb5); clear hb5; have d6 := (D0.out _ h5).1; have d7 := (D0.out _ h5).2; obtain ⟨g6, c6, rfl, ⟨u0, x0⟩, ⟨u1, x1⟩, x2, x3, ho6, hb6⟩ := PUT.out v4 w5 HO5.out (HB.out _ h5); have H6 := Lib.hid ho6; have h6 := Lib.hid hb6; clear ho6 hb6))
            exact B1.out _ _ H6.out h6.out
  · have hp' : Lg.pathOk (tl f.p) = false := by simpa using hp
    rw [Fs.pathE_not hp'] at PA
    have E1 := Lib.hid (ERR.out 13 (with_e1 hp'))
    clear hp hp' hr hE hb1 q0
    go_enter Tryz.func80, Tryz.ntmps80
    go_wp2_with (go_at_call 47; rw [← eW]; clear eW; (with_reducible refine (PA.out).mono ?_); rintro e w2 ⟨rfl, hb2⟩)
    exact E1.out _ (HB.out _ hb2)
end Go.Proofs.YtdidnlkilleljaaGreatDoor.Bx
