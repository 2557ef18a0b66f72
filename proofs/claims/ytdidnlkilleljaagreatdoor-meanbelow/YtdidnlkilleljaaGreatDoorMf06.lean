/- Joined by mkmerged.py: LgMix. -/
import Derived.Test.YtdidnlkilleljaaGreatDoorMfKm
/- LgMix, what a claim needs of it (prune.py). -/
namespace Go.Proofs.YtdidnlkilleljaaGreatDoor
open Go
set_option linter.unusedVariables false
section
variable {P : Program} {ops : Array Oper} {Q : Exit → Act → World → Prop} {C : World → Prop}
theorem yieldsIn_of {o : Oper} {v : Value} {a : Act} (h : Yields P ops o v a) : YieldsIn P ops C o v a := by
  rcases h with ⟨hw, h⟩ | h
  · refine .inl ⟨hw, fun w _ => ?_⟩
    unfold Oper.quietAt
    rw [h w]
    exact ⟨rfl, rfl⟩
  · exact .inr h
theorem yields_same {o : Oper} {v : Value} {a a' : Act} (hy : Yields P ops o v a) (he : execOp a'.eval o = execOp a.eval o)
    (hw : Region.wanted o (yielded ops a'.tmps) = Region.wanted o (yielded ops a.tmps)) : Yields P ops o v a' := by
  unfold Yields at *
  rw [he, hw]
  exact hy
theorem qOp_putY {j : Nat} {oi oj : Oper} {v : Value} (hj : ops[j]? = some oj) (hap : oi.apart ops oj = true)
    (hsi : ∀ cs b, oi.op ≠ .select cs b) (hsj : ∀ cs b, oj.op ≠ .select cs b) {K : Act → Prop} {a : Act}
    (hy : Yields P ops oi v a) (h : qOp P ops C j K (a.put oi.dst v)) :
    qOp P ops C j (fun a' => Yields P ops oi v a' ∧ K (a'.put oi.dst v)) a := by
  obtain ⟨h1, h2, h3⟩ := Oper.apart_spec hap
  have keep : ∀ (a : Act), Yields P ops oi v a → ∀ u, Yields P ops oi v (a.put oj.dst u) := fun a hy u =>
    yields_same hy (execOp_put oi hsi a oj.dst u h3) (wanted_put oi a oj.dst u h3)
  unfold qOp at *
  simp only [hj] at *
  rw [wanted_put oj a oi.dst v h1] at h
  split
  · rename_i hw
    simp only [hw, if_true] at h
    obtain ⟨u, hu, hn⟩ := h
    refine ⟨u, fun w hw' => ?_, keep a hy u, by rw [← Act.put_comm a v u h2]; exact hn⟩
    have := hu w hw'
    unfold Oper.quietAt at *
    rwa [execOp_put oj hsj a oi.dst v h1] at this
  · rename_i hw
    simp only [hw] at h
    exact ⟨keep a hy _, by rw [← Act.put_comm a v undef h2]; exact h⟩
theorem wpAnyM_firstY {n i : Nat} {oi : Oper} {v : Value} (hi : ops[i]? = some oi) (hsel : ∀ (j : Nat) (o : Oper) cs b, ops[j]? = some o → o.op ≠ .select cs b)
    (hQ : ∀ c a w, Q (.panic c) (a.put oi.dst v) w → Q (.panic c) a w) (hin : i ≠ n) :
    ∀ (f : Nat) (listed : Array Bool) (a : Act),
      (∀ j oj, ops[j]? = some oj → j ≠ i → listed.getD j true = false → (∀ e ∈ oj.after, Region.binds .any e = true → e.on ≠ i) → oi.apart ops oj = true) →
      i ∈ Region.ready .any ops listed → Yields P ops oi v a →
      wpAnyM P ops Q C n f (listed.setIfInBounds i true) (a.put oi.dst v) → wpAnyM P ops Q C n (f + 1) listed a := by
  intro f
  induction f with
  | zero => intro listed a _ _ _ H; exact H.elim
  | succ f ih =>
    intro listed a hfree hr hy H
    have hun := (mem_ready.1 hr).1
    refine ⟨fun h => (by rw [h] at hr; cases hr), fun j hj => ?_⟩
    obtain ⟨hjun, oj, hoj, hall⟩ := mem_ready.1 hj
    by_cases hji : j = i
    · subst hji
      rw [if_neg hin]
      exact (yieldsIn_of hy).qOp hi H
    have hnot : ∀ e ∈ oj.after, Region.binds .any e = true → e.on ≠ i := fun e he hb heq => by
      have h1 := hall e he hb
      rw [heq, getD_both hun] at h1
      cases h1
    have hap := hfree j oj hoj hji hjun hnot
    have hfree' : ∀ k ok, ops[k]? = some ok → k ≠ i → (listed.setIfInBounds j true).getD k true = false →
        (∀ e ∈ ok.after, Region.binds .any e = true → e.on ≠ i) → oi.apart ops ok = true := fun k ok hk hki hun hno => by
      refine hfree k ok hk hki ?_ hno
      by_cases hjk : j = k
      · subst hjk; exact hjun
      · rw [getD_set_ne true hjk] at hun; exact hun
    have h1 := H.2 j (ready_mono hj hji)
    by_cases hjn : j = n
    · subst hjn
      rw [if_pos rfl] at h1 ⊢
      intro w hw
      have h2 := wpOp_put hoj hap (fun cs b => hsel i oi cs b hi) (fun cs b => hsel j oj cs b hoj) hQ hy (h1 w hw)
      refine wpOp_mono (fun a' w' h3 => wpAny_first hi hsel hQ f _ a' w' hfree' (ready_mono hr (Ne.symm hji)) h3.1 ?_) h2
      rw [Array.setIfInBounds_comm _ _ hji]
      exact h3.2
    · rw [if_neg hjn] at h1 ⊢
      have h2 := qOp_putY hoj hap (fun cs b => hsel i oi cs b hi) (fun cs b => hsel j oj cs b hoj) hy h1
      refine qOp_mono (fun a' h3 => ih (listed.setIfInBounds j true) a' hfree' (ready_mono hr (Ne.symm hji)) h3.1 ?_) h2
      rw [Array.setIfInBounds_comm _ _ hji]
      exact h3.2
def wpQ2 (P : Program) (ops : Array Oper) (C : World → Prop) (m : Nat) (Lq : Act → Prop) : Nat → List Oper → Act → Prop
  | _, [], a => Lq a
  | k, o :: l, a => ∃ v, (if k < m then YieldsIn P ops C o v a else Yields P ops o v a) ∧ wpQ2 P ops C m Lq (k + 1) l (a.put o.dst v)
def wpLate (P : Program) (ops : Array Oper) (Lq : Act → Prop) : List Oper → Act → Prop
  | [], a => Lq a
  | o :: l, a => ∃ v, Yields P ops o v a ∧ wpLate P ops Lq l (a.put o.dst v)
theorem wpQ2_late {m : Nat} {Lq : Act → Prop} : ∀ (l : List Oper) (k : Nat) (a : Act), m ≤ k → wpLate P ops Lq l a → wpQ2 P ops C m Lq k l a
  | [], _, _, _, h => h
  | o :: l, k, a, hk, ⟨v, h1, h2⟩ => ⟨v, by rw [if_neg (by omega)]; exact h1, wpQ2_late l (k + 1) _ (by omega) h2⟩
theorem wpQ2_of {m : Nat} {Lq : Act → Prop} (l2 : List Oper) : ∀ (l1 : List Oper) (k : Nat) (a : Act), k + l1.length = m → (∀ j, j < l1.length → l1[j]? = ops[k + j]?) →
    wpQuiet P ops C (fun a1 => wpLate P ops Lq l2 a1) l1 a → wpQ2 P ops C m Lq k (l1 ++ l2) a
  | [], k, a, hk, _, h => wpQ2_late l2 k a (by simp at hk; omega) h
  | o :: l1, k, a, hk, hl, h => by
    have h0 : ops[k]? = some o := by simpa using (hl 0 (by simp)).symm
    simp only [List.length_cons] at hk
    have hst : qOp P ops C k (wpQuiet P ops C (fun a1 => wpLate P ops Lq l2 a1) l1) a := by unfold qOp; simp only [h0]; exact h
    obtain ⟨v, hy, hK⟩ := yieldsIn_of_qOp h0 hst
    exact ⟨v, by rw [if_pos (by omega)]; exact hy, wpQ2_of l2 l1 (k + 1) _ (by omega) (fun j hj => by have := hl (j + 1) (by simp; omega); simpa [Nat.add_assoc, Nat.add_comm 1 j] using this) hK⟩
def lateB (ops : Array Oper) (m n : Nat) : Bool :=
  Region.noSelect ops && decide (m ≤ n) && decide (n < ops.size) && ((List.range m).all fun i => ((ops[i]?).map mover).getD false || leads ops n n i) && Region.lexHead .any ops (ops.size - n) n 0 (Array.replicate ops.size false)
theorem wpAnyM_lexY {n m g : Nat} {Lq : Act → Prop} (hmn : m ≤ n) (hsel : Region.noSelect ops = true) (hh : ((List.range m).all fun i => ((ops[i]?).map mover).getD false || leads ops n n i) = true)
    (hQ : ∀ c a d v w, Q (.panic c) (a.put d v) w → Q (.panic c) a w) (w0 : World) (hw0 : C w0)
    (hend : ∀ listed a, Region.seqB .any ops (g + 1) n listed = true → Lq a → wpAnyM P ops Q C n (g + 1) listed a) :
    ∀ (l : List Oper) (k : Nat) (listed : Array Bool) (a : Act), Closed ops listed → (∀ j, j < l.length → l[j]? = ops[k + j]?) → k + l.length = n →
    Region.lexHead .any ops (g + 1) l.length k listed = true → wpQ2 P ops C m Lq k l a → wpAnyM P ops Q C n (l.length + (g + 1)) listed a
  | [], k, listed, a, _, _, hk, hB, h => by
    have : k = n := by simpa using hk
    subst this
    rw [show ([] : List Oper).length + (g + 1) = g + 1 by simp]
    exact hend listed a (by simpa [Region.lexHead] using hB) h
  | o :: l, k, listed, a, hcl, hl, hk, hB, h => by
    have h0 : ops[k]? = some o := by simpa using (hl 0 (by simp)).symm
    simp only [List.length_cons, Region.lexHead, Bool.and_eq_true] at hB
    obtain ⟨⟨hr, hf⟩, hB'⟩ := hB
    have hkn : k < n := by simp only [List.length_cons] at hk; omega
    have hr' : k ∈ Region.ready .any ops listed := by simpa using hr
    obtain ⟨v, hy, hK⟩ := h
    rw [show (o :: l).length + (g + 1) = (l.length + (g + 1)) + 1 by simp only [List.length_cons]; omega]
    have hrest := wpAnyM_lexY hmn hsel hh hQ w0 hw0 hend l (k + 1) (listed.setIfInBounds k true) (a.put o.dst v) (hcl.set hr') (fun j hj => by have := hl (j + 1) (by simp; omega); simpa [Nat.add_assoc, Nat.add_comm 1 j] using this) (by simp only [List.length_cons] at hk; omega) hB' hK
    by_cases hkm : k < m
    · rw [if_pos hkm] at hy
      have hk' : leads ops n n k = true ∨ mover o = true := by
        have := List.all_eq_true.1 hh k (List.mem_range.2 hkm)
        simpa [h0, or_comm] using this
      exact wpAnyM_first h0 (Region.noSelect_spec hsel) (fun c a w => hQ c a _ _ w) (by omega) w0 hw0 n hk' (l.length + (g + 1)) listed a hcl (Region.free_spec h0 hf) hr' hy hrest
    · rw [if_neg hkm] at hy
      exact wpAnyM_firstY h0 (Region.noSelect_spec hsel) (fun c a w => hQ c a _ _ w) (by omega) (l.length + (g + 1)) listed a (Region.free_spec h0 hf) hr' hy hrest
theorem wp_region_late {id : Nat} {a : Act} {w : World} {l : List Oper} (m n : Nat) (hm : P.follows .mixedOrders = true) (hB : lateB l.toArray m n = true)
    (hQ : ∀ c a d v w, Q (.panic c) (a.put d v) w → Q (.panic c) a w) (hC : C w.drew)
    (h : wpQuiet P l.toArray C (fun a1 => wpLate P l.toArray (fun a' => ∀ w', C w' → wpList P l.toArray Q (l.drop n) a' w') ((l.take n).drop m) a1) ((l.take n).take m) a) : (Code.region id l.toArray true).wp P Q a w := by
  simp only [lateB, Bool.and_eq_true, decide_eq_true_eq] at hB
  obtain ⟨⟨⟨⟨hsel, hmn⟩, hn⟩, hh⟩, hlex⟩ := hB
  have hn' : n < l.length := by simpa using hn
  have htl : (l.take n).length = n := by simp; omega
  obtain ⟨g, hg⟩ : ∃ g, l.toArray.size - n = g + 1 := ⟨l.toArray.size - n - 1, by simp at hn ⊢; omega⟩
  rw [hg] at hlex
  refine wp_region_any hm (wpAny_of_M (C := C) (n := n) _ _ _ _ hC ?_)
  have hq := wpQ2_of (P := P) (ops := l.toArray) (C := C) (m := m) ((l.take n).drop m) ((l.take n).take m) 0 a (by simp; omega) (fun j hj => by
    have hj' : j < m := by simp at hj; omega
    have hj2 : j < n := by omega
    simp [hj', hj2]) h
  rw [List.take_append_drop] at hq
  have H := wpAnyM_lexY (P := P) (Q := Q) (C := C) (g := g) hmn hsel hh hQ _ hC (fun listed a' hs hL => ?_) (l.take n) 0 _ a (fun j oj _ hl => (by rw [getD_replicate_false] at hl; cases hl)) (fun j hj => by
    have hj' : j < n := by rw [htl] at hj; exact hj
    simp [hj']) (by simpa using htl) (by rw [htl]; exact hlex) hq
  · rw [htl, show n + (g + 1) = l.toArray.size by omega] at H
    exact H
  · have hd : (l.drop n).length = g + 1 := by simp at hg ⊢; omega
    simp only [Region.seqB, Bool.and_eq_true, decide_eq_true_eq] at hs
    refine ⟨fun h0 => (by rw [hs.1] at h0; cases h0), fun i hi => ?_⟩
    rw [hs.1] at hi
    have hin : i = n := by simpa using hi
    subst hin
    rw [if_pos rfl]
    intro w1 hw1
    have hs' : Region.seqB .any l.toArray (l.drop i).length i listed = true := by
      rw [hd]; simp only [Region.seqB, Bool.and_eq_true, decide_eq_true_eq]; exact hs
    have := wpAny_of_seq (P := P) (md := .any) (Q' := Q) (l.drop i) i listed a' w1 (fun j => by simp [List.getElem?_drop]) hs' (hL w1 hw1)
    rw [hd] at this
    exact this.2 i (by rw [hs.1]; simp)
end
end Go.Proofs.YtdidnlkilleljaaGreatDoor
