/- Joined by mkmerged.py: Km. -/
import Derived.Deep.Quiet
import Derived.StillTail
/- Km, what a claim needs of it (prune.py). -/
namespace Go.Proofs.YtifiipmmgnmciaaGreatDoor
open Go
section
variable {P : Program} {ops : Array Oper} {Q : Exit → Act → World → Prop} {C : World → Prop}
def mover (o : Oper) : Bool := o.guard.isNone && match o.op with
  | .move _ => true
  | .assign _ => true
  | .extract _ _ => true
  | _ => false
theorem mover_yields {o : Oper} {v : Value} {a : Act} (h : mover o = true) (w0 : World) (h0 : C w0) (hy : YieldsIn P ops C o v a) : Yields P ops o v a := by
  simp only [mover, Bool.and_eq_true, Option.isNone_iff_eq_none] at h
  obtain ⟨hg, h⟩ := h
  have hw : Region.wanted o (yielded ops a.tmps) = true := by simp [Region.wanted, hg]
  rcases hy with ⟨_, hy⟩ | ⟨hn, _⟩
  · refine .inl ⟨hw, fun w => ?_⟩
    have h1 := hy w0 h0
    unfold Oper.quietAt at h1
    revert h h1
    unfold execOp
    cases hop : o.op <;> simp only [Bool.false_eq_true, false_implies, true_implies]
    case move x => intro h1; simp only [Sem.run_pure, Oper.quietUpon] at h1 ⊢; rw [h1.2]
    case assign x => intro h1; simp only [Sem.run_pure, Oper.quietUpon] at h1 ⊢; rw [h1.2]
    case extract t ix =>
      intro h1
      generalize a.eval t = x at h1 ⊢
      unfold Instr.extract at h1 ⊢
      cases x <;> try (simp [stuck, Oper.quietUpon, Result.andThen] at h1)
      case tuple vs =>
        cases hv : vs[ix]? with
        | none => rw [hv] at h1; simp at h1
        | some u => rw [hv] at h1; simp at h1; subst h1; simp [hv]
  · rw [hw] at hn; cases hn
def wpAnyM (P : Program) (ops : Array Oper) (Q : Exit → Act → World → Prop) (C : World → Prop) (n : Nat) : Nat → Array Bool → Act → Prop
  | 0, _, _ => False
  | f + 1, listed, a => Region.ready .any ops listed ≠ [] ∧ ∀ i ∈ Region.ready .any ops listed,
      if i = n then ∀ w, C w → wpOp P ops Q n (wpAny P .any ops Q f (listed.setIfInBounds n true)) a w
      else qOp P ops C i (wpAnyM P ops Q C n f (listed.setIfInBounds i true)) a
theorem wpAny_of_M {n : Nat} : ∀ (f : Nat) (listed : Array Bool) (a : Act) (w : World), C w → wpAnyM P ops Q C n f listed a → wpAny P .any ops Q f listed a w
  | 0, _, _, _, _, h => h.elim
  | f + 1, listed, a, w, hw, h => ⟨fun h0 => absurd h0 h.1, fun i hi => by
      have h1 := h.2 i hi
      by_cases e : i = n
      · subst e; rw [if_pos rfl] at h1; exact h1 w hw
      · rw [if_neg e] at h1; exact wpOp_of_qOp hw (fun a' w' hw' h' => wpAny_of_M f _ a' w' hw' h') h1⟩
def leads (ops : Array Oper) (n : Nat) : Nat → Nat → Bool
  | 0, _ => false
  | f + 1, i => Region.waitsFor .any ops n i || (List.range n).any fun j => decide (i < j) && Region.waitsFor .any ops j i && leads ops n f j
def Closed (ops : Array Oper) (listed : Array Bool) : Prop := ∀ j oj, ops[j]? = some oj → listed.getD j false = true → ∀ e ∈ oj.after, Region.binds .any e = true → listed.getD e.on false = true
theorem Closed.set {listed : Array Bool} {i : Nat} (inv : Closed ops listed) (hi : i ∈ Region.ready .any ops listed) : Closed ops (listed.setIfInBounds i true) := by
  obtain ⟨_, oi, hoi, hall⟩ := mem_ready.1 hi
  intro j oj hj hl e he hb
  by_cases hij : i = j
  · subst hij
    have : oj = oi := Option.some.inj (hj.symm.trans hoi)
    subst this
    exact getD_set_true (hall e he hb)
  · rw [getD_set_ne false hij] at hl
    exact getD_set_true (inv j oj hj hl e he hb)
theorem leads_listed {n : Nat} {listed : Array Bool} (hc : Closed ops listed) (hn : n ∈ Region.ready .any ops listed) : ∀ (f i : Nat), leads ops n f i = true → listed.getD i false = true
  | 0, _, h => by simp [leads] at h
  | f + 1, i, h => by
    simp only [leads, Bool.or_eq_true] at h
    rcases h with h | h
    · obtain ⟨o, ho, e, he, hb, hon⟩ := Region.waitsFor_spec h
      obtain ⟨_, o', ho', hall⟩ := mem_ready.1 hn
      have : o = o' := Option.some.inj (ho.symm.trans ho')
      subst this
      rw [← hon]; exact hall e he hb
    · obtain ⟨j, _, hj⟩ := List.any_eq_true.1 h
      simp only [Bool.and_eq_true] at hj
      have hl := leads_listed hc hn f j hj.2
      obtain ⟨o, ho, e, he, hb, hon⟩ := Region.waitsFor_spec hj.1.2
      rw [← hon]; exact hc j o ho hl e he hb
theorem wpAnyM_first {n i : Nat} {oi : Oper} {v : Value} (hi : ops[i]? = some oi) (hsel : ∀ (j : Nat) (o : Oper) cs b, ops[j]? = some o → o.op ≠ .select cs b)
    (hQ : ∀ c a w, Q (.panic c) (a.put oi.dst v) w → Q (.panic c) a w) (hin : i ≠ n) (w0 : World) (hw0 : C w0)
    (fl : Nat) (hk : leads ops n fl i = true ∨ mover oi = true) :
    ∀ (f : Nat) (listed : Array Bool) (a : Act), Closed ops listed →
      (∀ j oj, ops[j]? = some oj → j ≠ i → listed.getD j true = false → (∀ e ∈ oj.after, Region.binds .any e = true → e.on ≠ i) → oi.apart ops oj = true) →
      i ∈ Region.ready .any ops listed → YieldsIn P ops C oi v a →
      wpAnyM P ops Q C n f (listed.setIfInBounds i true) (a.put oi.dst v) → wpAnyM P ops Q C n (f + 1) listed a := by
  intro f
  induction f with
  | zero => intro listed a _ _ _ _ H; exact H.elim
  | succ f ih =>
    intro listed a hcl hfree hr hy H
    have hun := (mem_ready.1 hr).1
    refine ⟨fun h => (by rw [h] at hr; cases hr), fun j hj => ?_⟩
    obtain ⟨hjun, oj, hoj, hall⟩ := mem_ready.1 hj
    by_cases hji : j = i
    · subst hji
      rw [if_neg hin]
      exact hy.qOp hi H
    have hnot : ∀ e ∈ oj.after, Region.binds .any e = true → e.on ≠ i := fun e he hb heq => by
      have h1 := hall e he hb
      rw [heq, getD_both hun] at h1
      cases h1
    have hap := hfree j oj hoj hji hjun hnot
    have hfree' : ∀ k ok, ops[k]? = some ok → k ≠ i → (listed.setIfInBounds j true).getD k true = false →
        (∀ e ∈ ok.after, Region.binds .any e = true → e.on ≠ i) → oi.apart ops ok = true := fun k ok hk hki hun hno => by
      refine hfree k ok hk hki ?_ hno
      by_cases hjk : j = k
      · subst hjk; exact hjun
      · rw [getD_set_ne true hjk] at hun; exact hun
    have h1 := H.2 j (ready_mono hj hji)
    by_cases hjn : j = n
    · subst hjn
      rw [if_pos rfl] at h1 ⊢
      intro w hw
      have hm : mover oi = true := by
        rcases hk with hk | hk
        · have := leads_listed hcl hj fl i hk
          rw [getD_both hun] at this
          cases this
        · exact hk
      have hY := mover_yields hm w0 hw0 hy
      have h2 := wpOp_put hoj hap (fun cs b => hsel i oi cs b hi) (fun cs b => hsel j oj cs b hoj) hQ hY (h1 w hw)
      refine wpOp_mono (fun a' w' h3 => wpAny_first hi hsel hQ f _ a' w' hfree' (ready_mono hr (Ne.symm hji)) h3.1 ?_) h2
      rw [Array.setIfInBounds_comm _ _ hji]
      exact h3.2
    · rw [if_neg hjn] at h1 ⊢
      have h2 := qOp_put hoj hap (fun cs b => hsel i oi cs b hi) (fun cs b => hsel j oj cs b hoj) hy h1
      refine qOp_mono (fun a' h3 => ih (listed.setIfInBounds j true) a' (hcl.set hj) hfree' (ready_mono hr (Ne.symm hji)) h3.1 ?_) h2
      rw [Array.setIfInBounds_comm _ _ hji]
      exact h3.2
def headB (ops : Array Oper) (n : Nat) : Bool := (List.range n).all fun i => ((ops[i]?).map mover).getD false || leads ops n n i
def mixB (ops : Array Oper) (n : Nat) : Bool :=
  Region.noSelect ops && decide (n < ops.size) && headB ops n && Region.lexHead .any ops (ops.size - n) n 0 (Array.replicate ops.size false)
theorem wpAnyM_lex {n g : Nat} {Lq : Act → Prop} (hsel : Region.noSelect ops = true) (hh : headB ops n = true)
    (hQ : ∀ c a d v w, Q (.panic c) (a.put d v) w → Q (.panic c) a w) (w0 : World) (hw0 : C w0)
    (hend : ∀ listed a, Region.seqB .any ops (g + 1) n listed = true → Lq a → wpAnyM P ops Q C n (g + 1) listed a) :
    ∀ (l : List Oper) (k : Nat) (listed : Array Bool) (a : Act), Closed ops listed → (∀ j, j < l.length → l[j]? = ops[k + j]?) → k + l.length = n →
    Region.lexHead .any ops (g + 1) l.length k listed = true → wpQuiet P ops C Lq l a → wpAnyM P ops Q C n (l.length + (g + 1)) listed a
  | [], k, listed, a, _, _, hk, hB, h => by
    have : k = n := by simpa using hk
    subst this
    rw [show ([] : List Oper).length + (g + 1) = g + 1 by simp]
    exact hend listed a (by simpa [Region.lexHead] using hB) h
  | o :: l, k, listed, a, hcl, hl, hk, hB, h => by
    have h0 : ops[k]? = some o := by simpa using (hl 0 (by simp)).symm
    simp only [List.length_cons, Region.lexHead, Bool.and_eq_true] at hB
    obtain ⟨⟨hr, hf⟩, hB'⟩ := hB
    have hkn : k < n := by simp only [List.length_cons] at hk; omega
    have hr' : k ∈ Region.ready .any ops listed := by simpa using hr
    have hst : qOp P ops C k (wpQuiet P ops C Lq l) a := by unfold qOp; simp only [h0]; exact h
    obtain ⟨v, hy, hK⟩ := yieldsIn_of_qOp h0 hst
    have hk' : leads ops n n k = true ∨ mover o = true := by
      have := List.all_eq_true.1 hh k (List.mem_range.2 hkn)
      simpa [h0, or_comm] using this
    rw [show (o :: l).length + (g + 1) = (l.length + (g + 1)) + 1 by simp only [List.length_cons]; omega]
    exact wpAnyM_first h0 (Region.noSelect_spec hsel) (fun c a w => hQ c a _ _ w) (by omega) w0 hw0 n hk' (l.length + (g + 1)) listed a hcl (Region.free_spec h0 hf) hr' hy
      (wpAnyM_lex hsel hh hQ w0 hw0 hend l (k + 1) _ _ (hcl.set hr') (fun j hj => by have := hl (j + 1) (by simp; omega); simpa [Nat.add_assoc, Nat.add_comm 1 j] using this) (by simp only [List.length_cons] at hk; omega) hB' hK)
theorem wp_region_mix {id : Nat} {a : Act} {w : World} {l : List Oper} (n : Nat) (hm : P.follows .mixedOrders = true) (hB : mixB l.toArray n = true)
    (hQ : ∀ c a d v w, Q (.panic c) (a.put d v) w → Q (.panic c) a w) (hC : C w.drew)
    (h : wpQuiet P l.toArray C (fun a' => ∀ w', C w' → wpList P l.toArray Q (l.drop n) a' w') (l.take n) a) : (Code.region id l.toArray true).wp P Q a w := by
  simp only [mixB, Bool.and_eq_true, decide_eq_true_eq] at hB
  obtain ⟨⟨⟨hsel, hn⟩, hh⟩, hlex⟩ := hB
  have hn' : n < l.length := by simpa using hn
  have htl : (l.take n).length = n := by simp; omega
  obtain ⟨g, hg⟩ : ∃ g, l.toArray.size - n = g + 1 := ⟨l.toArray.size - n - 1, by simp at hn ⊢; omega⟩
  rw [hg] at hlex
  refine wp_region_any hm (wpAny_of_M (C := C) (n := n) _ _ _ _ hC ?_)
  have H := wpAnyM_lex (P := P) (Q := Q) (C := C) (g := g) hsel hh hQ _ hC (fun listed a' hs hL => ?_) (l.take n) 0 _ a (fun j oj _ hl => (by rw [getD_replicate_false] at hl; cases hl)) (fun j hj => by
    have hj' : j < n := by rw [htl] at hj; exact hj
    simp [hj']) (by simpa using htl) (by rw [htl]; exact hlex) h
  · rw [htl, show n + (g + 1) = l.toArray.size by omega] at H
    exact H
  · have hd : (l.drop n).length = g + 1 := by simp at hg ⊢; omega
    simp only [Region.seqB, Bool.and_eq_true, decide_eq_true_eq] at hs
    refine ⟨fun h0 => (by rw [hs.1] at h0; cases h0), fun i hi => ?_⟩
    rw [hs.1] at hi
    have hin : i = n := by simpa using hi
    subst hin
    rw [if_pos rfl]
    intro w1 hw1
    have hs' : Region.seqB .any l.toArray (l.drop i).length i listed = true := by
      rw [hd]; simp only [Region.seqB, Bool.and_eq_true, decide_eq_true_eq]; exact hs
    have := wpAny_of_seq (P := P) (md := .any) (Q' := Q) (l.drop i) i listed a' w1 (fun j => by simp [List.getElem?_drop]) hs' (hL w1 hw1)
    rw [hd] at this
    exact this.2 i (by rw [hs.1]; simp)
theorem wp_region_cls {id : Nat} {a : Act} {w : World} {l : List Oper} (hm : P.follows .mixedOrders = true) (hB : Region.lexB .any l.toArray = true) (hC : C w.drew)
    (h : wpQuiet P l.toArray C (fun a' => ∀ w', C w' → Q .normal a' w') l a) : (Code.region id l.toArray true).wp P Q a w :=
  wp_region_quiet (C := C) hm hB hC (by simpa using h)
end
end Go.Proofs.YtifiipmmgnmciaaGreatDoor
