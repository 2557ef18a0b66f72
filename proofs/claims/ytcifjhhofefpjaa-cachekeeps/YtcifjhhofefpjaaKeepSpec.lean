/- What a cache keeps: the plain law behind CacheKeeps. -/
import Derived.Test.YtcifjhhofefpjaaCaSpec
namespace Go.Proofs.Ytcifjhhofefpjaa.Ca
set_option linter.unusedVariables false
abbrev ThB := Th ByteArray
/-- what the law's two maps say of a cache -/
structure Keep (l : List ThB) (pm : ByteArray → Nat) (la : ByteArray → ByteArray) : Prop where
  at_ : ∀ y ∈ l, pm y.k = y.p ∧ la y.k = y.v
  off : ∀ k, (∀ y ∈ l, y.k ≠ k) → pm k = 0
  apart : l.Pairwise (fun x y => x.k ≠ y.k)
def upd {β : Type} (f : ByteArray → β) (k : ByteArray) (v : β) : ByteArray → β := fun x => if x = k then v else f x
theorem upd_same {β : Type} (f : ByteArray → β) (k : ByteArray) (v : β) : upd f k v k = v := if_pos rfl
theorem upd_other {β : Type} (f : ByteArray → β) {k x : ByteArray} (v : β) (h : x ≠ k) : upd f k v x = f x := if_neg h
theorem apart_parts {a b : List ThB} {x : ThB} (h : (a ++ x :: b).Pairwise (fun x y => x.k ≠ y.k)) : (∀ y ∈ a ++ b, y.k ≠ x.k) ∧ (a ++ b).Pairwise (fun x y => x.k ≠ y.k) := by
  rw [List.pairwise_append] at h
  obtain ⟨ha, hb, hab⟩ := h
  rw [List.pairwise_cons] at hb
  refine ⟨fun y hy => ?_, ?_⟩
  · rcases List.mem_append.1 hy with hy | hy
    · exact hab y hy x (by simp)
    · exact (hb.1 y hy).symm
  · rw [List.pairwise_append]
    exact ⟨ha, hb.2, fun z hz u hu => hab z hz u (by simp [hu])⟩
theorem apart_snoc {l : List ThB} {x : ThB} (h : l.Pairwise (fun x y => x.k ≠ y.k)) (hx : ∀ y ∈ l, y.k ≠ x.k) : (l ++ [x]).Pairwise (fun x y => x.k ≠ y.k) := by
  rw [List.pairwise_append]
  refine ⟨h, by simp, fun z hz u hu => ?_⟩
  rw [List.mem_singleton.1 hu]
  exact hx z hz
theorem mem_mid3 {a b : List ThB} {x y : ThB} : y ∈ a ++ x :: b ↔ y = x ∨ y ∈ a ++ b := by
  simp only [List.mem_append, List.mem_cons]
  constructor
  · rintro (h | h | h)
    · exact .inr (.inl h)
    · exact .inl h
    · exact .inr (.inr h)
  · rintro (h | h | h)
    · exact .inr (.inl h)
    · exact .inl h
    · exact .inr (.inr h)
theorem mem_snoc {l : List ThB} {x y : ThB} : y ∈ l ++ [x] ↔ y = x ∨ y ∈ l := by
  simp only [List.mem_append, List.mem_singleton]
  exact Or.comm
theorem at_some {k : ByteArray} {l a b : List ThB} {x : ThB} (h : at_ k l = some (a, x, b)) : l = a ++ x :: b ∧ x.k = k := ⟨(part_some h).1, has_iff.1 (part_some h).2.1⟩
theorem at_none {k : ByteArray} {l : List ThB} (h : at_ k l = none) : ∀ y ∈ l, y.k ≠ k := fun y hy => has_not.1 (part_none h y hy)
section
variable {l : List ThB} {pm : ByteArray → Nat} {la : ByteArray → ByteArray}
theorem Keep.nil : Keep [] (fun _ => 0) (fun _ => ⟨#[]⟩) := ⟨(fun y hy => by cases hy), fun _ _ => rfl, List.Pairwise.nil⟩
/-- a thing that turns in its place, or comes to the end, with its key -/
theorem Keep.moved {a b : List ThB} {x : ThB} (h : Keep (a ++ x :: b) pm la) (x' : ThB) (hk : x'.k = x.k) : Keep (a ++ b ++ [x']) (upd pm x.k x'.p) (upd la x.k x'.v) where
  at_ := fun y hy => by
    rcases mem_snoc.1 hy with rfl | hy
    · rw [hk]; exact ⟨upd_same _ _ _, upd_same _ _ _⟩
    · have hne := (apart_parts h.apart).1 y hy
      rw [upd_other _ _ hne, upd_other _ _ hne]
      exact h.at_ y (mem_mid3.2 (.inr hy))
  off := fun k hn => by
    have hkx : k ≠ x.k := fun e => hn x' (mem_snoc.2 (.inl rfl)) (by rw [hk, e])
    rw [upd_other _ _ hkx]
    refine h.off k (fun y hy => ?_)
    rcases mem_mid3.1 hy with rfl | hy
    · exact hkx.symm
    · exact hn y (mem_snoc.2 (.inr hy))
  apart := apart_snoc (apart_parts h.apart).2 (fun y hy => by rw [hk]; exact (apart_parts h.apart).1 y hy)
theorem Keep.perm {l' : List ThB} (h : Keep l pm la) (hp : l.Perm l') : Keep l' pm la :=
  ⟨fun y hy => h.at_ y (hp.mem_iff.2 hy), fun k hn => h.off k (fun y hy => hn y (hp.mem_iff.1 hy)), (hp.pairwise_iff (fun {a b} (h : a.k ≠ b.k) => h.symm)).1 h.apart⟩
theorem perm_mid (a b : List ThB) (x : ThB) : (a ++ b ++ [x]).Perm (a ++ x :: b) := by
  have h1 : (a ++ b ++ [x]).Perm (x :: (a ++ b)) := List.perm_append_singleton x (a ++ b)
  have h2 : (a ++ x :: b).Perm (x :: (a ++ b)) := List.perm_middle
  exact h1.trans h2.symm
theorem upd_self {β : Type} (f : ByteArray → β) (k : ByteArray) {v : β} (h : f k = v) : upd f k v = f := by
  funext x
  unfold upd
  split
  · rename_i e; rw [e, h]
  · rfl
theorem Keep.gone {a b : List ThB} {x : ThB} (h : Keep (a ++ x :: b) pm la) (hp : x.p = 0) : Keep (a ++ b) pm la where
  at_ := fun y hy => h.at_ y (mem_mid3.2 (.inr hy))
  off := fun k hn => by
    by_cases e : k = x.k
    · rw [e, (h.at_ x (mem_mid3.2 (.inl rfl))).1, hp]
    · refine h.off k (fun y hy => ?_)
      rcases mem_mid3.1 hy with rfl | hy
      · exact fun e' => e e'.symm
      · exact hn y hy
  apart := (apart_parts h.apart).2
theorem Keep.come (h : Keep l pm la) (k v : ByteArray) (hn : ∀ y ∈ l, y.k ≠ k) : Keep (l ++ [⟨k, v, 0⟩]) pm (upd la k v) where
  at_ := fun y hy => by
    rcases mem_snoc.1 hy with rfl | hy
    · exact ⟨h.off k hn, upd_same _ _ _⟩
    · rw [upd_other _ _ (hn y hy)]; exact h.at_ y hy
  off := fun k' hn' => h.off k' (fun y hy => hn' y (mem_snoc.2 (.inr hy)))
  apart := apart_snoc h.apart hn
theorem keep_put {most : Nat} {k v : ByteArray} (h : Keep l pm la) : ((put most l k v).2 = 0 ∧ Keep (put most l k v).1 pm (upd la k v)) ∨ ((put most l k v).2 = 41 ∧ (put most l k v).1 = l) := by
  unfold put
  cases hat : at_ k l with
  | some z =>
    obtain ⟨a, x, b⟩ := z
    obtain ⟨rfl, rfl⟩ := at_some hat
    refine .inl ⟨rfl, ?_⟩
    have := h.moved ⟨x.k, v, x.p⟩ rfl
    rw [upd_self pm x.k (h.at_ x (mem_mid3.2 (.inl rfl))).1] at this
    exact this
  | none =>
    have hn := at_none hat
    by_cases hlt : l.length < most
    · simp only [if_pos hlt]
      exact .inl ⟨trivial, h.come k v hn⟩
    · simp only [if_neg hlt]
      cases hfr : Ca.part free_ l with
      | some z =>
        obtain ⟨a, x, b⟩ := z
        obtain ⟨rfl, hx, _⟩ := part_some hfr
        exact .inl ⟨rfl, (h.gone (free_iff.1 hx)).come k v (fun y hy => hn y (mem_mid3.2 (.inr hy)))⟩
      | none => exact .inr ⟨rfl, rfl⟩
theorem keep_pin {k : ByteArray} (h : Keep l pm la) : ((pin l k).2 = 0 ∧ Keep (pin l k).1 (upd pm k (pm k + 1)) la) ∨ ((pin l k).2 = 17 ∧ (pin l k).1 = l) := by
  unfold pin
  cases hat : at_ k l with
  | some z =>
    obtain ⟨a, x, b⟩ := z
    obtain ⟨rfl, rfl⟩ := at_some hat
    refine .inl ⟨rfl, ?_⟩
    have := (h.moved ⟨x.k, x.v, x.p + 1⟩ rfl).perm (perm_mid a b _)
    rw [upd_self la x.k (h.at_ x (mem_mid3.2 (.inl rfl))).2] at this
    rw [(h.at_ x (mem_mid3.2 (.inl rfl))).1]
    exact this
  | none => exact .inr ⟨rfl, rfl⟩
theorem keep_unpin {k : ByteArray} (h : Keep l pm la) : ((unpin l k).2 = 0 ∧ pm k ≠ 0 ∧ Keep (unpin l k).1 (upd pm k (pm k - 1)) la) ∨ (((unpin l k).2 = 17 ∨ (unpin l k).2 = 43) ∧ (unpin l k).1 = l) := by
  unfold unpin
  cases hat : at_ k l with
  | some z =>
    obtain ⟨a, x, b⟩ := z
    obtain ⟨rfl, rfl⟩ := at_some hat
    by_cases hz : x.p = 0
    · simp only [if_pos hz]
      exact .inr ⟨.inr (by trivial), by trivial⟩
    · simp only [if_neg hz]
      have := (h.moved ⟨x.k, x.v, x.p - 1⟩ rfl).perm (perm_mid a b _)
      rw [upd_self la x.k (h.at_ x (mem_mid3.2 (.inl rfl))).2] at this
      rw [(h.at_ x (mem_mid3.2 (.inl rfl))).1]
      exact .inl ⟨trivial, hz, this⟩
  | none => exact .inr ⟨.inl rfl, rfl⟩
theorem keep_drop {k : ByteArray} (h : Keep l pm la) : ((drop l k).2 = 0 ∧ pm k = 0 ∧ Keep (drop l k).1 pm la) ∨ (((drop l k).2 = 17 ∨ (drop l k).2 = 43) ∧ (drop l k).1 = l) := by
  unfold drop
  cases hat : at_ k l with
  | some z =>
    obtain ⟨a, x, b⟩ := z
    obtain ⟨rfl, rfl⟩ := at_some hat
    by_cases hz : x.p = 0
    · simp only [if_pos hz]
      exact .inl ⟨trivial, by rw [(h.at_ x (mem_mid3.2 (.inl rfl))).1, hz], h.gone hz⟩
    · simp only [if_neg hz]
      exact .inr ⟨.inr (by trivial), by trivial⟩
  | none => exact .inr ⟨.inl rfl, rfl⟩
theorem keep_get {k : ByteArray} (h : Keep l pm la) : Keep (Ca.get l k).1 pm la ∧ (((Ca.get l k).2 = some (la k) ∧ ∃ y ∈ l, y.k = k) ∨ ((Ca.get l k).2 = none ∧ ∀ y ∈ l, y.k ≠ k)) := by
  unfold Ca.get
  cases hat : at_ k l with
  | some z =>
    obtain ⟨a, x, b⟩ := z
    obtain ⟨rfl, rfl⟩ := at_some hat
    exact ⟨h.perm (perm_mid a b x).symm, .inl ⟨congrArg some (h.at_ x (mem_mid3.2 (.inl rfl))).2.symm, x, mem_mid3.2 (.inl rfl), rfl⟩⟩
  | none => exact ⟨h, .inr ⟨rfl, at_none hat⟩⟩
/-- a key that is pinned is there -/
theorem Keep.there (h : Keep l pm la) {k : ByteArray} (hp : 0 < pm k) : ∃ y ∈ l, y.k = k := by
  refine Classical.byContradiction fun hn => ?_
  have := h.off k (fun y hy e => hn ⟨y, hy, e⟩)
  omega
end
end Go.Proofs.Ytcifjhhofefpjaa.Ca
