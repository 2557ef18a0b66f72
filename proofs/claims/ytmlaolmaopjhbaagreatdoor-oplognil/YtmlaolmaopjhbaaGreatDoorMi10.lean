/- Joined by mkmerged.py: GrSpec, GrMem. -/
import Derived.Test.YtmlaolmaopjhbaaGreatDoorMi02
import Derived.Test.YtmlaolmaopjhbaaGreatDoorMi03
import Derived.Shelf.GgClosure.Gives
/- GrSpec, what a claim needs of it (prune.py). -/
namespace Go.Proofs.YtmlaolmaopjhbaaGreatDoor.Gr
set_option linter.unusedVariables false
def find (l : List Tg) (s : ByteArray) : Option Tg := l.find? fun t => decide (t.n = s)
def isT (l : List Tg) (s : ByteArray) : Bool := (find l s).isSome
theorem isT_iff {l : List Tg} {s : ByteArray} : isT l s = true ↔ ∃ t ∈ l, t.n = s := by simp [isT, find]
theorem isT_no {l : List Tg} {s : ByteArray} : isT l s = false ↔ ∀ t ∈ l, t.n ≠ s := by
  rw [← Bool.not_eq_true, isT_iff]; simp
theorem find_some {l : List Tg} {s : ByteArray} {t : Tg} (h : find l s = some t) : t ∈ l ∧ t.n = s := by
  refine ⟨List.mem_of_find?_eq_some h, ?_⟩
  simpa using List.find?_some h
theorem find_none {l : List Tg} {s : ByteArray} (h : find l s = none) : ∀ t ∈ l, t.n ≠ s := by
  intro t ht e
  have := List.find?_eq_none.1 h t ht
  simp [e] at this
def firstE (f : Nat → Int) : Nat → Int
  | 0 => 0
  | n + 1 => if firstE f n ≠ 0 then firstE f n else f n
theorem firstE_none {f : Nat → Int} : ∀ {n : Nat}, (∀ j, j < n → f j = 0) → firstE f n = 0
  | 0, _ => rfl
  | n + 1, h => by rw [firstE, firstE_none (fun j hj => h j (by omega)), if_neg (by simp), h n (by omega)]
theorem firstE_hit {f : Nat → Int} {k : Nat} (h : ∀ j, j < k → f j = 0) (hk : f k ≠ 0) : ∀ {n : Nat}, k < n → firstE f n = f k
  | 0, hn => by omega
  | n + 1, hn => by
    rcases Nat.lt_or_ge k n with h1 | h1
    · have := firstE_hit h hk h1
      rw [firstE, this, if_pos hk]
    · obtain rfl : k = n := by omega
      rw [firstE, firstE_none h, if_neg (by simp)]
theorem firstE_zero {f : Nat → Int} : ∀ {n : Nat}, firstE f n = 0 → ∀ j, j < n → f j = 0
  | 0, _, j, hj => by omega
  | n + 1, h, j, hj => by
    rw [firstE] at h
    split at h
    · contradiction
    · rename_i h1
      have h1 : firstE f n = 0 := by omega
      rcases Nat.lt_or_ge j n with h2 | h2
      · exact firstE_zero h1 j h2
      · obtain rfl : j = n := by omega
        exact h
def has (l : List ByteArray) (s : ByteArray) : Bool := l.any fun x => decide (x = s)
theorem has_iff {l : List ByteArray} {s : ByteArray} : has l s = true ↔ s ∈ l := by simp [has]
theorem has_no {l : List ByteArray} {s : ByteArray} : has l s = false ↔ s ∉ l := by rw [← Bool.not_eq_true, has_iff]
def dup (l : List ByteArray) : Bool := !decide l.Nodup
theorem nodup_next {l : List ByteArray} {k : Nat} (hk : k < l.length) (h : (l.take k).Nodup) (hn : l[k] ∉ l.take k) : (l.take (k + 1)).Nodup := by
  rw [List.take_succ_eq_append_getElem hk, List.nodup_append]
  refine ⟨h, by simp, fun a ha b hb e => ?_⟩
  simp at hb; subst hb; subst e; exact hn ha
theorem dup_hit {l : List ByteArray} {k : Nat} (hk : k < l.length) (hn : l[k] ∈ l.take k) : dup l = true := by
  simp only [dup, Bool.not_eq_true', decide_eq_false_iff_not]
  intro h
  have h2 : l = l.take k ++ l[k] :: l.drop (k + 1) := by
    conv => lhs; rw [← List.take_append_drop k l, List.drop_eq_getElem_cons hk]
  rw [h2, List.nodup_append] at h
  exact h.2.2 _ hn _ (List.mem_cons_self ..) rfl
theorem dup_none {l : List ByteArray} (h : (l.take l.length).Nodup) : dup l = false := by
  rw [List.take_length] at h
  simp [dup, h]
section
variable (nameE pathE parseE : ByteArray → Int)
def alone (t : Tg) : Int :=
  if parseE t.c ≠ 0 then parseE t.c
  else if 12 < t.ds.length ∨ 32 < t.ss.length then 15
  else if dup t.ds = true ∨ dup t.ss = true then 16
  else if ∃ s ∈ t.ss, pathE s ≠ 0 then 13
  else 0
def errAt (l : List Tg) (k : Nat) : Int :=
  match l[k]? with
  | none => 0
  | some t => if nameE t.n ≠ 0 then nameE t.n else if isT (l.take k) t.n = true then 16 else alone pathE parseE t
def ready (out : List ByteArray) (t : Tg) : Bool := !has out t.n && t.ds.all (fun d => has out d)
def stage (l : List Tg) : Nat → List ByteArray
  | 0 => []
  | k + 1 => match l.find? (ready (stage l k)) with
    | none => stage l k
    | some t => stage l k ++ [t.n]
def order (l : List Tg) : List ByteArray := stage l l.length
def check (l : List Tg) : Int :=
  if 12 < l.length then 15
  else if firstE (errAt nameE pathE parseE l) l.length ≠ 0 then firstE (errAt nameE pathE parseE l) l.length
  else if ∃ t ∈ l, ∃ d ∈ t.ds, isT l d = false then 30
  else if (order l).length < l.length then 31
  else 0
end
theorem ready_iff {out : List ByteArray} {t : Tg} : ready out t = true ↔ t.n ∉ out ∧ ∀ d ∈ t.ds, d ∈ out := by
  simp only [ready, Bool.and_eq_true, Bool.not_eq_true', has_no, List.all_eq_true, has_iff]
theorem stage_next {l : List Tg} {k : Nat} {t : Tg} (h : l.find? (ready (stage l k)) = some t) : stage l (k + 1) = stage l k ++ [t.n] := by
  rw [stage, h]
theorem stage_stop {l : List Tg} {k : Nat} (h : l.find? (ready (stage l k)) = none) : ∀ m, stage l (k + m) = stage l k
  | 0 => rfl
  | m + 1 => by rw [← Nat.add_assoc, stage, stage_stop h m, h]
theorem stage_ok (l : List Tg) : ∀ k, (stage l k).Nodup ∧ stage l k ⊆ l.map Tg.n
  | 0 => ⟨by simp [stage], by simp [stage]⟩
  | k + 1 => by
    obtain ⟨h1, h2⟩ := stage_ok l k
    rw [stage]
    split
    · exact ⟨h1, h2⟩
    · rename_i t ht
      have hr := ready_iff.1 (List.find?_some ht)
      have hm := List.mem_of_find?_eq_some ht
      refine ⟨?_, ?_⟩
      · rw [List.nodup_append]
        refine ⟨h1, by simp, fun a ha b hb e => ?_⟩
        simp at hb; subst hb; subst e; exact hr.1 ha
      · intro x hx
        rcases List.mem_append.1 hx with hx | hx
        · exact h2 hx
        · simp at hx; subst hx; exact List.mem_map_of_mem hm
theorem stage_le (l : List Tg) (k : Nat) : (stage l k).length ≤ l.length := by
  have h := stage_ok l k
  have := List.Nodup.length_le_of_subset h.1 h.2
  simpa using this
theorem order_of_stop {l : List Tg} {k : Nat} (hk : k ≤ l.length) (h : l.find? (ready (stage l k)) = none) : order l = stage l k := by
  have := stage_stop h (l.length - k)
  rw [Nat.add_sub_cancel' hk] at this
  exact this
theorem order_le (l : List Tg) : (order l).length ≤ l.length := stage_le l _
theorem order_end (l : List Tg) : l.find? (ready (order l)) = none := by
  have key : ∀ k, l.find? (ready (stage l k)) = none ∨ (stage l k).length = k := by
    intro k
    induction k with
    | zero => exact .inr rfl
    | succ k ih =>
      cases e : l.find? (ready (stage l k)) with
      | none => left; rw [stage_stop e 1]; exact e
      | some t =>
        right
        rw [stage_next e]
        rcases ih with h | h
        · rw [h] at e; cases e
        · simp [h]
  rcases key l.length with h | h
  · exact h
  · rw [List.find?_eq_none]
    intro t ht hr
    have hr := ready_iff.1 hr
    have h1 := stage_ok l l.length
    have hn : (stage l l.length ++ [t.n]).Nodup := by
      rw [List.nodup_append]
      refine ⟨h1.1, by simp, fun a ha b hb e => ?_⟩
      simp at hb; subst hb; subst e; exact hr.1 ha
    have hs : stage l l.length ++ [t.n] ⊆ l.map Tg.n := by
      intro x hx
      rcases List.mem_append.1 hx with hx | hx
      · exact h1.2 hx
      · simp at hx; subst hx; exact List.mem_map_of_mem ht
    have := List.Nodup.length_le_of_subset hn hs
    simp [h] at this
    omega
theorem stage_topo (l : List Tg) : ∀ k i x, (stage l k)[i]? = some x → ∃ t ∈ l, t.n = x ∧ ∀ d ∈ t.ds, d ∈ (stage l k).take i
  | 0, i, x, h => by simp [stage] at h
  | k + 1, i, x, h => by
    cases e : l.find? (ready (stage l k)) with
    | none =>
      have : stage l (k + 1) = stage l k := stage_stop e 1
      rw [this] at h ⊢
      exact stage_topo l k i x h
    | some t =>
      have e2 := stage_next e
      rw [e2] at h ⊢
      rcases Nat.lt_or_ge i (stage l k).length with hi | hi
      · rw [List.getElem?_append_left hi] at h
        obtain ⟨t', h1, h2, h3⟩ := stage_topo l k i x h
        refine ⟨t', h1, h2, fun d hd => ?_⟩
        rw [List.take_append_of_le_length (by omega)]
        exact h3 d hd
      · rw [List.getElem?_append_right hi] at h
        have hi2 : i = (stage l k).length := by
          rcases Nat.lt_or_ge (i - (stage l k).length) 1 with h1 | h1
          · omega
          · rw [List.getElem?_eq_none (by simpa using h1)] at h; cases h
        subst hi2
        simp at h
        have hr := ready_iff.1 (List.find?_some e)
        refine ⟨t, List.mem_of_find?_eq_some e, h, fun d hd => ?_⟩
        rw [List.take_left]
        exact hr.2 d hd
def Dep (l : List Tg) (x d : ByteArray) : Prop := ∃ t, find l x = some t ∧ d ∈ t.ds ∧ isT l d = true
inductive Reach (l : List Tg) (x : ByteArray) : ByteArray → Prop
  | one {d : ByteArray} : Dep l x d → Reach l x d
  | more {y d : ByteArray} : Reach l x y → Dep l y d → Reach l x d
theorem Reach.isT {l : List Tg} {x d : ByteArray} (h : Reach l x d) : isT l d = true := by
  cases h with
  | one h => exact h.choose_spec.2.2
  | more _ h => exact h.choose_spec.2.2
theorem Reach.from_ {l : List Tg} {x y d : ByteArray} (h1 : Dep l x y) (h : Reach l y d) : Reach l x d := by
  induction h with
  | one h => exact .more (.one h1) h
  | more _ h ih => exact .more ih h
theorem Reach.in_ {l : List Tg} {x : ByteArray} {S : ByteArray → Prop} (h0 : ∀ d, Dep l x d → S d) (h1 : ∀ y d, S y → Dep l y d → S d) {d : ByteArray} (h : Reach l x d) : S d := by
  induction h with
  | one h => exact h0 _ h
  | more _ h ih => exact h1 _ _ ih h
def pick (S : ByteArray → Bool) : List Tg → List ByteArray → List ByteArray
  | [], out => out
  | t :: l, out => pick S l (if S t.n = true ∧ has out t.n = false then out ++ [t.n] else out)
theorem mem_pick {S : ByteArray → Bool} {x : ByteArray} : ∀ (l : List Tg) (out : List ByteArray), x ∈ pick S l out ↔ x ∈ out ∨ (S x = true ∧ ∃ t ∈ l, t.n = x)
  | [], out => by simp [pick]
  | t :: l, out => by
    rw [pick, mem_pick l]
    split
    · rename_i h
      constructor
      · rintro (h1 | ⟨h1, t', h2, h3⟩)
        · rcases List.mem_append.1 h1 with h1 | h1
          · exact .inl h1
          · simp at h1; subst h1; exact .inr ⟨h.1, t, by simp, rfl⟩
        · exact .inr ⟨h1, t', by simp [h2], h3⟩
      · rintro (h1 | ⟨h1, t', h2, h3⟩)
        · exact .inl (by simp [h1])
        · rcases List.mem_cons.1 h2 with rfl | h2
          · exact .inl (by simp [h3])
          · exact .inr ⟨h1, t', h2, h3⟩
    · rename_i h
      constructor
      · rintro (h1 | ⟨h1, t', h2, h3⟩)
        · exact .inl h1
        · exact .inr ⟨h1, t', by simp [h2], h3⟩
      · rintro (h1 | ⟨h1, t', h2, h3⟩)
        · exact .inl h1
        · rcases List.mem_cons.1 h2 with rfl | h2
          · subst h3
            cases e : has out t'.n
            · exact absurd ⟨h1, e⟩ h
            · exact .inl (has_iff.1 e)
          · exact .inr ⟨h1, t', h2, h3⟩
open Classical in
noncomputable def below (l : List Tg) (x : ByteArray) : List ByteArray := pick (fun d => decide (Reach l x d)) l []
theorem mem_below {l : List Tg} {x d : ByteArray} : d ∈ below l x ↔ Reach l x d := by
  rw [below, mem_pick]
  simp only [List.not_mem_nil, false_or, decide_eq_true_eq]
  exact ⟨fun h => h.1, fun h => ⟨h, isT_iff.1 h.isT⟩⟩
def Before (p : List ByteArray) (d x : ByteArray) : Prop := ∃ i, d ∈ p.take i ∧ x ∉ p.take i
theorem take_mono {α : Type} {p : List α} {i j : Nat} (h : i ≤ j) {x : α} (hx : x ∈ p.take i) : x ∈ p.take j := by
  have : p.take i = (p.take j).take i := by rw [List.take_take, Nat.min_eq_left h]
  rw [this] at hx
  exact List.mem_of_mem_take hx
theorem Before.trans {p : List ByteArray} {a b c : ByteArray} (h1 : Before p a b) (h2 : Before p b c) : Before p a c := by
  obtain ⟨i, h3, h4⟩ := h1
  obtain ⟨j, h5, h6⟩ := h2
  rcases Nat.lt_or_ge i j with h | h
  · exact ⟨j, take_mono (by omega) h3, h6⟩
  · exact absurd (take_mono h h5) h4
theorem Before.irrefl {p : List ByteArray} {a : ByteArray} (h : Before p a a) : False := by
  obtain ⟨i, h1, h2⟩ := h
  exact h2 h1
theorem not_mem_take {p : List ByteArray} (h : p.Nodup) {i : Nat} {x : ByteArray} (hx : p[i]? = some x) : x ∉ p.take i := by
  intro hm
  obtain ⟨hi, rfl⟩ := List.getElem?_eq_some_iff.1 hx
  have h2 : p = p.take i ++ p[i] :: p.drop (i + 1) := by
    conv => lhs; rw [← List.take_append_drop i p, List.drop_eq_getElem_cons hi]
  rw [h2, List.nodup_append] at h
  exact h.2.2 _ hm _ (List.mem_cons_self ..) rfl
def place (l : List ByteArray) (s : ByteArray) : Int :=
  match l.findIdx? (fun x => decide (x = s)) with
  | some i => i
  | none => -1
theorem place_no {l : List ByteArray} {s : ByteArray} (h : s ∉ l) : place l s = -1 := by
  have : l.findIdx? (fun x => decide (x = s)) = none := by
    rw [List.findIdx?_eq_none_iff]
    intro x hx
    simp only [decide_eq_false_iff_not]
    rintro rfl
    exact h hx
  rw [place, this]
theorem place_hit {l : List ByteArray} {s : ByteArray} {i : Nat} (h : l[i]? = some s) (hn : s ∉ l.take i) : place l s = i := by
  obtain ⟨hi, e⟩ := List.getElem?_eq_some_iff.1 h
  have : l.findIdx? (fun x => decide (x = s)) = some i := by
    rw [List.findIdx?_eq_some_iff_getElem]
    refine ⟨hi, by simp [e], fun j hj => ?_⟩
    simp only [decide_eq_true_eq]
    intro e2
    exact hn (by rw [List.mem_take_iff_getElem]; exact ⟨j, by omega, e2⟩)
  rw [place, this]
theorem first_at {s : ByteArray} : ∀ {l : List ByteArray}, s ∈ l → ∃ i, l[i]? = some s ∧ s ∉ l.take i
  | a :: l, h => by
    by_cases e : a = s
    · exact ⟨0, by simp [e], by simp⟩
    · rcases List.mem_cons.1 h with h | h
      · exact absurd h.symm e
      · obtain ⟨i, h1, h2⟩ := first_at h
        exact ⟨i + 1, by simpa using h1, by simp; exact ⟨fun e2 => e e2.symm, h2⟩⟩
theorem place_mem {l : List ByteArray} {s : ByteArray} (h : s ∈ l) : 0 ≤ place l s := by
  obtain ⟨i, h1, h2⟩ := first_at h
  rw [place_hit h1 h2]; omega
theorem place_before {p : List ByteArray} {d x : ByteArray} (h : Before p d x) (hx : x ∈ p) : place p d < place p x := by
  obtain ⟨i, h1, h2⟩ := h
  have hd := List.mem_of_mem_take h1
  obtain ⟨a, h3, h4⟩ := first_at hd
  obtain ⟨b, h5, h6⟩ := first_at hx
  rw [place_hit h3 h4, place_hit h5 h6]
  have ha : a < i := by
    rcases Nat.lt_or_ge a i with h | h
    · exact h
    · exact absurd (take_mono h h1) h4
  have hb : i ≤ b := by
    rcases Nat.lt_or_ge b i with h | h
    · exfalso; apply h2
      obtain ⟨hbl, e⟩ := List.getElem?_eq_some_iff.1 h5
      rw [List.mem_take_iff_getElem]
      exact ⟨b, by omega, e⟩
    · exact h
  omega
structure Good (nameE pathE parseE : ByteArray → Int) (l : List Tg) : Prop where
  few : l.length ≤ 12
  name : ∀ t ∈ l, nameE t.n = 0
  alone : ∀ t ∈ l, alone pathE parseE t = 0
  apart : (l.map Tg.n).Nodup
  deps : ∀ t ∈ l, ∀ d ∈ t.ds, d ∈ l.map Tg.n
  sorted : ∃ p : List ByteArray, (∀ t ∈ l, t.n ∈ p) ∧ ∀ t ∈ l, ∀ d ∈ t.ds, Before p d t.n
theorem same_of_apart : ∀ {l : List Tg}, (l.map Tg.n).Nodup → ∀ {a b : Tg}, a ∈ l → b ∈ l → a.n = b.n → a = b
  | [], _, a, b, ha, _, _ => by cases ha
  | t :: l, h, a, b, ha, hb, e => by
    rw [List.map_cons, List.nodup_cons] at h
    rcases List.mem_cons.1 ha with ea | ha'
    · rcases List.mem_cons.1 hb with eb | hb'
      · rw [ea, eb]
      · exact absurd (List.mem_map_of_mem (f := Tg.n) hb') (by rw [← e, ea]; exact h.1)
    · rcases List.mem_cons.1 hb with eb | hb'
      · exact absurd (List.mem_map_of_mem (f := Tg.n) ha') (by rw [e, eb]; exact h.1)
      · exact same_of_apart h.2 ha' hb' e
theorem full_of {o names : List ByteArray} (h1 : o.Nodup) (h2 : o ⊆ names) (h3 : names.length ≤ o.length) : ∀ x ∈ names, x ∈ o := by
  intro x hx
  refine Classical.byContradiction fun hn => ?_
  have : (x :: o).Nodup := List.nodup_cons.2 ⟨hn, h1⟩
  have hl := List.Nodup.length_le_of_subset this (fun y hy => by
    rcases List.mem_cons.1 hy with rfl | hy
    · exact hx
    · exact h2 hy)
  simp at hl; omega
theorem order_ok (l : List Tg) : (order l).Nodup ∧ order l ⊆ l.map Tg.n := stage_ok l _
theorem order_behind {l : List Tg} (ha : (l.map Tg.n).Nodup) (hf : ¬ (order l).length < l.length) : (∀ t ∈ l, t.n ∈ order l) ∧ ∀ t ∈ l, ∀ d ∈ t.ds, Before (order l) d t.n := by
  have ho := order_ok l
  have h1 : ∀ t ∈ l, t.n ∈ order l := fun t ht => full_of ho.1 ho.2 (by simp; omega) _ (List.mem_map_of_mem ht)
  refine ⟨h1, fun t ht d hd => ?_⟩
  obtain ⟨i, h2, h3⟩ := first_at (h1 t ht)
  obtain ⟨t', h4, h5, h6⟩ := stage_topo l l.length i _ h2
  obtain rfl := same_of_apart ha h4 ht h5
  exact ⟨i, h6 d hd, h3⟩
theorem order_full {l : List Tg} (hd : ∀ t ∈ l, ∀ d ∈ t.ds, d ∈ l.map Tg.n) {p : List ByteArray} (h1 : ∀ t ∈ l, t.n ∈ p) (h2 : ∀ t ∈ l, ∀ d ∈ t.ds, Before p d t.n) : ∀ t ∈ l, t.n ∈ order l := by
  have key : ∀ i, ∀ t ∈ l, t.n ∈ p.take i → t.n ∈ order l := by
    intro i
    induction i with
    | zero => intro t _ h; simp at h
    | succ i ih =>
      intro t ht h
      refine Classical.byContradiction fun hn => ?_
      have hr : ready (order l) t = true := by
        rw [ready_iff]
        refine ⟨hn, fun d hdd => ?_⟩
        obtain ⟨j, h3, h4⟩ := h2 t ht d hdd
        have hj : j ≤ i := by
          rcases Nat.lt_or_ge i j with h5 | h5
          · exact absurd (take_mono h5 h) h4
          · exact h5
        obtain ⟨t', h6, rfl⟩ := List.mem_map.1 (hd t ht d hdd)
        exact ih t' h6 (take_mono hj h3)
      have := List.find?_eq_none.1 (order_end l) t ht
      exact this hr
  intro t ht
  exact key p.length t ht (by rw [List.take_length]; exact h1 t ht)
section
variable {nameE pathE parseE : ByteArray → Int} {l m : List Tg}
theorem errAt_at {k : Nat} (hk : k < l.length) : errAt nameE pathE parseE l k = if nameE l[k].n ≠ 0 then nameE l[k].n else if isT (l.take k) l[k].n = true then 16 else alone pathE parseE l[k] := by
  rw [errAt, List.getElem?_eq_getElem hk]
theorem errs_good (h : ∀ j, j < l.length → errAt nameE pathE parseE l j = 0) : (∀ t ∈ l, nameE t.n = 0) ∧ (∀ t ∈ l, alone pathE parseE t = 0) ∧ (l.map Tg.n).Nodup := by
  have h1 : ∀ k (hk : k < l.length), nameE l[k].n = 0 ∧ isT (l.take k) l[k].n = false ∧ alone pathE parseE l[k] = 0 := by
    intro k hk
    have := h k hk
    rw [errAt_at hk] at this
    split at this
    · contradiction
    · rename_i h1
      split at this
      · cases this
      · rename_i h2
        exact ⟨Classical.byContradiction h1, by simpa using h2, this⟩
  refine ⟨fun t ht => ?_, fun t ht => ?_, ?_⟩
  · obtain ⟨k, hk, rfl⟩ := List.mem_iff_getElem.1 ht
    exact (h1 k hk).1
  · obtain ⟨k, hk, rfl⟩ := List.mem_iff_getElem.1 ht
    exact (h1 k hk).2.2
  · have h2 : ∀ k, k ≤ l.length → ((l.map Tg.n).take k).Nodup := by
      intro k
      induction k with
      | zero => intro _; simp
      | succ k ih =>
        intro hk
        refine nodup_next (by rw [List.length_map]; omega) (ih (by omega)) ?_
        have := isT_no.1 (h1 k (by omega)).2.1
        rw [List.getElem_map, ← List.map_take]
        intro hm
        obtain ⟨t, ht, e⟩ := List.mem_map.1 hm
        exact this t ht e
    have := h2 l.length (Nat.le_refl _)
    rwa [List.take_of_length_le (by simp)] at this
theorem errs_of_good (h1 : ∀ t ∈ l, nameE t.n = 0) (h2 : ∀ t ∈ l, alone pathE parseE t = 0) (h3 : (l.map Tg.n).Nodup) : ∀ j, j < l.length → errAt nameE pathE parseE l j = 0 := by
  intro j hj
  have hm : l[j] ∈ l := List.getElem_mem hj
  rw [errAt_at hj, if_neg (by simp [h1 _ hm]), if_neg, h2 _ hm]
  intro h
  obtain ⟨t, ht, e⟩ := isT_iff.1 h
  have : (l.map Tg.n)[j]? = some l[j].n := by simp [hj]
  refine not_mem_take h3 this ?_
  rw [← List.map_take, ← e]
  exact List.mem_map_of_mem ht
theorem isT_map {d : ByteArray} : isT l d = false ↔ d ∉ l.map Tg.n := by
  rw [isT_no]
  constructor
  · intro h hm
    obtain ⟨t, ht, e⟩ := List.mem_map.1 hm
    exact h t ht e
  · intro h t ht e
    exact h (e ▸ List.mem_map_of_mem ht)
theorem check_good : check nameE pathE parseE l = 0 ↔ Good nameE pathE parseE l := by
  constructor
  · intro h
    rw [check] at h
    split at h
    · cases h
    · rename_i h12
      split at h
      · contradiction
      · rename_i he
        have he := errs_good (firstE_zero (Classical.byContradiction he))
        split at h
        · cases h
        · rename_i hd
          split at h
          · cases h
          · rename_i ho
            refine ⟨by omega, he.1, he.2.1, he.2.2, fun t ht d hdd => ?_, order l, order_behind he.2.2 ho⟩
            refine Classical.byContradiction fun hn => hd ⟨t, ht, d, hdd, isT_map.2 hn⟩
  · intro h
    obtain ⟨p, h1, h2⟩ := h.sorted
    have hf := order_full h.deps h1 h2
    have hl : l.length ≤ (order l).length := by
      have := List.Nodup.length_le_of_subset h.apart (fun x hx => by
        obtain ⟨t, ht, rfl⟩ := List.mem_map.1 hx
        exact hf t ht : l.map Tg.n ⊆ order l)
      simpa using this
    rw [check, if_neg (by have := h.few; omega), if_neg, if_neg, if_neg (by omega)]
    · rintro ⟨t, ht, d, hd, e⟩
      exact isT_map.1 e (h.deps t ht d hd)
    · rw [firstE_none (errs_of_good h.name h.alone h.apart)]; simp
theorem find_self (h : (l.map Tg.n).Nodup) {t : Tg} (ht : t ∈ l) : find l t.n = some t := by
  cases e : find l t.n with
  | none => exact absurd rfl (find_none e t ht)
  | some t' =>
    obtain ⟨h1, h2⟩ := find_some e
    rw [same_of_apart h h1 ht h2]
theorem behind (h : check nameE pathE parseE l = 0) : (order l).length = l.length ∧
    ∀ t ∈ l, 0 ≤ place (order l) t.n ∧ place (below l t.n) t.n < 0 ∧
      (∀ d ∈ t.ds, place (order l) d < place (order l) t.n ∧ 0 ≤ place (below l t.n) d) ∧
      ∀ d ∈ below l t.n, 0 ≤ place (order l) d ∧ place (order l) d < place (order l) t.n := by
  have hg := check_good.1 h
  obtain ⟨p, h1, h2⟩ := hg.sorted
  have hf := order_full hg.deps h1 h2
  have hl : l.length ≤ (order l).length := by
    have := List.Nodup.length_le_of_subset hg.apart (fun x hx => by
      obtain ⟨t, ht, rfl⟩ := List.mem_map.1 hx
      exact hf t ht : l.map Tg.n ⊆ order l)
    simpa using this
  have hb := (order_behind hg.apart (by omega)).2
  have hr : ∀ {x d}, Reach l x d → Before (order l) d x := by
    intro x d hr
    have hdep : ∀ {x d}, Dep l x d → Before (order l) d x := by
      rintro x d ⟨t, h3, h4, _⟩
      obtain ⟨h5, rfl⟩ := find_some h3
      exact hb t h5 d h4
    induction hr with
    | one h => exact hdep h
    | more _ h ih => exact (hdep h).trans ih
  refine ⟨by have := order_le l; omega, fun t ht => ⟨place_mem (hf t ht), ?_, fun d hd => ⟨place_before (hb t ht d hd) (hf t ht), ?_⟩, fun d hd => ?_⟩⟩
  · rw [place_no]
    · decide
    · intro hm
      exact (hr (mem_below.1 hm)).irrefl
  · refine place_mem (mem_below.2 (.one ⟨t, find_self hg.apart ht, hd, ?_⟩))
    have := hg.deps t ht d hd
    cases e : isT l d
    · exact absurd this (isT_map.1 e)
    · rfl
  · have hr1 := mem_below.1 hd
    have hm : d ∈ order l := by
      obtain ⟨t', ht', rfl⟩ := isT_iff.1 hr1.isT
      exact hf t' ht'
    exact ⟨place_mem hm, place_before (hr hr1) (hf t ht)⟩
end
end Go.Proofs.YtmlaolmaopjhbaaGreatDoor.Gr
namespace Go.Proofs.YtmlaolmaopjhbaaGreatDoor.Gr
set_option linter.unusedVariables false
structure Down (l : List Tg) (x : ByteArray) (S S' : List ByteArray) : Prop where
  more : ∀ y, y ∈ S → y ∈ S'
  right : ∀ y, y ∈ S' → y ∈ S ∨ Reach l x y
  own : ∀ d, Dep l x d → d ∈ S'
  closed : ∀ y, y ∈ S' → y ∉ S → ∀ d, Dep l y d → d ∈ S'
structure DownTo (l : List Tg) (x : ByteArray) (q : List ByteArray) (k : Nat) (S S' : List ByteArray) : Prop where
  more : ∀ y, y ∈ S → y ∈ S'
  right : ∀ y, y ∈ S' → y ∈ S ∨ Reach l x y
  own : ∀ d, d ∈ q.take k → isT l d = true → d ∈ S'
  closed : ∀ y, y ∈ S' → y ∉ S → ∀ d, Dep l y d → d ∈ S'
theorem DownTo.zero (l : List Tg) (x : ByteArray) (q S : List ByteArray) : DownTo l x q 0 S S :=
  ⟨fun _ h => h, fun _ h => .inl h, fun d h => by simp at h, fun y h1 h2 => absurd h1 h2⟩
theorem DownTo.skip {l : List Tg} {x : ByteArray} {q S S' : List ByteArray} {k : Nat} (h : DownTo l x q k S S') (hk : k < q.length) (hs : isT l q[k] = true → q[k] ∈ S') : DownTo l x q (k + 1) S S' :=
  ⟨h.more, h.right, fun d hd ht => by
    rw [List.take_succ_eq_append_getElem hk] at hd
    rcases List.mem_append.1 hd with hd | hd
    · exact h.own d hd ht
    · obtain rfl := List.mem_singleton.1 hd
      exact hs ht, h.closed⟩
theorem DownTo.step {l : List Tg} {x : ByteArray} {q S S' S2 : List ByteArray} {k : Nat} (h : DownTo l x q k S S') (hk : k < q.length) (hd : Dep l x q[k]) (h2 : Down l q[k] (q[k] :: S') S2) : DownTo l x q (k + 1) S S2 := by
  have hm : ∀ y, y ∈ S' → y ∈ S2 := fun y hy => h2.more y (List.mem_cons_of_mem _ hy)
  refine ⟨fun y hy => hm y (h.more y hy), fun y hy => ?_, fun d hq ht => ?_, fun y hy hn d hdep => ?_⟩
  · rcases h2.right y hy with h3 | h3
    · rcases List.mem_cons.1 h3 with rfl | h3
      · exact .inr (.one hd)
      · exact h.right y h3
    · exact .inr (h3.from_ hd)
  · rw [List.take_succ_eq_append_getElem hk] at hq
    rcases List.mem_append.1 hq with hq | hq
    · exact hm d (h.own d hq ht)
    · obtain rfl := List.mem_singleton.1 hq
      exact h2.more _ (List.mem_cons_self ..)
  · by_cases h4 : y ∈ q[k] :: S'
    · rcases List.mem_cons.1 h4 with rfl | h4
      · exact h2.own d hdep
      · exact hm d (h.closed y h4 hn d hdep)
    · exact h2.closed y hy h4 d hdep
theorem Down.below {l : List Tg} {x : ByteArray} {S' : List ByteArray} (h : Down l x [] S') : ∀ d, has S' d = true ↔ Reach l x d := fun d => by
  rw [has_iff]
  constructor
  · intro hd
    rcases h.right d hd with h1 | h1
    · cases h1
    · exact h1
  · exact fun hr => hr.in_ h.own (fun y d hy => h.closed y hy (by simp) d)
structure Bfs (l : List Tg) (x : ByteArray) (a q r : List ByteArray) : Prop where
  ok : ∀ y ∈ a, Reach l x y
  nd : a.Nodup
  okq : ∀ y ∈ q, isT l y = true → Reach l x y
  okr : ∀ y ∈ r, isT l y = true → Reach l x y
  c0 : ∀ d, Dep l x d → d ∈ a ∨ d ∈ q ∨ d ∈ r
  c1 : ∀ y ∈ a, ∀ d, Dep l y d → d ∈ a ∨ d ∈ q ∨ d ∈ r
theorem Bfs.start {l : List Tg} {x : ByteArray} {t : Tg} (h : find l x = some t) : Bfs l x [] t.ds [] :=
  ⟨by simp, by simp, fun y hy ht => .one ⟨t, h, hy, ht⟩, by simp, fun d ⟨t', h1, h2, _⟩ => by
    rw [h] at h1; injection h1 with h1; subst h1; exact .inr (.inl h2), by simp⟩
theorem Bfs.skip {l : List Tg} {x y : ByteArray} {a q r : List ByteArray} (h : Bfs l x a (y :: q) r) (hs : isT l y = true → y ∈ a) : Bfs l x a q r := by
  have key : ∀ d, isT l d = true → d ∈ a ∨ d ∈ y :: q ∨ d ∈ r → d ∈ a ∨ d ∈ q ∨ d ∈ r := by
    rintro d ht (h1 | h1 | h1)
    · exact .inl h1
    · rcases List.mem_cons.1 h1 with rfl | h1
      · exact .inl (hs ht)
      · exact .inr (.inl h1)
    · exact .inr (.inr h1)
  exact ⟨h.ok, h.nd, fun z hz => h.okq z (List.mem_cons_of_mem _ hz), h.okr, fun d hd => key d hd.choose_spec.2.2 (h.c0 d hd), fun z hz d hd => key d hd.choose_spec.2.2 (h.c1 z hz d hd)⟩
theorem Bfs.take {l : List Tg} {x y : ByteArray} {a q r : List ByteArray} {t : Tg} (h : Bfs l x a (y :: q) r) (hf : find l y = some t) (hn : y ∉ a) : Bfs l x (a ++ [y]) q (r ++ t.ds) := by
  have hT : isT l y = true := by unfold isT; rw [hf]; rfl
  have hr := h.okq y (List.mem_cons_self ..) hT
  have key : ∀ d, d ∈ a ∨ d ∈ y :: q ∨ d ∈ r → d ∈ a ++ [y] ∨ d ∈ q ∨ d ∈ r ++ t.ds := by
    rintro d (h1 | h1 | h1)
    · exact .inl (List.mem_append_left _ h1)
    · rcases List.mem_cons.1 h1 with rfl | h1
      · exact .inl (by simp)
      · exact .inr (.inl h1)
    · exact .inr (.inr (List.mem_append_left _ h1))
  refine ⟨fun z hz => ?_, ?_, fun z hz => h.okq z (List.mem_cons_of_mem _ hz), fun z hz ht => ?_, fun d hd => key d (h.c0 d hd), fun z hz d hd => ?_⟩
  · rcases List.mem_append.1 hz with hz | hz
    · exact h.ok z hz
    · obtain rfl := List.mem_singleton.1 hz
      exact hr
  · rw [List.nodup_append]
    refine ⟨h.nd, by simp, fun u hu v hv e => ?_⟩
    obtain rfl := List.mem_singleton.1 hv
    subst e
    exact hn hu
  · rcases List.mem_append.1 hz with hz | hz
    · exact h.okr z hz ht
    · exact hr.more ⟨t, hf, hz, ht⟩
  · rcases List.mem_append.1 hz with hz | hz
    · exact key d (h.c1 z hz d hd)
    · obtain rfl := List.mem_singleton.1 hz
      obtain ⟨t', h1, h2, _⟩ := hd
      rw [hf] at h1; injection h1 with h1; subst h1
      exact .inr (.inr (List.mem_append_right _ h2))
theorem Bfs.below {l : List Tg} {x : ByteArray} {a : List ByteArray} (h : Bfs l x a [] []) : ∀ d, has a d = true ↔ Reach l x d := fun d => by
  rw [has_iff]
  refine ⟨h.ok d, fun hr => hr.in_ (fun d hd => ?_) (fun y d hy hd => ?_)⟩
  · rcases h.c0 d hd with h1 | h1 | h1
    · exact h1
    · cases h1
    · cases h1
  · rcases h.c1 y hy d hd with h1 | h1 | h1
    · exact h1
    · cases h1
    · cases h1
theorem Bfs.le {l : List Tg} {x : ByteArray} {a q r : List ByteArray} (h : Bfs l x a q r) : a.length ≤ l.length := by
  have := List.Nodup.length_le_of_subset h.nd (fun y hy => by
    obtain ⟨t, ht, e⟩ := isT_iff.1 (h.ok y hy).isT
    rw [← e]; exact List.mem_map_of_mem ht : a ⊆ l.map Tg.n)
  simpa using this
end Go.Proofs.YtmlaolmaopjhbaaGreatDoor.Gr
/- GrMem, what a claim needs of it (prune.py). -/
namespace Go.Proofs.YtmlaolmaopjhbaaGreatDoor.Gr
open Go.RowKit
open Lg (Strs tl)
set_option linter.unusedVariables false
set_option maxRecDepth 100000
def TgAt (w : World) (ad : Addr) (t : Tg) : Prop :=
  ∃ Ad cd As cs, w.cell? ad = some (.string t.n) ∧ w.cell? (ad.add 1) = some (.string t.c) ∧ w.cell? (ad.add 2) = some (.slice Ad t.ds.length cd) ∧ w.cell? (ad.add 3) = some (.slice As t.ss.length cs) ∧ Strs w Ad t.ds ∧ Strs w As t.ss
def Tgs (w : World) (A : Option Addr) (l : List Tg) : Prop := 0 < l.length → ∃ ad, A = some ad ∧ ad.block < w.heap.size ∧ ∀ k (h : k < l.length), TgAt w (ad.add (k * 4)) l[k]
theorem TgAt.keep {w w' : World} {ad : Addr} {t : Tg} (hB : ad.block < w.heap.size) (h : TgAt w ad t) (hb : Below w.heap.size w w') : TgAt w' ad t := by
  obtain ⟨Ad, cd, As, cs, h0, h1, h2, h3, h4, h5⟩ := h
  have hk : ∀ j, w'.cell? (ad.add j) = w.cell? (ad.add j) := fun j => hb.cell (by rw [block_of_add]; exact hB)
  exact ⟨Ad, cd, As, cs, (hb.cell hB).trans h0, (hk 1).trans h1, (hk 2).trans h2, (hk 3).trans h3, h4.below hb, h5.below hb⟩
theorem Tgs.below {w w' : World} {A : Option Addr} {l : List Tg} (h : Tgs w A l) (hb : Below w.heap.size w w') : Tgs w' A l := fun hl => by
  obtain ⟨ad, e, h1, h2⟩ := h hl
  exact ⟨ad, e, Nat.lt_of_lt_of_le h1 hb.size, fun k hk => (h2 k hk).keep (by rw [block_of_add]; exact h1) hb⟩
theorem Tgs.none_ (w : World) (A : Option Addr) : Tgs w A [] := fun h => absurd h (by simp)
theorem Tgs.take {w : World} {A : Option Addr} {l : List Tg} (h : Tgs w A l) (k : Nat) : Tgs w A (l.take k) := fun hl => by
  have hl' : 0 < l.length := by simp at hl; omega
  obtain ⟨ad, e, h1, h2⟩ := h hl'
  exact ⟨ad, e, h1, fun j hj => by rw [List.getElem_take]; exact h2 j (by simp at hj; omega)⟩
structure Fits (t : Tg) : Prop where
  n : t.n.size ≤ 1000000
  c : t.c.size ≤ 1000000
  dl : t.ds.length ≤ 1000
  sl : t.ss.length ≤ 1000
  d : ∀ x ∈ t.ds, x.size ≤ 1000000
  s : ∀ x ∈ t.ss, x.size ≤ 1000000
section
variable {α : Type}
def idx (p : α → Bool) (l : List α) : Int :=
  match l.findIdx? p with
  | some i => i
  | none => -1
def NoneTo (p : α → Bool) (l : List α) (k : Nat) : Prop := ∀ j (hj : j < l.length), j < k → p l[j] = false
theorem NoneTo.zero (p : α → Bool) (l : List α) : NoneTo p l 0 := fun j _ h => by omega
theorem NoneTo.next {p : α → Bool} {l : List α} {k : Nat} (hk : k < l.length) (h : NoneTo p l k) (hp : p l[k] = false) : NoneTo p l (k + 1) := fun j hj h1 => by
  rcases Nat.lt_or_ge j k with h2 | h2
  · exact h j hj h2
  · obtain rfl : j = k := by omega
    exact hp
theorem idx_hit {p : α → Bool} {l : List α} {k : Nat} (hk : k < l.length) (h : NoneTo p l k) (hp : p l[k] = true) : idx p l = k := by
  have : l.findIdx? p = some k := by
    rw [List.findIdx?_eq_some_iff_getElem]
    exact ⟨hk, hp, fun j hj => by rw [h j (by omega) hj]; simp⟩
  rw [idx, this]
theorem idx_miss {p : α → Bool} {l : List α} (h : NoneTo p l l.length) : idx p l = -1 := by
  have : l.findIdx? p = none := by
    rw [List.findIdx?_eq_none_iff]
    intro x hx
    obtain ⟨j, hj, rfl⟩ := List.mem_iff_getElem.1 hx
    exact h j hj hj
  rw [idx, this]
theorem idx_any (p : α → Bool) (l : List α) : decide (0 ≤ idx p l) = l.any p := by
  rw [idx]
  cases e : l.findIdx? p with
  | none =>
    rw [List.findIdx?_eq_none_iff] at e
    have : l.any p = false := by rw [List.any_eq_false]; exact fun x hx => by simp [e x hx]
    rw [this]; rfl
  | some i =>
    obtain ⟨hi, hp, _⟩ := List.findIdx?_eq_some_iff_getElem.1 e
    have : l.any p = true := List.any_eq_true.2 ⟨_, List.getElem_mem hi, hp⟩
    rw [this]; simp
theorem idx_cases (p : α → Bool) (l : List α) : (idx p l = -1 ∧ l.find? p = none) ∨ ∃ (k : Nat) (hk : k < l.length), idx p l = k ∧ l.find? p = some l[k] ∧ p l[k] = true ∧ NoneTo p l k := by
  rw [idx]
  cases e : l.findIdx? p with
  | none =>
    rw [List.findIdx?_eq_none_iff] at e
    exact .inl ⟨rfl, List.find?_eq_none.2 fun x hx => by simp [e x hx]⟩
  | some i =>
    obtain ⟨hi, hp, hn⟩ := List.findIdx?_eq_some_iff_getElem.1 e
    refine .inr ⟨i, hi, rfl, ?_, hp, fun j hj h => by simpa using hn j h⟩
    rw [List.find?_eq_some_iff_getElem]
    exact ⟨hp, i, hi, rfl, fun j hj => by simpa using hn j hj⟩
end
theorem indexS_any (g : Nat) (lb : Array Value) (eg : ∀ args w, (callFunc g args).run Tryz.prog w = .ok (.enter g args) w) (p : ByteArray → Bool) (A : Option Addr) (l : List ByteArray) (c : Nat) (w : World) (hr : Strs w A l) (hl : l.length ≤ 1000000000)
    (hp : ∀ s ∈ l, ∀ W, Below w.heap.size w W → Calls Tryz.prog g (#[.string s] ++ lb) W fun e w' => e = .returned (.bool (p s)) ∧ Below W.heap.size W w') :
    Calls Tryz.prog 157 #[.slice A l.length c, .func (.func g) #[] lb] w fun e w' => e = .returned (.int .i64 (idx p l)) ∧ Below w.heap.size w w' := by
  have RD : Hid (∀ W, Below w.heap.size w W → Strs W A l) := Lib.hid fun W hW => hr.below hW
  have PR := Lib.hid hp
  clear hr hp
  go_enter Tryz.func157, Tryz.ntmps157
  go_wp2_with (fail)
  go_loopw [8] (fun i W => ∃ k : Nat, i = .int .i64 k ∧ k ≤ l.length ∧ NoneTo p l k ∧ Below w.heap.size w W) (fun i _ => l.length - (intOf i).toNat)
  case atStart => exact ⟨0, rfl, by omega, NoneTo.zero _ _, Below.refl _ _⟩
  case round =>
    obtain ⟨k, rfl, hk, ha, hb⟩ := hrel
    have HA := Lib.hid ha
    clear ha
    by_cases hlt : k < l.length
    · have hkI : (k : Int) < (l.length : Int) := by omega
      obtain ⟨ad, rfl, _, hc⟩ := (RD.out _ hb).at_ hlt
      have AF := Lib.hid (PR.out l[k] (List.getElem_mem hlt) _ hb)
      have NXT := Lib.hid (NoneTo.next hlt HA.out)
      have HIT := Lib.hid (idx_hit hlt HA.out)
      generalize l[k] = s at *
      cases hp : p s
      · rw [hp] at AF
        have F := Lib.hid (NXT.out hp)
        clear hp HIT
        go_wp2_with (go_at_fn g; ((with_reducible refine (AF.out).mono ?_); rintro e w1 ⟨rfl, hb1⟩))
        go_roundw
        case rel => exact ⟨k + 1, by go_num, by omega, F.out, hb.trans (hb1.mono hb.size)⟩
        case measure => simp [intOf]; omega
      · rw [hp] at AF
        have F := Lib.hid (HIT.out hp)
        clear hp NXT
        go_wp2_with (go_at_fn g; ((with_reducible refine (AF.out).mono ?_); rintro e w1 ⟨rfl, hb1⟩))
        go_ret
        exact ⟨Lg.ret_int F.out, hb.trans (hb1.mono hb.size)⟩
    · obtain rfl : k = l.length := by omega
      have F := Lib.hid (idx_miss HA.out)
      go_wp2_with (fail)
      go_ret
      exact ⟨Lg.ret_int F.out, hb⟩
theorem containsS_any (g : Nat) (lb : Array Value) (eg : ∀ args w, (callFunc g args).run Tryz.prog w = .ok (.enter g args) w) (p : ByteArray → Bool) (A : Option Addr) (l : List ByteArray) (c : Nat) (w : World) (hr : Strs w A l) (hl : l.length ≤ 1000000000)
    (hp : ∀ s ∈ l, ∀ W, Below w.heap.size w W → Calls Tryz.prog g (#[.string s] ++ lb) W fun e w' => e = .returned (.bool (p s)) ∧ Below W.heap.size W w') :
    Calls Tryz.prog 98 #[.slice A l.length c, .func (.func g) #[] lb] w fun e w' => e = .returned (.bool (l.any p)) ∧ Below w.heap.size w w' := by
  have IX := Lib.hid (indexS_any g lb eg p A l c w hr hl hp)
  have AN := Lib.hid (idx_any p l)
  clear hr hp
  generalize idx p l = r at *
  go_enter Tryz.func98, Tryz.ntmps98
  go_wp2_with (go_at_call 157; ((with_reducible refine (IX.out).mono ?_); rintro e w1 ⟨rfl, hb⟩))
  go_ret
  exact ⟨Lg.ret_bool AN.out.symm, hb⟩
theorem indexT_any (g : Nat) (lb : Array Value) (eg : ∀ args w, (callFunc g args).run Tryz.prog w = .ok (.enter g args) w) (p : Tg → Bool) (A : Option Addr) (l : List Tg) (c : Nat) (w : World) (hr : Tgs w A l) (hl : l.length ≤ 1000000000)
    (hp : ∀ k (hk : k < l.length), ∀ Ad cd As cs W, Below w.heap.size w W → Strs W Ad l[k].ds → Strs W As l[k].ss →
      Calls Tryz.prog g (#[.agg #[.string l[k].n, .string l[k].c, .slice Ad l[k].ds.length cd, .slice As l[k].ss.length cs]] ++ lb) W fun e w' => e = .returned (.bool (p l[k])) ∧ Below W.heap.size W w') :
    Calls Tryz.prog 224 #[.slice A l.length c, .func (.func g) #[] lb] w fun e w' => e = .returned (.int .i64 (idx p l)) ∧ Below w.heap.size w w' := by
  have RD : Hid (∀ W, Below w.heap.size w W → Tgs W A l) := Lib.hid fun W hW => hr.below hW
  have PR := Lib.hid hp
  clear hr hp
  go_enter Tryz.func224, Tryz.ntmps224
  go_wp2_with (fail)
  go_loopw [8] (fun i W => ∃ k : Nat, i = .int .i64 k ∧ k ≤ l.length ∧ NoneTo p l k ∧ Below w.heap.size w W) (fun i _ => l.length - (intOf i).toNat)
  case atStart => exact ⟨0, rfl, by omega, NoneTo.zero _ _, Below.refl _ _⟩
  case round =>
    obtain ⟨k, rfl, hk, ha, hb⟩ := hrel
    have HA := Lib.hid ha
    clear ha
    by_cases hlt : k < l.length
    · have hkI : (k : Int) < (l.length : Int) := by omega
      obtain ⟨ad, rfl, had, hcs⟩ := RD.out _ hb (by omega)
      obtain ⟨Ad, cd, As, cs, c0, c1, c2, c3, hd, hs⟩ := hcs k hlt
      have e1 : wr.cell? ⟨(ad.add (k * 4)).block, (ad.add (k * 4)).off + 1, none⟩ = some (.string l[k].c) := c1
      have e2 : wr.cell? ⟨(ad.add (k * 4)).block, (ad.add (k * 4)).off + 2, none⟩ = some (.slice Ad l[k].ds.length cd) := c2
      have e3 : wr.cell? ⟨(ad.add (k * 4)).block, (ad.add (k * 4)).off + 3, none⟩ = some (.slice As l[k].ss.length cs) := c3
      have AF := Lib.hid (PR.out k hlt Ad cd As cs _ hb hd hs)
      have NXT := Lib.hid (NoneTo.next hlt HA.out)
      have HIT := Lib.hid (idx_hit hlt HA.out)
      clear c1 c2 c3 hd hs hcs
      generalize l[k] = t at *
      cases hp : p t
      · rw [hp] at AF
        have F := Lib.hid (NXT.out hp)
        clear hp HIT
        go_wp2_with (go_at_fn g; ((with_reducible refine (AF.out).mono ?_); rintro e w1 ⟨rfl, hb1⟩))
        go_roundw
        case rel => exact ⟨k + 1, by go_num, by omega, F.out, hb.trans (hb1.mono hb.size)⟩
        case measure => simp [intOf]; omega
      · rw [hp] at AF
        have F := Lib.hid (HIT.out hp)
        clear hp NXT
        go_wp2_with (go_at_fn g; ((with_reducible refine (AF.out).mono ?_); rintro e w1 ⟨rfl, hb1⟩))
        go_ret
        exact ⟨Lg.ret_int F.out, hb.trans (hb1.mono hb.size)⟩
    · obtain rfl : k = l.length := by omega
      have F := Lib.hid (idx_miss HA.out)
      go_wp2_with (fail)
      go_ret
      exact ⟨Lg.ret_int F.out, hb⟩
end Go.Proofs.YtmlaolmaopjhbaaGreatDoor.Gr
