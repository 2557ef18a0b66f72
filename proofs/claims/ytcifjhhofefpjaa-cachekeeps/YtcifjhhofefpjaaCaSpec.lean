/- The cache's plain model: a list of things, the first to be forgotten ahead; what each call makes of it. No program in sight. -/
namespace Go.Proofs.Ytcifjhhofefpjaa.Ca
set_option linter.unusedVariables false
variable {α : Type}
/-- a thing under a key -/
structure Th (α : Type) where
  k : ByteArray
  v : α
  p : Nat
/-- the list parted at the first thing that meets q -/
def part {β : Type} (q : β → Bool) : List β → Option (List β × β × List β)
  | [] => none
  | x :: r => if q x then some ([], x, r) else (part q r).map fun y => (x :: y.1, y.2.1, y.2.2)
theorem part_none {β : Type} {q : β → Bool} : ∀ {l : List β}, part q l = none → ∀ x ∈ l, q x = false
  | [], _, x, hx => by cases hx
  | y :: r, h, x, hx => by
    unfold part at h
    by_cases hq : q y = true
    · rw [if_pos hq] at h; cases h
    · rw [if_neg hq] at h
      have h1 : part q r = none := by
        cases hp : part q r with
        | none => rfl
        | some z => rw [hp] at h; cases h
      rcases List.mem_cons.1 hx with rfl | hx
      · simpa using hq
      · exact part_none h1 x hx
theorem part_some {β : Type} {q : β → Bool} : ∀ {l a : List β} {x : β} {b : List β}, part q l = some (a, x, b) → l = a ++ x :: b ∧ q x = true ∧ ∀ y ∈ a, q y = false
  | [], _, _, _, h => by cases h
  | y :: r, a, x, b, h => by
    unfold part at h
    by_cases hq : q y = true
    · rw [if_pos hq] at h
      cases h
      exact ⟨rfl, hq, fun _ h => by cases h⟩
    · rw [if_neg hq] at h
      cases hp : part q r with
      | none => rw [hp] at h; cases h
      | some z =>
        obtain ⟨a', x', b'⟩ := z
        rw [hp] at h
        cases h
        obtain ⟨h1, h2, h3⟩ := part_some hp
        refine ⟨by rw [h1]; rfl, h2, fun z hz => ?_⟩
        rcases List.mem_cons.1 hz with rfl | hz
        · simpa using hq
        · exact h3 z hz
theorem part_of_none {β : Type} {q : β → Bool} : ∀ {l : List β}, (∀ x ∈ l, q x = false) → part q l = none
  | [], _ => rfl
  | y :: r, h => by
    unfold part
    rw [if_neg (by rw [h y (by simp)]; decide), part_of_none (fun x hx => h x (by simp [hx]))]
    rfl
theorem part_of_some {β : Type} {q : β → Bool} : ∀ {a : List β} {x : β} {b : List β}, q x = true → (∀ y ∈ a, q y = false) → part q (a ++ x :: b) = some (a, x, b)
  | [], x, b, h, _ => by
    show part q (x :: b) = _
    unfold part
    rw [if_pos h]
  | y :: r, x, b, h, ha => by
    show part q (y :: (r ++ x :: b)) = _
    unfold part
    rw [if_neg (by rw [ha y (by simp)]; decide), part_of_some h (fun z hz => ha z (by simp [hz]))]
    rfl
noncomputable def has_ (k : ByteArray) (x : Th α) : Bool := decide (x.k = k)
theorem has_iff {k : ByteArray} {x : Th α} : has_ k x = true ↔ x.k = k := by simp [has_]
theorem has_not {k : ByteArray} {x : Th α} : has_ k x = false ↔ x.k ≠ k := by simp [has_]
noncomputable def free_ (x : Th α) : Bool := decide (x.p = 0)
theorem free_iff {x : Th α} : free_ x = true ↔ x.p = 0 := by simp [free_]
theorem free_not {x : Th α} : free_ x = false ↔ x.p ≠ 0 := by simp [free_]
noncomputable def at_ (k : ByteArray) (l : List (Th α)) := part (has_ k) l
/-- Put -/
noncomputable def put (most : Nat) (l : List (Th α)) (k : ByteArray) (v : α) : List (Th α) × Nat :=
  match at_ k l with
  | some (a, x, b) => (a ++ b ++ [⟨k, v, x.p⟩], 0)
  | none => if l.length < most then (l ++ [⟨k, v, 0⟩], 0) else
    match part free_ l with
    | some (a, _, b) => (a ++ b ++ [⟨k, v, 0⟩], 0)
    | none => (l, 41)
/-- Get -/
noncomputable def get (l : List (Th α)) (k : ByteArray) : List (Th α) × Option α :=
  match at_ k l with
  | some (a, x, b) => (a ++ b ++ [x], some x.v)
  | none => (l, none)
noncomputable def pin (l : List (Th α)) (k : ByteArray) : List (Th α) × Nat :=
  match at_ k l with
  | some (a, x, b) => (a ++ ⟨x.k, x.v, x.p + 1⟩ :: b, 0)
  | none => (l, 17)
noncomputable def unpin (l : List (Th α)) (k : ByteArray) : List (Th α) × Nat :=
  match at_ k l with
  | some (a, x, b) => if x.p = 0 then (l, 43) else (a ++ ⟨x.k, x.v, x.p - 1⟩ :: b, 0)
  | none => (l, 17)
noncomputable def drop (l : List (Th α)) (k : ByteArray) : List (Th α) × Nat :=
  match at_ k l with
  | some (a, x, b) => if x.p = 0 then (a ++ b, 0) else (l, 43)
  | none => (l, 17)
/-- a thing as it lies: its block, and when it was put or got -/
structure En (α : Type) where
  k : ByteArray
  v : α
  p : Nat
  b : Nat
  s : Nat
def En.th (e : En α) : Th α := ⟨e.k, e.v, e.p⟩
theorem map_parts {E : List (En α)} {a : List (Th α)} {x : Th α} {b : List (Th α)} (h : E.map En.th = a ++ x :: b) : ∃ Ea e Eb, E = Ea ++ e :: Eb ∧ Ea.map En.th = a ∧ e.th = x ∧ Eb.map En.th = b := by
  obtain ⟨Ea, R, rfl, h1, h2⟩ := List.map_eq_append_iff.1 h
  obtain ⟨e, Eb, rfl, h3, h4⟩ := List.map_eq_cons_iff.1 h2
  exact ⟨Ea, e, Eb, rfl, h1, h3, h4⟩
theorem at_cases (E : List (En α)) (k : ByteArray) : (∃ Ea e Eb, E = Ea ++ e :: Eb ∧ e.k = k ∧ at_ k (E.map En.th) = some (Ea.map En.th, e.th, Eb.map En.th)) ∨ ((∀ e ∈ E, e.k ≠ k) ∧ at_ k (E.map En.th) = none) := by
  cases h : at_ k (E.map En.th) with
  | none =>
    refine .inr ⟨fun e he => ?_, rfl⟩
    have := part_none h e.th (List.mem_map_of_mem he)
    exact has_not.1 this
  | some z =>
    obtain ⟨a, x, b⟩ := z
    obtain ⟨h1, h2, h3⟩ := part_some h
    obtain ⟨Ea, e, Eb, rfl, r1, r2, r3⟩ := map_parts h1
    refine .inl ⟨Ea, e, Eb, rfl, ?_, by rw [r1, r2, r3]⟩
    rw [← r2] at h2
    exact has_iff.1 h2
theorem free_cases (E : List (En α)) : (∃ Ea e Eb, E = Ea ++ e :: Eb ∧ e.p = 0 ∧ (∀ x ∈ Ea, x.p ≠ 0) ∧ part free_ (E.map En.th) = some (Ea.map En.th, e.th, Eb.map En.th)) ∨ ((∀ e ∈ E, e.p ≠ 0) ∧ part free_ (E.map En.th) = none) := by
  cases h : part free_ (E.map En.th) with
  | none =>
    refine .inr ⟨fun e he => ?_, rfl⟩
    have := part_none h e.th (List.mem_map_of_mem he)
    exact free_not.1 this
  | some z =>
    obtain ⟨a, x, b⟩ := z
    obtain ⟨h1, h2, h3⟩ := part_some h
    obtain ⟨Ea, e, Eb, rfl, r1, r2, r3⟩ := map_parts h1
    refine .inl ⟨Ea, e, Eb, rfl, ?_, fun x hx => ?_, by rw [r1, r2, r3]⟩
    · rw [← r2] at h2
      exact free_iff.1 h2
    · have := h3 x.th (by rw [← r1]; exact List.mem_map_of_mem hx)
      exact free_not.1 this
end Go.Proofs.Ytcifjhhofefpjaa.Ca
