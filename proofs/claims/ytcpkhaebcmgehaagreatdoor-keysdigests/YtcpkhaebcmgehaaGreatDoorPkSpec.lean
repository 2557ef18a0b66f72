/- Packed texts, in plain Lean: no program in sight. -/
import Derived.Lib.ItoaNum
namespace Go.Proofs.YtcpkhaebcmgehaaGreatDoor.Pk
open Go
/-- a text, packed -/
def text (s : List UInt8) : List UInt8 := Lib.decDigits s.length ++ 58 :: (s ++ [44])
/-- texts, packed together -/
def list (l : List (List UInt8)) : List UInt8 := text (l.flatMap text)
def isDig (c : UInt8) : Bool := decide (48 ≤ c.toNat) && decide (c.toNat ≤ 57)
/-- how many digits stand ahead, up to seven -/
def kd (s : List UInt8) : Nat := ((s.take 7).takeWhile isDig).length
def dval (l : List UInt8) : Nat := l.foldl (fun n c => 10 * n + (c.toNat - 48)) 0
inductive Nx where
  | bad (e : Nat)
  | ok (t r : List UInt8)
/-- how long the next text is, and what is behind that -/
def len (s : List UInt8) : Nat ⊕ (Nat × List UInt8) :=
  let k := kd s
  if k = s.length then .inl 10
  else if s.getD k 0 ≠ 58 ∨ k = 0 ∨ (1 < k ∧ s.getD 0 0 = 48) then .inl 11
  else .inr (dval (s.take k), s.drop (k + 1))
/-- the text that bytes begin with -/
def nxt (s : List UInt8) : Nx :=
  match len s with
  | .inl e => .bad e
  | .inr (n, r) => if r.length ≤ n then .bad 10 else if r.getD n 0 ≠ 44 then .bad 11 else .ok (r.take n) (r.drop (n + 1))
theorem nxt_lt {s t r : List UInt8} (h : nxt s = .ok t r) : r.length < s.length := by
  unfold nxt len at h
  simp only at h
  split at h
  · cases h
  · rename_i n r' h'
    split at h'
    · cases h'
    · split at h'
      · cases h'
      · injection h' with h'
        injection h' with h1 h2
        split at h
        · cases h
        · split at h
          · cases h
          · injection h with h3 h4
            subst h4 h2
            rename_i hk _ _ _
            have : kd s ≤ s.length := by
              have := (List.takeWhile_prefix (p := isDig) (l := s.take 7)).length_le
              unfold kd
              simp at this ⊢
              omega
            simp
            omega
/-- the texts of a list -/
def lst (s : List UInt8) : Option (List (List UInt8)) :=
  if s = [] then some [] else
  match h : nxt s with
  | .bad _ => none
  | .ok t r => (lst r).map (t :: ·)
termination_by s.length
decreasing_by exact nxt_lt h
/-- a reader: what is left, and what was wrong -/
structure Rd where
  rest : List UInt8
  bad : Nat
def Rd.text (r : Rd) : List UInt8 × Rd :=
  if r.bad ≠ 0 then ([], r) else
  match nxt r.rest with
  | .bad e => ([], ⟨r.rest, e⟩)
  | .ok t q => (t, ⟨q, 0⟩)
def Rd.list (r : Rd) : List (List UInt8) × Rd :=
  match lst r.text.1 with
  | none => ([], ⟨r.text.2.rest, 11⟩)
  | some l => (l, r.text.2)
def Rd.fin (r : Rd) : Nat := if r.bad = 0 ∧ r.rest ≠ [] then 12 else r.bad
/-- things that a list of texts is -/
def each {α : Type} (takes : Rd → α × Rd) : List (List UInt8) → Option (List α)
  | [] => some []
  | s :: l => if (takes ⟨s, 0⟩).2.fin ≠ 0 then none else (each takes l).map ((takes ⟨s, 0⟩).1 :: ·)
def all {α : Type} (takes : Rd → α × Rd) (data : List UInt8) : List α × Nat :=
  let (l, r) := Rd.list ⟨data, 0⟩
  if r.fin ≠ 0 then ([], r.fin) else
  match each takes l with
  | none => ([], 11)
  | some a => (a, 0)

theorem text_nil : text [] = [48, 58, 44] := by unfold text; rw [Lib.decDigits]; rfl
theorem list_nil : list [] = [48, 58, 44] := by unfold list; exact text_nil
end Go.Proofs.YtcpkhaebcmgehaaGreatDoor.Pk
