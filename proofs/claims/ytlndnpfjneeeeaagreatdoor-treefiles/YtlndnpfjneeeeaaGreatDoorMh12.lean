/- Joined by mkmerged.py: OpSpec. -/
import Derived.Test.YtlndnpfjneeeeaaGreatDoorMh09
/- OpSpec, what a claim needs of it (prune.py). -/
namespace Go.Proofs.YtlndnpfjneeeeaaGreatDoor.Ops
set_option linter.unusedVariables false
instance decTg : DecidableEq Tg := fun a b => decidable_of_iff (a.n = b.n ∧ a.c = b.c ∧ a.ds = b.ds ∧ a.ss = b.ss) (by cases a; cases b; simp)
instance decFl : DecidableEq Fl := fun a b => decidable_of_iff (a.p = b.p ∧ a.d = b.d) (by cases a; cases b; simp)
structure Rs where
  e : Int
  at_ : ByteArray
  tx : ByteArray
  fs : List Fl
structure Op where
  n : ByteArray
  gr : List Tg
  sn : List Fl
  go : ByteArray
  st : Int
  r : Rs
structure Ev where
  k : Int
  x : Op
instance decRs : DecidableEq Rs := fun a b => decidable_of_iff (a.e = b.e ∧ a.at_ = b.at_ ∧ a.tx = b.tx ∧ a.fs = b.fs) (by cases a; cases b; simp)
instance decOp : DecidableEq Op := fun a b => decidable_of_iff (a.n = b.n ∧ a.gr = b.gr ∧ a.sn = b.sn ∧ a.go = b.go ∧ a.st = b.st ∧ a.r = b.r) (by cases a; cases b; simp)
def zeroR : Rs := ⟨0, ⟨#[]⟩, ⟨#[]⟩, []⟩
def named (s : ByteArray) (x : Op) : Bool := decide (x.n = s)
def find (l : List Op) (s : ByteArray) : Option Op := l.find? (named s)
def at_ (l : List Op) (s : ByteArray) : Nat := l.findIdx (named s)
def turned (x : Op) (e : Ev) : Option Op :=
  if e.k = 2 then (if x.st = 1 then some { x with st := 2 } else none)
  else if e.k = 3 then (if x.st = 2 then some { x with st := 3, r := e.x.r } else none)
  else if x.st = 3 then none else some { x with st := 4 }
section
variable (W : ByteArray → List Tg → List Fl → ByteArray → Int) (O : List Tg → List Fl → ByteArray → ByteArray)
def wrong (x : Op) : Int := W x.n x.gr x.sn x.go
def ord (x : Op) : ByteArray := O x.gr x.sn x.go
def fresh (x : Op) : Op := { x with st := 1, r := zeroR }
def submit (l : List Op) (x : Op) : List Op × Int :=
  if wrong W x ≠ 0 then ([], wrong W x)
  else match find l x.n with
    | some o => if ord O o = ord O x then (l, 0) else ([], 42)
    | none => if 16 ≤ l.length then ([], 41) else (l ++ [fresh x], 0)
def apply (l : List Op) (e : Ev) : List Op × Int :=
  if e.k = 1 then submit W O l e.x
  else if e.k = 2 ∨ e.k = 3 ∨ e.k = 4 then
    match l[at_ l e.x.n]? with
    | none => ([], 17)
    | some x => match turned x e with
      | none => ([], 43)
      | some y => (l.set (at_ l e.x.n) y, 0)
  else ([], 1)
end
variable {W : ByteArray → List Tg → List Fl → ByteArray → Int} {O : List Tg → List Fl → ByteArray → ByteArray}
theorem find_none {l : List Op} {s : ByteArray} (h : find l s = none) : ∀ x ∈ l, x.n ≠ s := fun x hx e => by
  have := List.find?_eq_none.1 h x hx
  simp [named, e] at this
structure Stay1 (s : ByteArray) (x y : Op) : Prop where
  n : x.n = y.n
  go : x.go = y.go
  same : x.n ≠ s → x = y
  ended : x.st = 3 → y.st = 3 ∧ x.r = y.r
  off : x.st = 4 → y.st = 4
  up : x.st ≤ y.st
theorem Stay1.refl (s : ByteArray) (x : Op) : Stay1 s x x := ⟨rfl, rfl, fun _ => rfl, fun h => ⟨h, rfl⟩, id, Int.le_refl _⟩
structure Stays (l m : List Op) (e : Ev) : Prop where
  le : l.length ≤ m.length
  le1 : m.length ≤ l.length + 1
  most : m.length ≤ 16
  each : ∀ k (hk : k < l.length) (hm : k < m.length), Stay1 e.x.n l[k] m[k]
  new : l.length < m.length → e.k = 1 ∧ ∃ h : l.length < m.length, m[l.length].n = e.x.n ∧ m[l.length].st = 1
structure Made (l : List Op) : Prop where
  len : l.length ≤ 16
  st : ∀ x ∈ l, 1 ≤ x.st ∧ x.st ≤ 4
theorem Made.nil : Made [] := ⟨by simp, fun x h => by cases h⟩
end Go.Proofs.YtlndnpfjneeeeaaGreatDoor.Ops
