/- Joined by mkmerged.py: GrSpec, GrMem, StrSet, GrTwice, GrFind, GrSorted, GrAlone. -/
import Derived.Test.YtifiipmmgnmciaaGreatDoorMi02
import Derived.Test.YtifiipmmgnmciaaGreatDoorMi03
import Derived.Shelf.GgClosure.Gives
import Derived.Test.YtifiipmmgnmciaaGreatDoorProg
import Derived.WalkKit
import Derived.Maps.OwnSet
import Derived.Maps.OwnOps
import Derived.Maps.Views
import Derived.Deep.Draws
import Derived.Deep.QuietTactic
import Derived.BigQuiet
import Derived.RegionTactic
import Derived.ChangeAlike
import Derived.Test.YtifiipmmgnmciaaGreatDoorMi08
import Derived.Deep.RegionHeld3
import Derived.Deep.CutRange
/- GrSpec, what a claim needs of it (prune.py). -/
namespace Go.Proofs.YtifiipmmgnmciaaGreatDoor.Gr
set_option linter.unusedVariables false
def find (l : List Tg) (s : ByteArray) : Option Tg := l.find? fun t => decide (t.n = s)
def isT (l : List Tg) (s : ByteArray) : Bool := (find l s).isSome
def firstE (f : Nat → Int) : Nat → Int
  | 0 => 0
  | n + 1 => if firstE f n ≠ 0 then firstE f n else f n
def has (l : List ByteArray) (s : ByteArray) : Bool := l.any fun x => decide (x = s)
def dup (l : List ByteArray) : Bool := !decide l.Nodup
section
variable (nameE pathE parseE : ByteArray → Int)
def alone (t : Tg) : Int :=
  if parseE t.c ≠ 0 then parseE t.c
  else if 12 < t.ds.length ∨ 32 < t.ss.length then 15
  else if dup t.ds = true ∨ dup t.ss = true then 16
  else if ∃ s ∈ t.ss, pathE s ≠ 0 then 13
  else 0
def errAt (l : List Tg) (k : Nat) : Int :=
  match l[k]? with
  | none => 0
  | some t => if nameE t.n ≠ 0 then nameE t.n else if isT (l.take k) t.n = true then 16 else alone pathE parseE t
def ready (out : List ByteArray) (t : Tg) : Bool := !has out t.n && t.ds.all (fun d => has out d)
def stage (l : List Tg) : Nat → List ByteArray
  | 0 => []
  | k + 1 => match l.find? (ready (stage l k)) with
    | none => stage l k
    | some t => stage l k ++ [t.n]
def order (l : List Tg) : List ByteArray := stage l l.length
def check (l : List Tg) : Int :=
  if 12 < l.length then 15
  else if firstE (errAt nameE pathE parseE l) l.length ≠ 0 then firstE (errAt nameE pathE parseE l) l.length
  else if ∃ t ∈ l, ∃ d ∈ t.ds, isT l d = false then 30
  else if (order l).length < l.length then 31
  else 0
end
def Dep (l : List Tg) (x d : ByteArray) : Prop := ∃ t, find l x = some t ∧ d ∈ t.ds ∧ isT l d = true
inductive Reach (l : List Tg) (x : ByteArray) : ByteArray → Prop
  | one {d : ByteArray} : Dep l x d → Reach l x d
  | more {y d : ByteArray} : Reach l x y → Dep l y d → Reach l x d
def pick (S : ByteArray → Bool) : List Tg → List ByteArray → List ByteArray
  | [], out => out
  | t :: l, out => pick S l (if S t.n = true ∧ has out t.n = false then out ++ [t.n] else out)
open Classical in
noncomputable def below (l : List Tg) (x : ByteArray) : List ByteArray := pick (fun d => decide (Reach l x d)) l []
def Before (p : List ByteArray) (d x : ByteArray) : Prop := ∃ i, d ∈ p.take i ∧ x ∉ p.take i
structure Good (nameE pathE parseE : ByteArray → Int) (l : List Tg) : Prop where
  few : l.length ≤ 12
  name : ∀ t ∈ l, nameE t.n = 0
  alone : ∀ t ∈ l, alone pathE parseE t = 0
  apart : (l.map Tg.n).Nodup
  deps : ∀ t ∈ l, ∀ d ∈ t.ds, d ∈ l.map Tg.n
  sorted : ∃ p : List ByteArray, (∀ t ∈ l, t.n ∈ p) ∧ ∀ t ∈ l, ∀ d ∈ t.ds, Before p d t.n
section
variable {nameE pathE parseE : ByteArray → Int} {l m : List Tg}
end
end Go.Proofs.YtifiipmmgnmciaaGreatDoor.Gr
namespace Go.Proofs.YtifiipmmgnmciaaGreatDoor.Gr
set_option linter.unusedVariables false
structure Down (l : List Tg) (x : ByteArray) (S S' : List ByteArray) : Prop where
  more : ∀ y, y ∈ S → y ∈ S'
  right : ∀ y, y ∈ S' → y ∈ S ∨ Reach l x y
  own : ∀ d, Dep l x d → d ∈ S'
  closed : ∀ y, y ∈ S' → y ∉ S → ∀ d, Dep l y d → d ∈ S'
structure DownTo (l : List Tg) (x : ByteArray) (q : List ByteArray) (k : Nat) (S S' : List ByteArray) : Prop where
  more : ∀ y, y ∈ S → y ∈ S'
  right : ∀ y, y ∈ S' → y ∈ S ∨ Reach l x y
  own : ∀ d, d ∈ q.take k → isT l d = true → d ∈ S'
  closed : ∀ y, y ∈ S' → y ∉ S → ∀ d, Dep l y d → d ∈ S'
structure Bfs (l : List Tg) (x : ByteArray) (a q r : List ByteArray) : Prop where
  ok : ∀ y ∈ a, Reach l x y
  nd : a.Nodup
  okq : ∀ y ∈ q, isT l y = true → Reach l x y
  okr : ∀ y ∈ r, isT l y = true → Reach l x y
  c0 : ∀ d, Dep l x d → d ∈ a ∨ d ∈ q ∨ d ∈ r
  c1 : ∀ y ∈ a, ∀ d, Dep l y d → d ∈ a ∨ d ∈ q ∨ d ∈ r
end Go.Proofs.YtifiipmmgnmciaaGreatDoor.Gr
/- GrMem, what a claim needs of it (prune.py). -/
namespace Go.Proofs.YtifiipmmgnmciaaGreatDoor.Gr
open Go.RowKit
open Lg (Strs tl)
set_option linter.unusedVariables false
set_option maxRecDepth 100000
def TgAt (w : World) (ad : Addr) (t : Tg) : Prop :=
  ∃ Ad cd As cs, w.cell? ad = some (.string t.n) ∧ w.cell? (ad.add 1) = some (.string t.c) ∧ w.cell? (ad.add 2) = some (.slice Ad t.ds.length cd) ∧ w.cell? (ad.add 3) = some (.slice As t.ss.length cs) ∧ Strs w Ad t.ds ∧ Strs w As t.ss
def Tgs (w : World) (A : Option Addr) (l : List Tg) : Prop := 0 < l.length → ∃ ad, A = some ad ∧ ad.block < w.heap.size ∧ ∀ k (h : k < l.length), TgAt w (ad.add (k * 4)) l[k]
structure Fits (t : Tg) : Prop where
  n : t.n.size ≤ 1000000
  c : t.c.size ≤ 1000000
  dl : t.ds.length ≤ 1000
  sl : t.ss.length ≤ 1000
  d : ∀ x ∈ t.ds, x.size ≤ 1000000
  s : ∀ x ∈ t.ss, x.size ≤ 1000000
section
variable {α : Type}
def idx (p : α → Bool) (l : List α) : Int :=
  match l.findIdx? p with
  | some i => i
  | none => -1
def NoneTo (p : α → Bool) (l : List α) (k : Nat) : Prop := ∀ j (hj : j < l.length), j < k → p l[j] = false
theorem NoneTo.zero (p : α → Bool) (l : List α) : NoneTo p l 0 := fun j _ h => by omega
theorem NoneTo.next {p : α → Bool} {l : List α} {k : Nat} (hk : k < l.length) (h : NoneTo p l k) (hp : p l[k] = false) : NoneTo p l (k + 1) := fun j hj h1 => by
  rcases Nat.lt_or_ge j k with h2 | h2
  · exact h j hj h2
  · obtain rfl : j = k := by omega
    exact hp
theorem idx_hit {p : α → Bool} {l : List α} {k : Nat} (hk : k < l.length) (h : NoneTo p l k) (hp : p l[k] = true) : idx p l = k := by
  have : l.findIdx? p = some k := by
    rw [List.findIdx?_eq_some_iff_getElem]
    exact ⟨hk, hp, fun j hj => by rw [h j (by omega) hj]; simp⟩
  rw [idx, this]
theorem idx_miss {p : α → Bool} {l : List α} (h : NoneTo p l l.length) : idx p l = -1 := by
  have : l.findIdx? p = none := by
    rw [List.findIdx?_eq_none_iff]
    intro x hx
    obtain ⟨j, hj, rfl⟩ := List.mem_iff_getElem.1 hx
    exact h j hj hj
  rw [idx, this]
theorem idx_cases (p : α → Bool) (l : List α) : (idx p l = -1 ∧ l.find? p = none) ∨ ∃ (k : Nat) (hk : k < l.length), idx p l = k ∧ l.find? p = some l[k] ∧ p l[k] = true ∧ NoneTo p l k := by
  rw [idx]
  cases e : l.findIdx? p with
  | none =>
    rw [List.findIdx?_eq_none_iff] at e
    exact .inl ⟨rfl, List.find?_eq_none.2 fun x hx => by simp [e x hx]⟩
  | some i =>
    obtain ⟨hi, hp, hn⟩ := List.findIdx?_eq_some_iff_getElem.1 e
    refine .inr ⟨i, hi, rfl, ?_, hp, fun j hj h => by simpa using hn j h⟩
    rw [List.find?_eq_some_iff_getElem]
    exact ⟨hp, i, hi, rfl, fun j hj => by simpa using hn j hj⟩
end
end Go.Proofs.YtifiipmmgnmciaaGreatDoor.Gr
/- StrSet, what a claim needs of it (prune.py). -/
namespace Go.Proofs.YtifiipmmgnmciaaGreatDoor
open Go.RowKit Go.Maps
set_option linter.unusedVariables false
set_option maxRecDepth 100000
namespace Ss
def SetAt (w : World) (m n : Nat) (S : List ByteArray) : Prop :=
  ∃ D : DataW Unit, w.ownsMap Tryz.prog 9 (plainElem Tryz.prog 4) m n D ∧ ∀ s : ByteArray, D.atKey (.string s.data.toList) (.lit (.bool false)) = .lit (.bool (Gr.has S s))
end Ss
end Go.Proofs.YtifiipmmgnmciaaGreatDoor
/- GrTwice, what a claim needs of it (prune.py). -/
namespace Go.Proofs.YtifiipmmgnmciaaGreatDoor.Gr
open Go.RowKit
open Lg (Strs tl)
set_option linter.unusedVariables false
set_option maxRecDepth 100000
def same (a b : List ByteArray) : Bool := decide (a = b)
end Go.Proofs.YtifiipmmgnmciaaGreatDoor.Gr
/- GrFind, what a claim needs of it (prune.py). -/
namespace Go.Proofs.YtifiipmmgnmciaaGreatDoor.Gr
open Go.RowKit
open Lg (Strs tl)
set_option linter.unusedVariables false
set_option maxRecDepth 100000
def zeroT : Tg := ⟨⟨#[]⟩, ⟨#[]⟩, [], []⟩
def FindSays (l : List Tg) (s : ByteArray) (w0 w : World) (e : Ending) (w' : World) : Prop :=
  (∃ (t : Tg) (Ad As : Option Addr) (cd cs : Nat), e = .returned (.tuple #[.agg #[.string t.n, .string t.c, .slice Ad t.ds.length cd, .slice As t.ss.length cs], .bool (isT l s)]) ∧ t = (find l s).getD zeroT ∧ Strs w0 Ad t.ds ∧ Strs w0 As t.ss) ∧ Below w.heap.size w w'
end Go.Proofs.YtifiipmmgnmciaaGreatDoor.Gr
/- GrSorted, what a claim needs of it (prune.py). -/
namespace Go.Proofs.YtifiipmmgnmciaaGreatDoor.Gr
open Go.RowKit
open Lg (Strs tl)
set_option linter.unusedVariables false
set_option maxRecDepth 100000
structure So (w : World) (l : List Tg) (k : Nat) (S : List ByteArray) (v : Value) (wx : World) : Prop where
  same : ∀ x, has S x = has (stage l k) x
  len : (stage l k).length = k
  own : wx.ownsRow (w.heap.size + 2) 9 1 v k ((stage l k).map Value.string)
  set : Ss.SetAt wx w.heap.size k S
  cell : wx.heap[w.heap.size + 1]? = some (.cells #[.map (some w.heap.size)] 84 (0, 0))
  below : Below w.heap.size w wx
  size : w.heap.size + 2 ≤ wx.heap.size
end Go.Proofs.YtifiipmmgnmciaaGreatDoor.Gr
namespace Go.Proofs.YtifiipmmgnmciaaGreatDoor.Gr
open Go.RowKit
open Lg (Strs tl)
set_option linter.unusedVariables false
set_option maxRecDepth 100000
structure Or (w : World) (l : List Tg) (k : Nat) (v : Value) (wx : World) : Prop where
  len : (stage l k).length = k
  own : wx.ownsRow w.heap.size 9 1 v (stage l k).length ((stage l k).map Value.string)
  below : Below w.heap.size w wx
end Go.Proofs.YtifiipmmgnmciaaGreatDoor.Gr
/- GrAlone, what a claim needs of it (prune.py). -/
namespace Go.Proofs.YtifiipmmgnmciaaGreatDoor.Gr
open Go.RowKit
open Lg (Strs tl)
set_option linter.unusedVariables false
set_option maxRecDepth 100000
def nameF (s : ByteArray) : Int := Lg.nameE (tl s)
def pathF (s : ByteArray) : Int := Lg.pathE (tl s)
def parseF (s : ByteArray) : Int := ((Lg.parse (tl s)).2 : Int)
end Go.Proofs.YtifiipmmgnmciaaGreatDoor.Gr
namespace Go.Proofs.YtifiipmmgnmciaaGreatDoor.Gr
open Go.RowKit
open Lg (Strs tl)
set_option linter.unusedVariables false
set_option maxRecDepth 100000
abbrev checkF (l : List Tg) : Int := check nameF pathF parseF l
end Go.Proofs.YtifiipmmgnmciaaGreatDoor.Gr
