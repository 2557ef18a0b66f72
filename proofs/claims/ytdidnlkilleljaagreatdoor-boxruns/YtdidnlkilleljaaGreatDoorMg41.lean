/- Joined by mkmerged.py: KgFiles, TgMore, OpenArgs. -/
import Derived.Test.YtdidnlkilleljaaGreatDoorMg20
import Derived.Test.YtdidnlkilleljaaGreatDoorMg02
import Derived.Deep.Slices
import Derived.Deep.Fields
import Derived.ReadAgain
import Derived.ChangeBears
import Derived.SliceStrings
import Derived.ChangeMaps5
/- KgFiles, what a claim needs of it (prune.py). -/
namespace Go.Proofs.YtdidnlkilleljaaGreatDoor
open Go.RowKit
set_option linter.unusedVariables false
set_option maxRecDepth 100000
def Fl.b (f : Fl) : List UInt8 := fileB (tl f.p) (tl f.d)
structure Fl.Ok (f : Fl) : Prop where
  p : f.p.size ≤ 200
  d : f.d.size ≤ 3000
structure Fl.Ok60 (f : Fl) : Prop where
  p : f.p.size ≤ 60
  d : f.d.size ≤ 3000
theorem Fl.Ok60.ok {f : Fl} (h : f.Ok60) : f.Ok := ⟨by have := h.p; omega, h.d⟩
def FlAt (w : World) (ad : Addr) (f : Fl) : Prop := w.cell? ad = some (.string f.p) ∧ w.cell? (ad.add 1) = some (.string f.d)
def Fls (w : World) (B : Nat) (A : Option Addr) (l : List Fl) : Prop := 0 < l.length → ∃ ad, A = some ad ∧ ad.block < B ∧ ∀ k (h : k < l.length), FlAt w (ad.add (k * 2)) l[k]
theorem Fls.below {w w' : World} {B : Nat} {A : Option Addr} {l : List Fl} (h : Fls w B A l) (hb : Below B w w') : Fls w' B A l := fun hl => by
  obtain ⟨ad, e, h1, h2⟩ := h hl
  refine ⟨ad, e, h1, fun k hk => ?_⟩
  obtain ⟨c0, c1⟩ := h2 k hk
  have h3 : (ad.add (k * 2)).block < B := by rw [block_of_add]; exact h1
  exact ⟨(hb.cell h3).trans c0, (hb.cell (by rw [block_of_add]; exact h3)).trans c1⟩
theorem Fls.more {w : World} {B B' : Nat} {A : Option Addr} {l : List Fl} (h : Fls w B A l) (hB : B ≤ B') : Fls w B' A l := fun hl => by
  obtain ⟨ad, e, h1, h2⟩ := h hl
  exact ⟨ad, e, by omega, h2⟩
end Go.Proofs.YtdidnlkilleljaaGreatDoor
/- TgMore, what a claim needs of it (prune.py). -/
namespace Go.Proofs.YtdidnlkilleljaaGreatDoor
open Go.RowKit
set_option linter.unusedVariables false
set_option maxRecDepth 100000
theorem Tgs.more {w : World} {B B' : Nat} {A : Option Addr} {l : List Tg} (h : Tgs w B A l) (hB : B ≤ B') : Tgs w B' A l := fun hl => by
  obtain ⟨ad, e, h1, h2⟩ := h hl
  refine ⟨ad, e, by omega, fun k hk => ?_⟩
  obtain ⟨Ad, cd, As, cs, c0, c1, c2, c3, c4, c5⟩ := h2 k hk
  exact ⟨Ad, cd, As, cs, c0, c1, c2, c3, c4.more hB, c5.more hB⟩
theorem Fls.none_ (w : World) (B : Nat) (A : Option Addr) : Fls w B A [] := fun h => absurd h (by simp)
theorem Tgs.none_ (w : World) (B : Nat) (A : Option Addr) : Tgs w B A [] := fun h => absurd h (by simp)
end Go.Proofs.YtdidnlkilleljaaGreatDoor
/- OpenArgs, what a claim needs of it (prune.py). -/
namespace Go.Proofs.YtdidnlkilleljaaGreatDoor
open Go.ChangeShapes Go.WideShapes Go.Deep Go.RowKit Go.ChangeMaps
set_option linter.unusedVariables false
set_option maxRecDepth 100000
section
variable {H : Type} {enc : TypeId × Value → H} {W : World}
theorem open_strs {n : Nat} {v : Value} {y : DataW H × List MemPlace} (h : DataW.trod enc Tryz.prog W 0 (fun _ => true) true n 24 [v] = some y) :
    ∃ A ss c, v = .slice A (List.length ss) c ∧ Strs W W.heap.size A ss ∧ ss.length ≤ maxLen ∧ (∀ s ∈ ss, s.size ≤ maxLen) ∧ ss.length ≤ c := by
  rcases open_strings Tryz.underlying24 Tryz.underlying9 (by kernel_rfl) h with ⟨h0, _⟩ | ⟨a, len, cap, ss, hcs, hb, hl, hm, hlen, hx, hc, hs⟩
  · refine ⟨none, [], 0, by injection h0, Reads.none_, by simp, (fun s hs => by cases hs), by simp⟩
  · have hlen' : ss.length = cap := by simpa using hlen
    have hvv : v = .slice (some a) len cap := by injection hcs
    refine ⟨some a, ss.take len, cap, ?_, ⟨by simp, fun h0 => ⟨a, rfl, ?_, fun j u hu => ?_⟩⟩, by simp; omega, fun s h => hs s (List.mem_of_mem_take h), by simp; omega⟩
    · rw [List.length_take, Nat.min_eq_left (by omega)]; exact hvv
    · have hh := lt_of_cell (hc 0 (by simp at h0; omega))
      rw [block_of_add] at hh
      exact hh
    · simp only [List.getElem?_map, Option.map_eq_some_iff] at hu
      obtain ⟨x, hx1, rfl⟩ := hu
      rw [List.getElem?_take] at hx1
      split at hx1
      · obtain ⟨hj, he⟩ := List.getElem?_eq_some_iff.1 hx1
        rw [hc j hj, List.getD_eq_getElem?_getD, hx1]
        rfl
      · cases hx1
end
end Go.Proofs.YtdidnlkilleljaaGreatDoor
