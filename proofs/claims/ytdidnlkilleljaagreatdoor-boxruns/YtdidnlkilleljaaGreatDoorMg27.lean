/- Joined by mkmerged.py: BxSpec, BxLaw, BxNeed, BxRow, BxClone, BxInsert, BxInsert2. -/
import Derived.Test.YtdidnlkilleljaaGreatDoorMg03
import Derived.Test.YtdidnlkilleljaaGreatDoorMg23
import Derived.Laws.IdiomCopy
import Derived.Lib.Overlaps
import Derived.Lib.AppendZerosOnto
import Derived.Lib.SliceRun
import Derived.Shelf.Spec.SlicesInsert
import Derived.BigQuiet
import Derived.RegionTactic
/- BxSpec, what a claim needs of it (prune.py). -/
namespace Go.Proofs.YtdidnlkilleljaaGreatDoor.Bx
open Lg (Stp)
open Fs (B)
set_option linter.unusedVariables false
structure St where
  files : List Fl
  used : Nat
  kind : Nat
  need : B
  err : Int
  text : B
def over (s : St) : Bool := decide (s.kind ≠ 0)
def fail (e : Int) (t : B) (s : St) : St := { s with kind := 3, err := e, text := t }
def dry (fu : Nat) (s : St) : St := { s with used := fu, kind := 3, err := 34, text := [] }
def spend (fu n : Nat) (k : St → St) (s : St) : St := if fu < s.used + n then dry fu s else k { s with used := s.used + n }
def reads (l : List Fl) : List B → B → Sum B B
  | [], acc => .inr acc
  | p :: ps, acc => match Fs.get l p with
    | none => .inl p
    | some d => reads l ps (acc ++ tl d)
def loopF (f : St → St) : Nat → St → St
  | 0, s => s
  | n + 1, s => if over (f s) then f s else loopF f n (f s)
section
variable (fu : Nat) (wf : List Fl → B → B → List Fl × Int) (wo : List Fl → B → List Fl) (names : List B) (up so : B → B)
def lay (path d : B) (s : St) : St := if (wf s.files path d).2 ≠ 0 then fail (wf s.files path d).2 path s else { s with files := (wf s.files path d).1 }
def writes (path : B) (rs : List B) (makes : B → B) (s : St) : St :=
  match reads s.files rs [] with
  | .inl p => spend fu 1 (fail 17 p) s
  | .inr d => spend fu (1 + ((makes d).length + 63) / 64) (lay wf path (makes d)) s
def does (o : Int) (a : List B) (n : Int) (f : St → St) (s : St) : St :=
  if o = 1 then writes fu wf (a.getD 0 []) [] (fun _ => a.getD 1 [] ++ [10]) s
  else if o = 2 then writes fu wf (a.getD 1 []) (a.take 1) id s
  else if o = 3 then writes fu wf (a.getD 0 []) (a.drop 1) id s
  else if o = 4 then writes fu wf (a.getD 0 []) a up s
  else if o = 5 then writes fu wf (a.getD 0 []) a so s
  else spend fu 1 (fun s =>
    if o = 6 then { s with files := wo s.files (a.getD 0 []) }
    else if o = 7 then (if a.getD 0 [] ∈ names then s else { s with kind := 2, need := a.getD 0 [] })
    else if o = 8 then fail 33 (a.getD 0 []) s
    else if o = 9 then loopF f n.toNat s
    else if o = 10 then (if (Fs.get s.files (a.getD 0 [])).isSome then f s else s)
    else s) s
def all : List Stp → St → St
  | [], s => s
  | ⟨o, a, n, b⟩ :: r, s => if over s then s else all r (does fu wf wo names up so o a n (all b) s)
end
structure Fair (fu : Nat) (f : St → St) : Prop where
  over : ∀ s, over s = true → f s = s
  used : ∀ s, s.used ≤ fu → s.used ≤ (f s).used ∧ (f s).used ≤ fu
structure Dry (f1 f2 : Nat) (s1 s2 : St) : Prop where
  k : s1.kind = 3
  e : s1.err = 34
  t : s1.text = []
  u : s1.used = f1
  o : f1 < s2.used ∨ (s2.kind = 3 ∧ s2.err = 34 ∧ s2.used = f2)
structure Tw (f1 f2 : Nat) (s1 s2 : St) : Prop where
  u1 : s1.used ≤ f1
  u2 : s2.used ≤ f2
  same : s1 = s2 ∨ Dry f1 f2 s1 s2
theorem over_of {s : St} (h : s.kind = 3) : over s = true := by unfold over; rw [h]; rfl
theorem Dry.on {f1 f2 : Nat} {g : St → St} (hg : Fair f2 g) {s1 s2 : St} (h2 : s2.used ≤ f2) (h : Dry f1 f2 s1 s2) : Dry f1 f2 s1 (g s2) := by
  refine ⟨h.k, h.e, h.t, h.u, ?_⟩
  rcases h.o with e | ⟨e1, e2, e3⟩
  · have := (hg.used s2 h2).1; exact .inl (by omega)
  · rw [hg.over s2 (over_of e1)]; exact .inr ⟨e1, e2, e3⟩
def Spends (fu : Nat) (f : St → St) : Prop := ∀ s, s.used ≤ fu → s.used ≤ (f s).used ∧ (f s).used ≤ fu
theorem spend_spends {fu n : Nat} {k : St → St} (hk : Spends fu k) : Spends fu (spend fu n k) := fun s hs => by
  unfold spend
  by_cases h : fu < s.used + n
  · rw [if_pos h]; exact ⟨hs, Nat.le_refl _⟩
  · rw [if_neg h]
    have h2 : s.used + n ≤ fu := by omega
    have := hk { s with used := s.used + n } h2
    exact ⟨Nat.le_trans (Nat.le_add_right _ _) this.1, this.2⟩
theorem spends_same {fu : Nat} {k : St → St} (h : ∀ s, (k s).used = s.used) : Spends fu k := fun s hs => by rw [h]; exact ⟨Nat.le_refl _, hs⟩
theorem loop_spends {fu : Nat} {f : St → St} (hf : Spends fu f) : ∀ n, Spends fu (loopF f n)
  | 0 => fun s hs => ⟨Nat.le_refl _, hs⟩
  | n + 1 => fun s hs => by
    have h := hf s hs
    rw [loopF]
    by_cases ho : over (f s) = true
    · rw [if_pos ho]; exact h
    · rw [if_neg ho]
      have h2 := loop_spends hf n (f s) h.2
      exact ⟨Nat.le_trans h.1 h2.1, h2.2⟩
variable {wf : List Fl → B → B → List Fl × Int} {wo : List Fl → B → List Fl} {names : List B} {up so : B → B}
theorem lay_used (p d : B) (s : St) : (lay wf p d s).used = s.used := by unfold lay; split <;> rfl
theorem fail_used (e : Int) (t : B) (s : St) : (fail e t s).used = s.used := rfl
theorem writes_spends {fu : Nat} (p : B) (rs : List B) (mk : B → B) : Spends fu (writes fu wf p rs mk) := fun s hs => by
  unfold writes
  cases reads s.files rs [] with
  | inl q => exact spend_spends (spends_same (fail_used _ _)) s hs
  | inr d => exact spend_spends (spends_same (lay_used _ _)) s hs
theorem does_spends {fu : Nat} (o : Int) (a : List B) (n : Int) {f : St → St} (hf : Fair fu f) : Spends fu (does fu wf wo names up so o a n f) := fun s hs => by
  unfold does
  split
  · exact writes_spends _ _ _ s hs
  split
  · exact writes_spends _ _ _ s hs
  split
  · exact writes_spends _ _ _ s hs
  split
  · exact writes_spends _ _ _ s hs
  split
  · exact writes_spends _ _ _ s hs
  refine spend_spends (fun s hs => ?_) s hs
  split
  · exact ⟨Nat.le_refl _, hs⟩
  split
  · split <;> exact ⟨Nat.le_refl _, hs⟩
  split
  · exact ⟨Nat.le_refl _, hs⟩
  split
  · exact loop_spends hf.used _ s hs
  split
  · split
    · exact hf.used s hs
    · exact ⟨Nat.le_refl _, hs⟩
  · exact ⟨Nat.le_refl _, hs⟩
theorem all_fair (fu : Nat) : ∀ l : List Stp, Fair fu (all fu wf wo names up so l)
  | [] => ⟨fun s _ => by rw [all], fun s hs => by rw [all]; exact ⟨Nat.le_refl _, hs⟩⟩
  | ⟨o, a, n, b⟩ :: r => by
    have hb := all_fair fu b
    have hr := all_fair fu r
    refine ⟨fun s h => by rw [all, if_pos h], fun s hs => ?_⟩
    rw [all]
    by_cases ho : over s = true
    · rw [if_pos ho]; exact ⟨Nat.le_refl _, hs⟩
    · rw [if_neg ho]
      have h1 := does_spends (wf := wf) (wo := wo) (names := names) (up := up) (so := so) o a n hb s hs
      have h2 := hr.used _ h1.2
      exact ⟨Nat.le_trans h1.1 h2.1, h2.2⟩
end Go.Proofs.YtdidnlkilleljaaGreatDoor.Bx
/- BxLaw, what a claim needs of it (prune.py). -/
namespace Go.Proofs.YtdidnlkilleljaaGreatDoor.Bx
open Lg (Stp)
open Fs (B)
set_option linter.unusedVariables false
def Inv (fu : Nat) (s : St) : Prop := s.err = 34 → s.kind = 3 ∧ s.used = fu
theorem Inv.err {fu : Nat} {s : St} (h : Inv fu s) (ho : over s = false) : s.err ≠ 34 := fun e => by
  have := over_of (h e).1
  rw [ho] at this; cases this
variable {wf : List Fl → B → B → List Fl × Int} {wo : List Fl → B → List Fl} {names : List B} {up so : B → B}
def start (l : List Fl) : St := ⟨l, 0, 0, [], 0, []⟩
section
variable (wf wo names up so)
def run (fu : Nat) (l : List Stp) (fs : List Fl) : St := all fu wf wo names up so l (start fs)
end
end Go.Proofs.YtdidnlkilleljaaGreatDoor.Bx
/- BxNeed, what a claim needs of it (prune.py). -/
namespace Go.Proofs.YtdidnlkilleljaaGreatDoor.Bx
open Lg (Stp)
open Fs (B)
set_option linter.unusedVariables false
structure Nd (fu : Nat) (s1 s2 : St) : Prop where
  u1 : s1.used ≤ fu
  u2 : s2.used ≤ fu
  same : s1 = s2 ∨ (s1.kind = 2 ∧ s1.used ≤ s2.used)
variable {wf : List Fl → B → B → List Fl × Int} {wo : List Fl → B → List Fl} {n1 n2 names : List B} {up so : B → B}
theorem kind0 {s : St} (h : over s = false) : s.kind = 0 := by unfold over at h; simpa using h
end Go.Proofs.YtdidnlkilleljaaGreatDoor.Bx
/- BxRow, what a claim needs of it (prune.py). -/
namespace Go.Proofs.YtdidnlkilleljaaGreatDoor.Bx
open Go.RowKit
open Fs (fc fc_len fc_append fc_at fc_cell B)
set_option linter.unusedVariables false
set_option maxRecDepth 100000
theorem setCells_ne {b b' : Nat} (h : b ≠ b') : ∀ (vs : List Value) (o : Nat) (w : World), (w.setCells b o vs).heap[b']? = w.heap[b']?
  | [], _, _ => rfl
  | v :: r, o, w => by rw [World.setCells, setCells_ne h r, heap_set_ne h]
theorem setCells_below {B b : Nat} (hb : B ≤ b) : ∀ (vs : List Value) (o : Nat) (w : World), Below B w (w.setCells b o vs)
  | [], _, _ => Below.refl _ _
  | v :: r, o, w => by rw [World.setCells]; exact ((Below.refl _ _).setCell (p := ⟨b, o, none⟩) hb v).trans (setCells_below hb r (o + 1) _)
theorem setCells_at {b : Nat} {T : TypeId} {fr : Nat × Nat} : ∀ (vs : List Value) (o : Nat) (w : World) (cur : Array Value), w.heap[b]? = some (.cells cur T fr) → o + vs.length ≤ cur.size →
    ∃ cur', (w.setCells b o vs).heap[b]? = some (.cells cur' T fr) ∧ cur'.toList = cur.toList.take o ++ vs ++ cur.toList.drop (o + vs.length)
  | [], o, w, cur, h, _ => ⟨cur, h, by simp⟩
  | v :: r, o, w, cur, h, hs => by
    simp only [List.length_cons] at hs
    obtain ⟨cur', h1, h2⟩ := setCells_at r (o + 1) (w.setCell ⟨b, o, none⟩ v) (cur.setIfInBounds o v) (heap_set h) (by simp; omega)
    refine ⟨cur', h1, h2.trans ?_⟩
    have ho : o < cur.toList.length := by simp; omega
    rw [Array.toList_setIfInBounds, List.length_cons]
    have h5 : (cur.toList.set o v).take (o + 1) = cur.toList.take o ++ [v] := by
      rw [List.take_succ_eq_append_getElem (by simpa using ho), List.take_set, List.set_eq_of_length_le (by simp only [List.length_take]; omega)]
      simp
    have h6 : (cur.toList.set o v).drop (o + 1 + r.length) = cur.toList.drop (o + (r.length + 1)) := by
      rw [List.drop_set_of_lt (by omega), show o + 1 + r.length = o + (r.length + 1) by omega]
    rw [h5, h6]
    simp only [List.append_assoc, List.cons_append, List.nil_append]
section
variable {P : Program}
theorem run_copy2 (w : World) (dT sT ty elem : TypeId) (b o dLen dCap : Nat) (a : Addr) (sLen sCap : Nat) (cs : List Value)
    (hu : P.underlying dT = some (.slice elem)) (hs : (P.info? elem).map (·.size) = some 2) (hn : cs.length = Nat.min sLen dLen * 2)
    (hsrc : ∀ j v, cs[j]? = some v → w.cell? (a.add j) = some v) (hc : ∀ j, j < cs.length → (w.cell? ⟨b, o + j, none⟩).isSome = true) (hf : ∀ j, j < cs.length → w.frozen? ⟨b, o + j, none⟩ = false) (h1 : ∀ v ∈ cs, v.oneCell' = true) :
    (Builtin.copy_ #[dT, sT] ty #[.slice (some ⟨b, o, none⟩) dLen dCap, .slice (some a) sLen sCap]).run P w = .ok (goInt (Nat.min sLen dLen)) (w.setCells b o cs) := by
  have hl := run_loadCells_list (P := P) w a cs hsrc
  have hst := run_storeCells_cells (P := P) b o cs 0 w (by simpa using hc) (by simpa using hf) h1
  cases hq : P.info? elem with
  | none => simp [hq] at hs
  | some i =>
    have hi : i.size = 2 := by simpa [hq] using hs
    simp [Builtin.copy_, run_underlying hu, Builtin.lenOf, Builtin.firstCells, sizeOf, typeInfo, hq, hi, ← hn, hl, hst]
theorem run_clear_cells (w : World) (t e ty : TypeId) (z : Value) (ht : P.underlying t = some (.slice e)) (hv : ∀ w, (zeroValue e).run P w = .ok z w) (b o n c : Nat) (hn : 0 < n)
    (h1 : ∀ v ∈ (Builtin.zeroCells z.cells n).toList, v.oneCell' = true)
    (hc : ∀ j, j < (Builtin.zeroCells z.cells n).toList.length → (w.cell? ⟨b, o + j, none⟩).isSome = true) (hf : ∀ j, j < (Builtin.zeroCells z.cells n).toList.length → w.frozen? ⟨b, o + j, none⟩ = false) :
    (Builtin.clear_ #[t] ty #[.slice (some ⟨b, o, none⟩) n c]).run P w = .ok (.tuple #[]) (w.setCells b o (Builtin.zeroCells z.cells n).toList) := by
  have hst := run_storeCells_cells (P := P) b o (Builtin.zeroCells z.cells n).toList 0 w (by simpa using hc) (by simpa using hf) h1
  simp only [Nat.add_zero] at hst
  obtain ⟨m, rfl⟩ : ∃ m, n = m + 1 := ⟨n - 1, by omega⟩
  simp [Builtin.clear_, run_underlying ht, hv, hst]
end
theorem zero_cells (n : Nat) : (Builtin.zeroCells (Value.agg #[.string ⟨#[]⟩, .string ⟨#[]⟩]).cells n).toList = fc (List.replicate n ⟨⟨#[]⟩, ⟨#[]⟩⟩) := by
  have h : (Value.agg #[.string ⟨#[]⟩, .string ⟨#[]⟩]).cells = #[.string ⟨#[]⟩, .string ⟨#[]⟩] := rfl
  rw [h]
  apply List.ext_getElem?
  intro j
  have hl := fc_len (List.replicate n (⟨⟨#[]⟩, ⟨#[]⟩⟩ : Fl))
  rw [List.length_replicate] at hl
  by_cases hj : j < n * 2
  · have h2 : j / 2 < (List.replicate n (⟨⟨#[]⟩, ⟨#[]⟩⟩ : Fl)).length := by simp; omega
    obtain ⟨e0, e1⟩ := fc_at h2
    have hz : (Builtin.zeroCells #[Value.string ⟨#[]⟩, .string ⟨#[]⟩] n).toList[j]? = some (.string ⟨#[]⟩) := by
      simp [Builtin.zeroCells, hj]
      rcases Nat.mod_two_eq_zero_or_one j with h3 | h3 <;> rw [h3] <;> rfl
    rw [hz]
    rcases Nat.mod_two_eq_zero_or_one j with h3 | h3
    · rw [show j / 2 * 2 = j by omega] at e0
      rw [e0]; simp
    · rw [show j / 2 * 2 + 1 = j by omega] at e1
      rw [e1]; simp
  · rw [List.getElem?_eq_none (by simp [Builtin.zeroCells]; omega), List.getElem?_eq_none (by omega)]
theorem own_open {w : World} {B n : Nat} {v : Value} {l : List Fl} (h : w.ownsRow B 49 2 v n (fc l)) : n = l.length ∧ ((v = .slice none 0 0 ∧ l = []) ∨ ∃ g cap cur, v = .slice (some ⟨g, 0, none⟩) l.length cap ∧ B ≤ g ∧ w.heap[g]? = some (.cells cur 49 (0, 0)) ∧ l.length ≤ cap ∧ cap ≤ maxLen ∧ cur.size = cap * 2 ∧ cur.toList.take (l.length * 2) = fc l) := by
  have hn : n = l.length := by have := h.1; rw [fc_len] at this; omega
  subst hn
  refine ⟨rfl, ?_⟩
  rcases h.2 with ⟨rfl, h0⟩ | ⟨g, cap, cur, rfl, hB, hg, h1, h2, h3, h4⟩
  · exact .inl ⟨rfl, List.eq_nil_of_length_eq_zero h0⟩
  · exact .inr ⟨g, cap, cur, rfl, hB, hg, h1, h2, h3, h4⟩
theorem own_shut {w : World} {B g cap : Nat} {cur : Array Value} {l : List Fl} (hB : B ≤ g) (hg : w.heap[g]? = some (.cells cur 49 (0, 0))) (h1 : l.length ≤ cap) (h2 : cap ≤ maxLen) (h3 : cur.size = cap * 2) (h4 : cur.toList.take (l.length * 2) = fc l) :
    w.ownsRow B 49 2 (.slice (some ⟨g, 0, none⟩) l.length cap) l.length (fc l) := ⟨fc_len l, .inr ⟨g, cap, cur, rfl, hB, hg, h1, h2, h3, h4⟩⟩
theorem own_pos {w : World} {B n m : Nat} {v : Value} {l : List Fl} (h : w.ownsRow B 49 2 v n (fc l)) (hm : l.length = m) (h0 : 0 < m) : ∃ g c, v = .slice (some ⟨g, 0, none⟩) m c := by
  subst hm
  obtain ⟨_, ⟨_, rfl⟩ | ⟨g, cap, cur, rfl, _⟩⟩ := own_open h
  · simp at h0
  · exact ⟨g, cap, rfl⟩
theorem own_slc {w : World} {B n : Nat} {v : Value} {l : List Fl} (h : w.ownsRow B 49 2 v n (fc l)) : ∃ A c, v = .slice A l.length c ∧ l.length ≤ c := by
  obtain ⟨_, ⟨rfl, rfl⟩ | ⟨g, cap, cur, rfl, _, _, h1, _⟩⟩ := own_open h
  · exact ⟨none, 0, rfl, Nat.le_refl _⟩
  · exact ⟨_, cap, rfl, h1⟩
theorem own_past {w : World} {B : Nat} {e : TypeId} {size : Nat} {v : Value} {n : Nat} {xs : List Value} (h : w.ownsRow B e size v n xs) {g : Nat} (hg : g < B) (i : Nat) (u : Value) : (w.setCell ⟨g, i, none⟩ u).ownsRow B e size v n xs := by
  refine ⟨h.1, ?_⟩
  rcases h.2 with h0 | ⟨g', cap, cur, hv, hgg, hcc, h1, h2, h3, h4⟩
  · exact .inl h0
  · exact .inr ⟨g', cap, cur, hv, hgg, (heap_set_ne (by omega)).trans hcc, h1, h2, h3, h4⟩
theorem own_low {w : World} {B B' : Nat} {e : TypeId} {size : Nat} {v : Value} {n : Nat} {xs : List Value} (h : w.ownsRow B e size v n xs) (hB : B' ≤ B) : w.ownsRow B' e size v n xs := by
  refine ⟨h.1, ?_⟩
  rcases h.2 with h0 | ⟨g, cap, cur, hv, hg, hc⟩
  · exact .inl h0
  · exact .inr ⟨g, cap, cur, hv, Nat.le_trans hB hg, hc⟩
theorem own_on {w w' : World} {B : Nat} {e : TypeId} {size : Nat} {v : Value} {n : Nat} {xs : List Value} (h : w.ownsRow B e size v n xs) (k : Below w.heap.size w w') : w'.ownsRow B e size v n xs := by
  refine ⟨h.1, ?_⟩
  rcases h.2 with h0 | ⟨g, cap, cur, hv, hg, hc, h1, h2, h3, h4⟩
  · exact .inl h0
  · exact .inr ⟨g, cap, cur, hv, hg, heap_below k (lt_heap hc) hc, h1, h2, h3, h4⟩
theorem fc_take (l : List Fl) (k : Nat) : (fc l).take (k * 2) = fc (l.take k) := by
  by_cases h : k ≤ l.length
  · have e : fc l = fc (l.take k) ++ fc (l.drop k) := by rw [← fc_append, List.take_append_drop]
    rw [e, List.take_append_of_le_length (by rw [fc_len]; simp; omega), List.take_of_length_le (by rw [fc_len]; simp; omega)]
  · rw [List.take_of_length_le (by rw [fc_len]; omega), List.take_of_length_le (by omega)]
theorem fc_drop (l : List Fl) (k : Nat) : (fc l).drop (k * 2) = fc (l.drop k) := by
  by_cases h : k ≤ l.length
  · have e : fc l = fc (l.take k) ++ fc (l.drop k) := by rw [← fc_append, List.take_append_drop]
    have hl : (fc (l.take k)).length = k * 2 := by rw [fc_len]; simp; omega
    rw [e, ← hl, List.drop_left]
  · rw [List.drop_eq_nil_of_le (by rw [fc_len]; omega), List.drop_eq_nil_of_le (by omega)]; rfl
theorem cur_at {cur : Array Value} {l : List Fl} (h : cur.toList.take (l.length * 2) = fc l) {j : Nat} {v : Value} (hv : (fc l)[j]? = some v) : cur[j]? = some v := by
  rw [← h, List.getElem?_take] at hv
  split at hv
  · simpa using hv
  · cases hv
end Go.Proofs.YtdidnlkilleljaaGreatDoor.Bx
/- BxClone, what a claim needs of it (prune.py). -/
namespace Go.Proofs.YtdidnlkilleljaaGreatDoor.Bx
open Go.RowKit
open Fs (fc fc_len fc_cell Fls FilesOwn infoF B)
set_option linter.unusedVariables false
set_option maxRecDepth 100000
set_option maxHeartbeats 2000000 in
theorem clone_any (A : Option Addr) (l : List Fl) (c : Nat) (w : World) (hr : Fls w A l) (hl : l.length ≤ 1000000) :
    Calls Tryz.prog 136 #[.slice A l.length c] w (FilesOwn l w) := by
  have qn : ∀ (w : World) (a : Option Addr) (n c n' c' : Nat), (binOp .eql 23 (.slice a n c) (.slice none n' c')).run Tryz.prog w = .ok (.bool a.isNone) w := fun w a n c n' c' => Lib.run_eql_slice_nil w _ _ a n c n' c' Tryz.underlying23
  rcases A with _ | ad
  · have h0 : l = [] := by
      rcases l with _ | ⟨x, l⟩
      · rfl
      · obtain ⟨ad, h, _⟩ := hr.2 (by simp)
        cases h
    subst h0
    have EN : Hid (∀ v w', w'.ownsRow w.heap.size 49 2 v ([] : List Fl).length (fc []) → Below w.heap.size w w' → FilesOwn [] w (.returned v) w') := Lib.hid fun v w' h hb => ⟨v, rfl, h, hb⟩
    generalize FilesOwn [] w = Q at *
    go_enter Tryz.func136, Tryz.ntmps136
    go_wp2_with (fail)
    exact EN.out _ _ (World.ownsRow_nil _ _ _ _) (Below.refl _ _)
  · obtain ⟨z, hzi, hzs⟩ := infoF
    obtain ⟨i0, hi, hz0, hz1, hz2⟩ := Lg.info_parts hzi
    have EN : Hid (∀ v w', w'.ownsRow w.heap.size 49 2 v l.length (fc l) → Below w.heap.size w w' → FilesOwn l w (.returned v) w') := Lib.hid fun v w' h hb => ⟨v, rfl, h, hb⟩
    have HC := Lib.hid (fc_cell l)
    obtain ⟨W1, eW⟩ : ∃ W1, W1 = w.alloc (.cells #[] 49) := ⟨_, rfl⟩
    have hb1 : Below w.heap.size w W1 := by rw [eW]; exact (Below.refl _ _).alloc (Nat.le_refl _) _
    have own0 : W1.ownsRow w.heap.size 49 2 (.slice (some ⟨w.heap.size, 0, none⟩) 0 0) 0 [] := by rw [eW]; exact World.ownsRow_made w #[] 0 (Nat.le_refl _) (Nat.zero_le _) rfl
    have RD : Hid (Reads W1 w.heap.size 2 (some ad) l.length (fc l)) := Lib.hid (hr.below hb1)
    have HB := Lib.hid hb1
    clear hr hb1 hzi
    generalize fc l = cs at *
    generalize FilesOwn l w = Q at *
    go_enter Tryz.func136, Tryz.ntmps136
    go_wp2_with (at_builtin; rw [← eW]; refine wpList_append_any _ rfl (.tmp 5) (.tmp 6) 23 rfl w.heap.size 49 i0 z 2 32 Tryz.underlying23 hi hz0 hz1 hz2 hzs (by decide) (.slice (some ⟨w.heap.size, 0, none⟩) 0 0) 0 [] rfl own0 w.heap.size (some ad) l.length c cs rfl RD.out HC.out (by simp only [maxLen]; omega) (by omega) HB.out.size ?_; intro v' w1 hown hg hat; have hb2 := HB.out.grown hg HB.out.size (fun k hk => by simp [Value.ownBlock] at hk; omega); rw [Nat.zero_add, List.nil_append] at hown)
    exact EN.out _ _ hown hb2
end Go.Proofs.YtdidnlkilleljaaGreatDoor.Bx
/- BxInsert, what a claim needs of it (prune.py). -/
namespace Go.Proofs.YtdidnlkilleljaaGreatDoor.Bx
open Go.RowKit
open Fs (fc fc_len fc_cell fc_append fc_one Fls infoF B)
set_option linter.unusedVariables false
set_option maxRecDepth 100000
theorem shift_list {C P D : List Value} {a : Nat} (hP : P.length = 2) (ha : a + 2 ≤ C.length) :
    (((C.take (a + 2) ++ D ++ C.drop (a + 2 + D.length)).take a) ++ P ++ ((C.take (a + 2) ++ D ++ C.drop (a + 2 + D.length)).drop (a + 2))).take (a + 2 + D.length) = C.take a ++ P ++ D := by
  have h1 : (C.take (a + 2)).length = a + 2 := by simp; omega
  have h2 : (C.take (a + 2) ++ D ++ C.drop (a + 2 + D.length)).take a = C.take a := by
    rw [List.append_assoc, List.take_append_of_le_length (by omega), List.take_take, Nat.min_eq_left (by omega)]
  have h3 : (C.take (a + 2) ++ D ++ C.drop (a + 2 + D.length)).drop (a + 2) = D ++ C.drop (a + 2 + D.length) := by
    rw [List.append_assoc, List.drop_append_of_le_length (by omega), List.drop_eq_nil_of_le (by omega), List.nil_append]
  have h4 : (C.take a).length = a := by simp; omega
  rw [h2, h3, ← List.append_assoc]
  rw [List.take_append_of_le_length (by simp only [List.length_append, h4, hP]; omega), List.take_of_length_le (by simp only [List.length_append, h4, hP]; omega)]
theorem grow_list {C P D : List Value} {a : Nat} (hP : P.length = 2) (ha : a + 2 ≤ C.length) :
    (((C.take a ++ P ++ C.drop (a + 2)).take (a + 2)) ++ D ++ ((C.take a ++ P ++ C.drop (a + 2)).drop (a + 2 + D.length))).take (a + 2 + D.length) = C.take a ++ P ++ D := by
  have h4 : (C.take a).length = a := by simp; omega
  have h2 : (C.take a ++ P ++ C.drop (a + 2)).take (a + 2) = C.take a ++ P := by
    rw [List.take_append_of_le_length (by simp only [List.length_append, h4, hP]; omega), List.take_of_length_le (by simp only [List.length_append, h4, hP]; omega)]
  rw [h2, List.take_append_of_le_length (by simp only [List.length_append, h4, hP]; omega), List.take_of_length_le (by simp only [List.length_append, h4, hP]; omega)]
theorem fc_ins (l : List Fl) (f : Fl) (i : Nat) : fc (l.take i ++ f :: l.drop i) = fc (l.take i) ++ [.string f.p, .string f.d] ++ fc (l.drop i) := by
  rw [fc_append, show f :: l.drop i = [f] ++ l.drop i from rfl, fc_append, fc_one, List.append_assoc]
def InsSays (B0 : Nat) (l : List Fl) (f : Fl) (i : Nat) (w : World) (e : Ending) (w' : World) : Prop := ∃ v', e = .returned v' ∧ w'.ownsRow B0 49 2 v' (l.take i ++ f :: l.drop i).length (fc (l.take i ++ f :: l.drop i)) ∧ Below B0 w w'
theorem ins_len {l : List Fl} {f : Fl} {i : Nat} (hi : i ≤ l.length) : (l.take i ++ f :: l.drop i).length = l.length + 1 := by simp; omega
set_option maxHeartbeats 4000000 in
theorem insert_end (B0 : Nat) (v : Value) (l : List Fl) (f : Fl) (vb : Nat) (w : World) (ho : w.ownsRow B0 49 2 v l.length (fc l)) (hv : w.heap[vb]? = some (.cells #[.string f.p, .string f.d] 49 (0, 0))) (hB : B0 ≤ w.heap.size) (hl : l.length ≤ 1000) :
    Calls Tryz.prog 138 #[v, .int .i64 l.length, .slice (some ⟨vb, 0, none⟩) 1 1] w (InsSays B0 l f l.length w) := by
  obtain ⟨z, hzi, hzs⟩ := infoF
  obtain ⟨i0, hi, hz0, hz1, hz2⟩ := Lg.info_parts hzi
  have RV : Hid (Reads w w.heap.size 2 (some ⟨vb, 0, none⟩) 1 [.string f.p, .string f.d]) := Lib.hid ⟨rfl, fun _ => ⟨_, rfl, lt_heap hv, fun j u hu => by rw [Lg.add_eq, cell_heap hv]; simpa using hu⟩⟩
  have hf1 := fc_cell [f]
  rw [fc_one] at hf1
  have EN : Hid (∀ v' w', w'.ownsRow B0 49 2 v' (l.length + 1) (fc l ++ [.string f.p, .string f.d]) → Below B0 w w' → InsSays B0 l f l.length w (.returned v') w') := Lib.hid fun v' w' h hb => ⟨v', rfl, by
    rw [ins_len (Nat.le_refl _), fc_ins, List.take_length, List.drop_length]
    simpa [fc] using h, hb⟩
  have hLT := fun g (hg : v.ownBlock = some g) => (ho.lt g hg).1
  have HLT := Lib.hid hLT
  have HO := Lib.hid ho
  clear hLT hzi hv
  generalize InsSays B0 l f l.length w = Q at *
  obtain ⟨_, h | ⟨g, cap, cur, rfl, hg, hh, hc, hc2, _⟩⟩ := own_open ho
  · obtain ⟨rfl, rfl⟩ := h
    clear ho
    go_enter Tryz.func138, Tryz.ntmps138
    go_wp2_with (at_builtin; refine wpList_append_any _ rfl (.tmp 23) (.tmp 24) 23 rfl B0 49 i0 z 2 32 Tryz.underlying23 hi hz0 hz1 hz2 hzs (by decide) (.slice none 0 0) 0 (fc []) rfl HO.out w.heap.size (some ⟨vb, 0, none⟩) 1 1 [.string f.p, .string f.d] rfl RV.out hf1 (by simp only [maxLen]; omega) (by omega) hB ?_; intro v' w1 hown hgr hat; have HN := Lib.hid hown; have hb2 := Lib.hid ((Below.refl B0 w).grown hgr hB (fun k hk => HLT.out k hk)); clear hown hgr hat)
    exact EN.out _ _ (by simpa using HN.out) hb2.out
  · clear ho hh
    unfold maxLen at hc2
    by_cases hcl : cap = l.length
    all_goals
      go_enter Tryz.func138, Tryz.ntmps138
      go_wp2_with (at_builtin; refine wpList_append_any _ rfl (.tmp 23) (.tmp 24) 23 rfl B0 49 i0 z 2 32 Tryz.underlying23 hi hz0 hz1 hz2 hzs (by decide) (.slice (some ⟨g, 0, none⟩) l.length cap) l.length (fc l) rfl HO.out w.heap.size (some ⟨vb, 0, none⟩) 1 1 [.string f.p, .string f.d] rfl RV.out hf1 (by simp only [maxLen]; omega) (by omega) hB ?_; intro v' w1 hown hgr hat; have HN := Lib.hid hown; have hb2 := Lib.hid ((Below.refl B0 w).grown hgr hB (fun k hk => HLT.out k hk)); clear hown hgr hat)
      exact EN.out _ _ HN.out hb2.out
end Go.Proofs.YtdidnlkilleljaaGreatDoor.Bx
/- BxInsert2, what a claim needs of it (prune.py). -/
namespace Go.Proofs.YtdidnlkilleljaaGreatDoor.Bx
open Go.RowKit
open Fs (fc fc_len fc_cell fc_append fc_one Fls infoF B)
set_option linter.unusedVariables false
set_option maxRecDepth 100000
theorem size2 : (Tryz.prog.info? 49).map (·.size) = some 2 := by kernel_rfl
theorem heap_drew (w : World) (b : Nat) : w.drew.heap[b]? = w.heap[b]? := rfl
set_option maxHeartbeats 4000000 in
theorem insert_room (B0 g cap : Nat) (cur : Array Value) (l : List Fl) (f : Fl) (i vb : Nat) (w : World) (hBg : B0 ≤ g) (hh : w.heap[g]? = some (.cells cur 49 (0, 0))) (hcs : cur.size = cap * 2) (hcc : cur.toList.take (l.length * 2) = fc l) (hi : i < l.length) (hr : l.length + 1 ≤ cap) (hc2 : cap ≤ maxLen)
    (hv : w.heap[vb]? = some (.cells #[.string f.p, .string f.d] 49 (0, 0))) (hne : vb ≠ g) :
    Calls Tryz.prog 138 #[.slice (some ⟨g, 0, none⟩) l.length cap, .int .i64 i, .slice (some ⟨vb, 0, none⟩) 1 1] w (InsSays B0 l f i w) := by
  have hdl : (fc (l.drop i)).length = (l.length - i) * 2 := by rw [fc_len, List.length_drop]
  obtain ⟨cur2, k1, k2⟩ := setCells_at (fc (l.drop i)) ((i + 1) * 2) w.drew cur hh (by omega)
  have hz2 : cur2.size = cap * 2 := by
    have := congrArg List.length k2
    simp only [Array.length_toList, List.length_append, List.length_take, List.length_drop] at this
    omega
  obtain ⟨W2, eW2⟩ : ∃ W2, W2 = w.drew.setCells g ((i + 1) * 2) (fc (l.drop i)) := ⟨_, rfl⟩
  rw [← eW2] at k1
  obtain ⟨cur3, k3, k4⟩ := setCells_at [.string f.p, .string f.d] (i * 2) W2 cur2 k1 (by simp; omega)
  have hz3 : cur3.size = cap * 2 := by
    have := congrArg List.length k4
    simp only [Array.length_toList, List.length_append, List.length_take, List.length_drop, List.length_cons, List.length_nil] at this
    omega
  obtain ⟨W3, eW3⟩ : ∃ W3, W3 = W2.setCells g (i * 2) [.string f.p, .string f.d] := ⟨_, rfl⟩
  rw [← eW3] at k3
  have hcp1 : ∀ ty n1 c1 n2 c2, Nat.min n2 n1 = l.length - i → (Builtin.copy_ #[23, 23] ty #[.slice (some ⟨g, (i + 1) * 2, none⟩) n1 c1, .slice (some ⟨g, i * 2, none⟩) n2 c2]).run Tryz.prog w.drew = .ok (goInt (l.length - i : Nat)) W2 := fun ty n1 c1 n2 c2 hm => by
    rw [eW2, ← hm]
    exact run_copy2 w.drew _ _ ty 49 g ((i + 1) * 2) n1 c1 ⟨g, i * 2, none⟩ n2 c2 (fc (l.drop i)) Tryz.underlying23 size2 (by rw [hdl, hm])
      (fun j v hj => by
        rw [Addr.add_lit, cell_heap (w := w.drew) hh]
        rw [← fc_drop, List.getElem?_drop] at hj
        exact cur_at hcc hj)
      (fun j hj => by rw [cell_heap (w := w.drew) hh, Array.getElem?_eq_getElem (by omega)]; rfl) (fun j hj => frozen_heap (w := w.drew) hh _) (fc_cell _)
  have hcp2 : ∀ ty n1 c1, 0 < n1 → (Builtin.copy_ #[23, 23] ty #[.slice (some ⟨g, i * 2, none⟩) n1 c1, .slice (some ⟨vb, 0, none⟩) 1 1]).run Tryz.prog W2 = .ok (goInt (1 : Nat)) W3 := fun ty n1 c1 hm => by
    have hmin : Nat.min 1 n1 = 1 := Nat.min_eq_left hm
    have hv2 : W2.heap[vb]? = some (.cells #[.string f.p, .string f.d] 49 (0, 0)) := by rw [eW2, setCells_ne (fun e => hne e.symm)]; exact hv
    have hf1 := fc_cell [f]
    rw [fc_one] at hf1
    have := run_copy2 (P := Tryz.prog) W2 23 23 ty 49 g (i * 2) n1 c1 ⟨vb, 0, none⟩ 1 1 [.string f.p, .string f.d] Tryz.underlying23 size2 (by rw [hmin]; rfl)
      (fun j v hj => by rw [Lg.add_eq, cell_heap hv2]; simpa using hj)
      (fun j hj => by rw [cell_heap k1, Array.getElem?_eq_getElem (by simp at hj; omega)]; rfl) (fun j hj => frozen_heap k1 _) hf1
    rw [this, hmin, eW3]
  have hov : ∀ lb cb, (callFunc 184 #[.slice (some ⟨vb, 0, none⟩) 1 1, .slice (some ⟨g, (i + 1) * 2, none⟩) lb cb]).run Tryz.prog w = .ok (.value (.bool false)) w := fun lb cb => by
    rw [run_callFunc_extern Tryz.func184 (by kernel_rfl) (by kernel_rfl) (by kernel_rfl) (e := Extern.SlicesOverlaps.overlaps #[23, 23] #[4]) (by kernel_rfl),
      Lib.run_overlaps_apart w 23 4 49 Tryz.underlying23 2 (fun _ => by kernel_rfl) ⟨vb, 0, none⟩ ⟨g, (i + 1) * 2, none⟩ 1 1 lb cb hne 49 49 2 (cap * 2) (by simp [World.shape?, hv]) (by simp [World.shape?, hh, hcs]) (by omega) (frozen_heap hv _) (frozen_heap hv _)]
    rfl
  have EN : Hid (InsSays B0 l f i w (.returned (.slice (some ⟨g, 0, none⟩) (l.length + 1) cap)) W3) := Lib.hid (by
    refine ⟨_, rfl, ?_, ?_⟩
    · rw [← ins_len (f := f) (Nat.le_of_lt hi)]
      refine own_shut hBg k3 (by rw [ins_len (Nat.le_of_lt hi)]; exact hr) hc2 hz3 ?_
      rw [ins_len (Nat.le_of_lt hi), fc_ins, k4, k2]
      have := shift_list (C := cur.toList) (P := [.string f.p, .string f.d]) (D := fc (l.drop i)) (a := i * 2) rfl (by simp; omega)
      rw [show (i + 1) * 2 = i * 2 + 2 by omega, show (l.length + 1) * 2 = i * 2 + 2 + (fc (l.drop i)).length by omega]
      rw [show i * 2 + [Value.string f.p, .string f.d].length = i * 2 + 2 from rfl, this]
      congr 2
      rw [← fc_take, ← hcc, List.take_take, Nat.min_eq_left (by omega)]
    · rw [eW3, eW2]
      exact ((Below.refl _ _).drew.trans (setCells_below hBg _ _ _)).trans (setCells_below hBg _ _ _))
  clear eW2 eW3 k1 k2 k3 k4 hz2 hz3 hdl hcs hcc hh hv hne hBg
  generalize InsSays B0 l f i w = Q at *
  unfold maxLen at hc2
  have h1 : ¬ ((i : Int) = (l.length : Int)) := by omega
  have h2 : ¬ (cap : Int) < (l.length : Int) + 1 := by omega
  have h3 : ¬ cap = i := by omega
  have h4 : ¬ cap = i + 1 := by omega
  have h5 : i ≤ l.length := by omega
  have h8 : (i : Int) ≤ (l.length : Int) + 1 := by omega
  have h9 : i ≤ l.length + 1 := by omega
  have hw1 : IntKind.i64.wrap ((i : Int) + 1) = (i : Int) + 1 := by rw [IntKind.wrap_i64]; omega
  have hb1 : (0 : Int) ≤ (i : Int) + 1 := by omega
  have htn : ((i : Int) + 1).toNat = i + 1 := by omega
  have H1 := Lib.hid hcp1
  have H2 := Lib.hid hcp2
  clear hcp1 hcp2
  go_enter Tryz.func138, Tryz.ntmps138
  go_wp2_with (simp only [hov])
  go_region_law (refine step_copy_runI rfl _ _ 23 23 rfl (.slice (some ⟨g, (i + 1) * 2, none⟩) (l.length + 1 - (i + 1)) (cap - (i + 1))) (.slice (some ⟨g, i * 2, none⟩) (l.length + 1 - i) (cap - i)) (by simp [Act.eval, Act.put]) (by simp [Act.eval, Act.put]) (H1.out _ _ _ _ _ (by show min _ _ = _; omega)) ?_)
  have hc2 := H2.out 3 (l.length + 1 - i) (cap - i) (by omega)
  go_wp2_with (fail)
  exact EN.out
set_option maxHeartbeats 4000000 in
theorem insert_grow (B0 g : Nat) (cur : Array Value) (l : List Fl) (f : Fl) (i vb : Nat) (w : World) (hBw : B0 ≤ w.heap.size) (hh : w.heap[g]? = some (.cells cur 49 (0, 0))) (hcs : cur.size = l.length * 2) (hcc : cur.toList.take (l.length * 2) = fc l) (hi : i < l.length) (hl : l.length ≤ 1000)
    (hv : w.heap[vb]? = some (.cells #[.string f.p, .string f.d] 49 (0, 0))) :
    Calls Tryz.prog 138 #[.slice (some ⟨g, 0, none⟩) l.length l.length, .int .i64 i, .slice (some ⟨vb, 0, none⟩) 1 1] w (InsSays B0 l f i w) := by
  obtain ⟨z, hzi, hzs⟩ := infoF
  obtain ⟨i0, hi0, hz0, hz1, hzb⟩ := Lg.info_parts hzi
  have hdl : (fc (l.drop i)).length = (l.length - i) * 2 := by rw [fc_len, List.length_drop]
  have htl : (fc (l.take i)).length = i * 2 := by rw [fc_len, List.length_take, Nat.min_eq_left (by omega)]
  obtain ⟨G, hG⟩ : ∃ G, G = grownCap w (l.length + 1) l.length 49 := ⟨_, rfl⟩
  have hGn : l.length + 1 ≤ G := by rw [hG]; exact grownCap_ge w _ _ _
  have hGm : G ≤ maxLen := by rw [hG]; exact grownCap_le_maxLen w (l.length + 1) l.length 49 (by unfold maxLen; omega)
  obtain ⟨ROW, hROW⟩ : ∃ ROW : Array Value, ROW = (fc (l.take i)).toArray ++ Builtin.zeroCells z.cells (l.length + 1 - i) ++ Builtin.zeroCells z.cells (G - (l.length + 1)) := ⟨_, rfl⟩
  have hRs : ROW.size = G * 2 := by
    rw [hROW]
    simp only [Array.size_append, List.size_toArray, Builtin.zeroCells, Array.size_map, Array.size_range, hzs, htl]
    omega
  have hRt : ROW.toList.take (i * 2) = fc (l.take i) := by
    rw [hROW]
    simp only [Array.toList_append]
    rw [List.append_assoc, List.take_append_of_le_length (by rw [htl]; exact Nat.le_refl _), List.take_of_length_le (by rw [htl]; exact Nat.le_refl _)]
  obtain ⟨W1, eW1⟩ : ∃ W1, W1 = w.drew.alloc (.cells ROW 49) := ⟨_, rfl⟩
  have q1 : W1.heap[w.heap.size]? = some (.cells ROW 49 (0, 0)) := by rw [eW1]; exact heap_alloc_new w.drew _
  have hlg := lt_heap hh
  have hlv := lt_heap hv
  have hh1 : W1.heap[g]? = some (.cells cur 49 (0, 0)) := by rw [eW1]; exact heap_alloc_lt (w := w.drew) hh
  have hv1 : W1.heap[vb]? = some (.cells #[.string f.p, .string f.d] 49 (0, 0)) := by rw [eW1]; exact heap_alloc_lt (w := w.drew) hv
  obtain ⟨cur2, k1, k2⟩ := setCells_at [.string f.p, .string f.d] (i * 2) W1 ROW q1 (by simp; omega)
  have hz2 : cur2.size = G * 2 := by
    have := congrArg List.length k2
    simp only [Array.length_toList, List.length_append, List.length_take, List.length_drop, List.length_cons, List.length_nil] at this
    omega
  obtain ⟨W2, eW2⟩ : ∃ W2, W2 = W1.setCells w.heap.size (i * 2) [.string f.p, .string f.d] := ⟨_, rfl⟩
  rw [← eW2] at k1
  obtain ⟨cur3, k3, k4⟩ := setCells_at (fc (l.drop i)) ((i + 1) * 2) W2.drew cur2 k1 (by omega)
  have hz3 : cur3.size = G * 2 := by
    have := congrArg List.length k4
    simp only [Array.length_toList, List.length_append, List.length_take, List.length_drop] at this
    omega
  obtain ⟨W3, eW3⟩ : ∃ W3, W3 = W2.drew.setCells w.heap.size ((i + 1) * 2) (fc (l.drop i)) := ⟨_, rfl⟩
  rw [← eW3] at k3
  have hold : (Builtin.firstCells i0.size i (.slice (some ⟨g, 0, none⟩) i l.length)).run Tryz.prog w.drew = .ok (fc (l.take i)).toArray w.drew := by
    rw [hz1]
    have hl0 := run_loadCells_list (P := Tryz.prog) w.drew ⟨g, 0, none⟩ (fc (l.take i)) (fun j v hj => by
      rw [Lg.add_eq, cell_heap (w := w.drew) hh]
      rw [← fc_take, List.getElem?_take] at hj
      split at hj
      · exact cur_at hcc hj
      · cases hj)
    rw [htl] at hl0
    simpa [Builtin.firstCells] using hl0
  have hrz : ∀ ty, (Builtin.append_ #[23, 3] ty #[.slice (some ⟨g, 0, none⟩) i l.length, .int .i64 ((l.length : Int) + 1 - (i : Int))]).run Tryz.prog w = .ok (.slice (some ⟨w.heap.size, 0, none⟩) (l.length + 1) G) W1 := fun ty => by
    have h := Lib.run_append_grow_zeros (P := Tryz.prog) w 23 3 ty 49 i0 _ .i64 .i64 Tryz.underlying23 Tryz.underlying3 hi0 hz0 (some ⟨g, 0, none⟩) i l.length (fc (l.take i)) hold (l.length + 1 - i) (by omega) (by rw [hz1]; omega) (by omega) (by omega) (by rw [hzb]; omega) (by rw [hzb, show i + (l.length + 1 - i) = l.length + 1 by omega]; exact growslice_fits (by omega) (by omega))
    rw [show i + (l.length + 1 - i) = l.length + 1 by omega, ← hG, ← hROW, ← eW1] at h
    rw [show (l.length : Int) + 1 - (i : Int) = ((l.length + 1 - i : Nat) : Int) by omega]
    exact h
  have hcpA : ∀ ty n1 c1, 0 < n1 → (Builtin.copy_ #[23, 23] ty #[.slice (some ⟨w.heap.size, i * 2, none⟩) n1 c1, .slice (some ⟨vb, 0, none⟩) 1 1]).run Tryz.prog W1 = .ok (goInt (1 : Nat)) W2 := fun ty n1 c1 hm => by
    have hmin : Nat.min 1 n1 = 1 := Nat.min_eq_left hm
    have hf1 := fc_cell [f]
    rw [fc_one] at hf1
    have := run_copy2 (P := Tryz.prog) W1 23 23 ty 49 w.heap.size (i * 2) n1 c1 ⟨vb, 0, none⟩ 1 1 [.string f.p, .string f.d] Tryz.underlying23 size2 (by rw [hmin]; rfl)
      (fun j v hj => by rw [Lg.add_eq, cell_heap hv1]; simpa using hj)
      (fun j hj => by rw [cell_heap q1, Array.getElem?_eq_getElem (by simp at hj; omega)]; rfl) (fun j hj => frozen_heap q1 _) hf1
    rw [this, hmin, eW2]
  have hcpB : ∀ ty n1 c1 n2 c2, Nat.min n2 n1 = l.length - i → (Builtin.copy_ #[23, 23] ty #[.slice (some ⟨w.heap.size, (i + 1) * 2, none⟩) n1 c1, .slice (some ⟨g, i * 2, none⟩) n2 c2]).run Tryz.prog W2.drew = .ok (goInt (l.length - i : Nat)) W3 := fun ty n1 c1 n2 c2 hm => by
    have hh2 : W2.drew.heap[g]? = some (.cells cur 49 (0, 0)) := by rw [heap_drew, eW2, setCells_ne (by omega)]; exact hh1
    rw [eW3, ← hm]
    exact run_copy2 W2.drew _ _ ty 49 w.heap.size ((i + 1) * 2) n1 c1 ⟨g, i * 2, none⟩ n2 c2 (fc (l.drop i)) Tryz.underlying23 size2 (by rw [hdl, hm])
      (fun j v hj => by
        rw [Addr.add_lit, cell_heap hh2]
        rw [← fc_drop, List.getElem?_drop] at hj
        exact cur_at hcc hj)
      (fun j hj => by rw [cell_heap (w := W2.drew) k1, Array.getElem?_eq_getElem (by omega)]; rfl) (fun j hj => frozen_heap (w := W2.drew) k1 _) (fc_cell _)
  have EN : Hid (InsSays B0 l f i w (.returned (.slice (some ⟨w.heap.size, 0, none⟩) (l.length + 1) G)) W3) := Lib.hid (by
    refine ⟨_, rfl, ?_, ?_⟩
    · rw [← ins_len (f := f) (Nat.le_of_lt hi)]
      refine own_shut hBw k3 (by rw [ins_len (Nat.le_of_lt hi)]; exact hGn) hGm hz3 ?_
      rw [ins_len (Nat.le_of_lt hi), fc_ins, k4, k2]
      have := grow_list (C := ROW.toList) (P := [.string f.p, .string f.d]) (D := fc (l.drop i)) (a := i * 2) rfl (by simp; omega)
      rw [show (i + 1) * 2 = i * 2 + 2 by omega, show (l.length + 1) * 2 = i * 2 + 2 + (fc (l.drop i)).length by omega]
      rw [show i * 2 + [Value.string f.p, .string f.d].length = i * 2 + 2 from rfl, this, hRt]
    · rw [eW3, eW2, eW1]
      exact (((Below.refl _ _).drew.alloc hBw _).trans (setCells_below hBw _ _ _)).drew.trans (setCells_below hBw _ _ _))
  clear eW1 eW2 eW3 k1 k2 k3 k4 hz2 hz3 hdl htl hcs hcc hh hv hh1 hv1 q1 hold hROW hRs hRt hG hlg hlv hBw hzi hzs hi0 hz0 hz1 hzb
  generalize InsSays B0 l f i w = Q at *
  generalize w.heap.size = N at *
  unfold maxLen at hGm
  have h1 : ¬ ((i : Int) = (l.length : Int)) := by omega
  have h2 : (l.length : Int) < (l.length : Int) + 1 := by omega
  have h3 : ¬ l.length = i := by omega
  have h4 : ¬ G = i + 1 := by omega
  have h5 : i ≤ l.length := by omega
  have h8 : (i : Int) ≤ (l.length : Int) + 1 := by omega
  have h9 : i ≤ l.length + 1 := by omega
  have h6 : ¬ G = i := by omega
  have h7 : (i : Int) ≤ (l.length : Int) := by omega
  have hw1 : IntKind.i64.wrap ((i : Int) + 1) = (i : Int) + 1 := by rw [IntKind.wrap_i64]; omega
  have hb1 : (0 : Int) ≤ (i : Int) + 1 := by omega
  have htn : ((i : Int) + 1).toNat = i + 1 := by omega
  have HZ := Lib.hid hrz
  have H1 := Lib.hid hcpA
  have H2 := Lib.hid hcpB
  clear hcpA hcpB hrz
  go_enter Tryz.func138, Tryz.ntmps138
  have hc2 := H1.out 3 (l.length + 1 - i) (G - i) (by omega)
  go_wp2_with (at_builtin; refine Lib.wpList_append_run _ rfl _ _ _ _ rfl _ _ rfl rfl _ _ (HZ.out _) ?_)
  go_region_law (refine step_copy_runI rfl _ _ 23 23 rfl (.slice (some ⟨N, (i + 1) * 2, none⟩) (l.length + 1 - (i + 1)) (G - (i + 1))) (.slice (some ⟨g, i * 2, none⟩) (l.length - i) (l.length - i)) (by simp [Act.eval, Act.put]) (by simp [Act.eval, Act.put]) (H2.out _ _ _ _ _ (by show min _ _ = _; omega)) ?_)
  go_wp2
  exact EN.out
theorem insert_any (B0 : Nat) (v : Value) (l : List Fl) (f : Fl) (i vb : Nat) (w : World) (ho : w.ownsRow B0 49 2 v l.length (fc l)) (hv : w.heap[vb]? = some (.cells #[.string f.p, .string f.d] 49 (0, 0))) (hB : B0 ≤ w.heap.size) (hl : l.length ≤ 1000) (hi : i ≤ l.length) (hne : v.ownBlock ≠ some vb) :
    Calls Tryz.prog 138 #[v, .int .i64 i, .slice (some ⟨vb, 0, none⟩) 1 1] w (InsSays B0 l f i w) := by
  rcases Nat.lt_or_ge i l.length with h | h
  · obtain ⟨_, ⟨_, rfl⟩ | ⟨g, cap, cur, rfl, hBg, hh, hc, hc2, h3, h4⟩⟩ := own_open ho
    · simp at h
    · have hg : vb ≠ g := fun e => hne (by rw [e]; rfl)
      rcases Nat.lt_or_ge l.length cap with h5 | h5
      · exact insert_room B0 g cap cur l f i vb w hBg hh h3 h4 h h5 hc2 hv hg
      · obtain rfl : cap = l.length := by omega
        exact insert_grow B0 g cur l f i vb w hB hh h3 h4 h hl hv
  · obtain rfl : i = l.length := by omega
    exact insert_end B0 v l f vb w ho hv hB hl
end Go.Proofs.YtdidnlkilleljaaGreatDoor.Bx
