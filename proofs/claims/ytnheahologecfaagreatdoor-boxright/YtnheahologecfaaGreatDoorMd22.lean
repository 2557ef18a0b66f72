/- Joined by mkmerged.py: BxSpec, BxLaw, BxNeed. -/
import Derived.Test.YtnheahologecfaaGreatDoorMd03
import Derived.Test.YtnheahologecfaaGreatDoorMd19
/- BxSpec, what a claim needs of it (prune.py). -/
namespace Go.Proofs.YtnheahologecfaaGreatDoor.Bx
open Lg (Stp)
open Fs (B)
set_option linter.unusedVariables false
structure St where
  files : List Fl
  used : Nat
  kind : Nat
  need : B
  err : Int
  text : B
def over (s : St) : Bool := decide (s.kind ≠ 0)
def fail (e : Int) (t : B) (s : St) : St := { s with kind := 3, err := e, text := t }
def dry (fu : Nat) (s : St) : St := { s with used := fu, kind := 3, err := 34, text := [] }
def spend (fu n : Nat) (k : St → St) (s : St) : St := if fu < s.used + n then dry fu s else k { s with used := s.used + n }
def reads (l : List Fl) : List B → B → Sum B B
  | [], acc => .inr acc
  | p :: ps, acc => match Fs.get l p with
    | none => .inl p
    | some d => reads l ps (acc ++ tl d)
def loopF (f : St → St) : Nat → St → St
  | 0, s => s
  | n + 1, s => if over (f s) then f s else loopF f n (f s)
section
variable (fu : Nat) (wf : List Fl → B → B → List Fl × Int) (wo : List Fl → B → List Fl) (names : List B) (up so : B → B)
def lay (path d : B) (s : St) : St := if (wf s.files path d).2 ≠ 0 then fail (wf s.files path d).2 path s else { s with files := (wf s.files path d).1 }
def writes (path : B) (rs : List B) (makes : B → B) (s : St) : St :=
  match reads s.files rs [] with
  | .inl p => spend fu 1 (fail 17 p) s
  | .inr d => spend fu (1 + ((makes d).length + 63) / 64) (lay wf path (makes d)) s
def does (o : Int) (a : List B) (n : Int) (f : St → St) (s : St) : St :=
  if o = 1 then writes fu wf (a.getD 0 []) [] (fun _ => a.getD 1 [] ++ [10]) s
  else if o = 2 then writes fu wf (a.getD 1 []) (a.take 1) id s
  else if o = 3 then writes fu wf (a.getD 0 []) (a.drop 1) id s
  else if o = 4 then writes fu wf (a.getD 0 []) a up s
  else if o = 5 then writes fu wf (a.getD 0 []) a so s
  else spend fu 1 (fun s =>
    if o = 6 then { s with files := wo s.files (a.getD 0 []) }
    else if o = 7 then (if a.getD 0 [] ∈ names then s else { s with kind := 2, need := a.getD 0 [] })
    else if o = 8 then fail 33 (a.getD 0 []) s
    else if o = 9 then loopF f n.toNat s
    else if o = 10 then (if (Fs.get s.files (a.getD 0 [])).isSome then f s else s)
    else s) s
def all : List Stp → St → St
  | [], s => s
  | ⟨o, a, n, b⟩ :: r, s => if over s then s else all r (does fu wf wo names up so o a n (all b) s)
end
structure Fair (fu : Nat) (f : St → St) : Prop where
  over : ∀ s, over s = true → f s = s
  used : ∀ s, s.used ≤ fu → s.used ≤ (f s).used ∧ (f s).used ≤ fu
structure Dry (f1 f2 : Nat) (s1 s2 : St) : Prop where
  k : s1.kind = 3
  e : s1.err = 34
  t : s1.text = []
  u : s1.used = f1
  o : f1 < s2.used ∨ (s2.kind = 3 ∧ s2.err = 34 ∧ s2.used = f2)
structure Tw (f1 f2 : Nat) (s1 s2 : St) : Prop where
  u1 : s1.used ≤ f1
  u2 : s2.used ≤ f2
  same : s1 = s2 ∨ Dry f1 f2 s1 s2
theorem over_of {s : St} (h : s.kind = 3) : over s = true := by unfold over; rw [h]; rfl
theorem Dry.on {f1 f2 : Nat} {g : St → St} (hg : Fair f2 g) {s1 s2 : St} (h2 : s2.used ≤ f2) (h : Dry f1 f2 s1 s2) : Dry f1 f2 s1 (g s2) := by
  refine ⟨h.k, h.e, h.t, h.u, ?_⟩
  rcases h.o with e | ⟨e1, e2, e3⟩
  · have := (hg.used s2 h2).1; exact .inl (by omega)
  · rw [hg.over s2 (over_of e1)]; exact .inr ⟨e1, e2, e3⟩
theorem twin {f1 f2 : Nat} {f g : St → St} (hf : Fair f1 f) (hg : Fair f2 g) (h : ∀ s, s.used ≤ f1 → s.used ≤ f2 → Tw f1 f2 (f s) (g s)) {s1 s2 : St} (hs : Tw f1 f2 s1 s2) : Tw f1 f2 (f s1) (g s2) := by
  rcases hs.same with e | d
  · subst e; exact h s1 hs.u1 hs.u2
  · rw [hf.over s1 (over_of d.k)]
    exact ⟨hs.u1, (hg.used s2 hs.u2).2, .inr (d.on hg hs.u2)⟩
def Spends (fu : Nat) (f : St → St) : Prop := ∀ s, s.used ≤ fu → s.used ≤ (f s).used ∧ (f s).used ≤ fu
theorem spend_spends {fu n : Nat} {k : St → St} (hk : Spends fu k) : Spends fu (spend fu n k) := fun s hs => by
  unfold spend
  by_cases h : fu < s.used + n
  · rw [if_pos h]; exact ⟨hs, Nat.le_refl _⟩
  · rw [if_neg h]
    have h2 : s.used + n ≤ fu := by omega
    have := hk { s with used := s.used + n } h2
    exact ⟨Nat.le_trans (Nat.le_add_right _ _) this.1, this.2⟩
def Alike (f1 f2 : Nat) (f g : St → St) : Prop := ∀ s, s.used ≤ f1 → s.used ≤ f2 → Tw f1 f2 (f s) (g s)
theorem spend_alike {f1 f2 : Nat} (h12 : f1 ≤ f2) {n : Nat} {k1 k2 : St → St} (hk : Alike f1 f2 k1 k2) (h2 : Spends f2 k2) : Alike f1 f2 (spend f1 n k1) (spend f2 n k2) := fun s hs1 hs2 => by
  unfold spend
  by_cases h : f1 < s.used + n
  · rw [if_pos h]
    by_cases h' : f2 < s.used + n
    · rw [if_pos h']; exact ⟨Nat.le_refl _, Nat.le_refl _, .inr ⟨rfl, rfl, rfl, rfl, .inr ⟨rfl, rfl, rfl⟩⟩⟩
    · rw [if_neg h']
      have hu := h2 { s with used := s.used + n } (by show s.used + n ≤ f2; omega)
      exact ⟨Nat.le_refl _, hu.2, .inr ⟨rfl, rfl, rfl, rfl, .inl (Nat.lt_of_lt_of_le h hu.1)⟩⟩
  · rw [if_neg h, if_neg (by omega)]
    exact hk _ (by show s.used + n ≤ f1; omega) (by show s.used + n ≤ f2; omega)
theorem alike_same {f1 f2 : Nat} {k : St → St} (h : ∀ s, (k s).used = s.used) : Alike f1 f2 k k := fun s h1 h2 => ⟨by rw [h]; exact h1, by rw [h]; exact h2, .inl rfl⟩
theorem spends_same {fu : Nat} {k : St → St} (h : ∀ s, (k s).used = s.used) : Spends fu k := fun s hs => by rw [h]; exact ⟨Nat.le_refl _, hs⟩
theorem loop_over {f : St → St} (hf : ∀ s, over s = true → f s = s) : ∀ (n : Nat) (s : St), over s = true → loopF f n s = s
  | 0, s, _ => rfl
  | n + 1, s, h => by rw [loopF, hf s h, if_pos h]
theorem loop_spends {fu : Nat} {f : St → St} (hf : Spends fu f) : ∀ n, Spends fu (loopF f n)
  | 0 => fun s hs => ⟨Nat.le_refl _, hs⟩
  | n + 1 => fun s hs => by
    have h := hf s hs
    rw [loopF]
    by_cases ho : over (f s) = true
    · rw [if_pos ho]; exact h
    · rw [if_neg ho]
      have h2 := loop_spends hf n (f s) h.2
      exact ⟨Nat.le_trans h.1 h2.1, h2.2⟩
theorem loop_fair {fu : Nat} {f : St → St} (hf : Fair fu f) (n : Nat) : Fair fu (loopF f n) := ⟨loop_over hf.over n, loop_spends hf.used n⟩
theorem loop_alike {f1 f2 : Nat} {f g : St → St} (hf : Fair f1 f) (hg : Fair f2 g) (h : Alike f1 f2 f g) : ∀ n, Alike f1 f2 (loopF f n) (loopF g n)
  | 0 => fun s h1 h2 => ⟨h1, h2, .inl rfl⟩
  | n + 1 => fun s h1 h2 => by
    have t := h s h1 h2
    rw [loopF, loopF]
    rcases t.same with e | d
    · rw [e]
      by_cases ho : over (g s) = true
      · rw [if_pos ho, if_pos ho]; exact ⟨by rw [← e]; exact t.u1, t.u2, .inl rfl⟩
      · rw [if_neg ho, if_neg ho]
        exact loop_alike hf hg h n (g s) (by rw [← e]; exact t.u1) t.u2
    · rw [if_pos (over_of d.k)]
      by_cases ho : over (g s) = true
      · rw [if_pos ho]; exact t
      · rw [if_neg ho]
        exact ⟨t.u1, (loop_spends hg.used n (g s) t.u2).2, .inr (d.on (loop_fair hg n) t.u2)⟩
variable {wf : List Fl → B → B → List Fl × Int} {wo : List Fl → B → List Fl} {names : List B} {up so : B → B}
theorem lay_used (p d : B) (s : St) : (lay wf p d s).used = s.used := by unfold lay; split <;> rfl
theorem fail_used (e : Int) (t : B) (s : St) : (fail e t s).used = s.used := rfl
theorem writes_spends {fu : Nat} (p : B) (rs : List B) (mk : B → B) : Spends fu (writes fu wf p rs mk) := fun s hs => by
  unfold writes
  cases reads s.files rs [] with
  | inl q => exact spend_spends (spends_same (fail_used _ _)) s hs
  | inr d => exact spend_spends (spends_same (lay_used _ _)) s hs
theorem writes_alike {f1 f2 : Nat} (h12 : f1 ≤ f2) (p : B) (rs : List B) (mk : B → B) : Alike f1 f2 (writes f1 wf p rs mk) (writes f2 wf p rs mk) := fun s h1 h2 => by
  unfold writes
  cases reads s.files rs [] with
  | inl q => exact spend_alike h12 (alike_same (fail_used _ _)) (spends_same (fail_used _ _)) s h1 h2
  | inr d => exact spend_alike h12 (alike_same (lay_used _ _)) (spends_same (lay_used _ _)) s h1 h2
theorem does_spends {fu : Nat} (o : Int) (a : List B) (n : Int) {f : St → St} (hf : Fair fu f) : Spends fu (does fu wf wo names up so o a n f) := fun s hs => by
  unfold does
  split
  · exact writes_spends _ _ _ s hs
  split
  · exact writes_spends _ _ _ s hs
  split
  · exact writes_spends _ _ _ s hs
  split
  · exact writes_spends _ _ _ s hs
  split
  · exact writes_spends _ _ _ s hs
  refine spend_spends (fun s hs => ?_) s hs
  split
  · exact ⟨Nat.le_refl _, hs⟩
  split
  · split <;> exact ⟨Nat.le_refl _, hs⟩
  split
  · exact ⟨Nat.le_refl _, hs⟩
  split
  · exact loop_spends hf.used _ s hs
  split
  · split
    · exact hf.used s hs
    · exact ⟨Nat.le_refl _, hs⟩
  · exact ⟨Nat.le_refl _, hs⟩
theorem does_alike {f1 f2 : Nat} (h12 : f1 ≤ f2) (o : Int) (a : List B) (n : Int) {f g : St → St} (hf : Fair f1 f) (hg : Fair f2 g) (h : Alike f1 f2 f g) : Alike f1 f2 (does f1 wf wo names up so o a n f) (does f2 wf wo names up so o a n g) := fun s h1 h2 => by
  unfold does
  by_cases c1 : o = 1
  · rw [if_pos c1, if_pos c1]; exact writes_alike h12 _ _ _ s h1 h2
  rw [if_neg c1, if_neg c1]
  by_cases c2 : o = 2
  · rw [if_pos c2, if_pos c2]; exact writes_alike h12 _ _ _ s h1 h2
  rw [if_neg c2, if_neg c2]
  by_cases c3 : o = 3
  · rw [if_pos c3, if_pos c3]; exact writes_alike h12 _ _ _ s h1 h2
  rw [if_neg c3, if_neg c3]
  by_cases c4 : o = 4
  · rw [if_pos c4, if_pos c4]; exact writes_alike h12 _ _ _ s h1 h2
  rw [if_neg c4, if_neg c4]
  by_cases c5 : o = 5
  · rw [if_pos c5, if_pos c5]; exact writes_alike h12 _ _ _ s h1 h2
  rw [if_neg c5, if_neg c5]
  refine spend_alike h12 (fun s h1 h2 => ?_) (fun s hs => ?_) s h1 h2
  · by_cases c6 : o = 6
    · rw [if_pos c6, if_pos c6]; exact ⟨h1, h2, .inl rfl⟩
    rw [if_neg c6, if_neg c6]
    by_cases c7 : o = 7
    · rw [if_pos c7, if_pos c7]
      by_cases m : a.getD 0 [] ∈ names
      · rw [if_pos m]; exact ⟨h1, h2, .inl rfl⟩
      · rw [if_neg m]; exact ⟨h1, h2, .inl rfl⟩
    rw [if_neg c7, if_neg c7]
    by_cases c8 : o = 8
    · rw [if_pos c8, if_pos c8]; exact ⟨h1, h2, .inl rfl⟩
    rw [if_neg c8, if_neg c8]
    by_cases c9 : o = 9
    · rw [if_pos c9, if_pos c9]; exact loop_alike hf hg h _ s h1 h2
    rw [if_neg c9, if_neg c9]
    by_cases c10 : o = 10
    · rw [if_pos c10, if_pos c10]
      by_cases m : (Fs.get s.files (a.getD 0 [])).isSome = true
      · rw [if_pos m, if_pos m]; exact h s h1 h2
      · rw [if_neg m, if_neg m]; exact ⟨h1, h2, .inl rfl⟩
    rw [if_neg c10, if_neg c10]
    exact ⟨h1, h2, .inl rfl⟩
  · split
    · exact ⟨Nat.le_refl _, hs⟩
    split
    · split <;> exact ⟨Nat.le_refl _, hs⟩
    split
    · exact ⟨Nat.le_refl _, hs⟩
    split
    · exact loop_spends hg.used _ s hs
    split
    · split
      · exact hg.used s hs
      · exact ⟨Nat.le_refl _, hs⟩
    · exact ⟨Nat.le_refl _, hs⟩
theorem all_fair (fu : Nat) : ∀ l : List Stp, Fair fu (all fu wf wo names up so l)
  | [] => ⟨fun s _ => by rw [all], fun s hs => by rw [all]; exact ⟨Nat.le_refl _, hs⟩⟩
  | ⟨o, a, n, b⟩ :: r => by
    have hb := all_fair fu b
    have hr := all_fair fu r
    refine ⟨fun s h => by rw [all, if_pos h], fun s hs => ?_⟩
    rw [all]
    by_cases ho : over s = true
    · rw [if_pos ho]; exact ⟨Nat.le_refl _, hs⟩
    · rw [if_neg ho]
      have h1 := does_spends (wf := wf) (wo := wo) (names := names) (up := up) (so := so) o a n hb s hs
      have h2 := hr.used _ h1.2
      exact ⟨Nat.le_trans h1.1 h2.1, h2.2⟩
theorem all_alike {f1 f2 : Nat} (h12 : f1 ≤ f2) : ∀ l : List Stp, Alike f1 f2 (all f1 wf wo names up so l) (all f2 wf wo names up so l)
  | [] => fun s h1 h2 => by rw [all, all]; exact ⟨h1, h2, .inl rfl⟩
  | ⟨o, a, n, b⟩ :: r => fun s h1 h2 => by
    have hb := all_alike h12 b
    have hr := all_alike h12 r
    rw [all, all]
    by_cases ho : over s = true
    · rw [if_pos ho, if_pos ho]; exact ⟨h1, h2, .inl rfl⟩
    · rw [if_neg ho, if_neg ho]
      exact twin (all_fair f1 r) (all_fair f2 r) hr (does_alike h12 o a n (all_fair f1 b) (all_fair f2 b) hb s h1 h2)
end Go.Proofs.YtnheahologecfaaGreatDoor.Bx
/- BxLaw, what a claim needs of it (prune.py). -/
namespace Go.Proofs.YtnheahologecfaaGreatDoor.Bx
open Lg (Stp)
open Fs (B)
set_option linter.unusedVariables false
def Inv (fu : Nat) (s : St) : Prop := s.err = 34 → s.kind = 3 ∧ s.used = fu
def Good (fu : Nat) (f : St → St) : Prop := ∀ s, s.err ≠ 34 → Inv fu (f s)
theorem spend_good {fu n : Nat} {k : St → St} (hk : Good fu k) : Good fu (spend fu n k) := fun s hs => by
  unfold spend
  by_cases h : fu < s.used + n
  · rw [if_pos h]; exact fun _ => ⟨rfl, rfl⟩
  · rw [if_neg h]; exact hk _ hs
theorem good_same {fu : Nat} {k : St → St} (h : ∀ s, s.err ≠ 34 → (k s).err ≠ 34) : Good fu k := fun s hs e => absurd e (h s hs)
theorem Inv.err {fu : Nat} {s : St} (h : Inv fu s) (ho : over s = false) : s.err ≠ 34 := fun e => by
  have := over_of (h e).1
  rw [ho] at this; cases this
theorem loop_good {fu : Nat} {f : St → St} (hf : Good fu f) : ∀ n, Good fu (loopF f n)
  | 0 => fun s hs e => absurd e hs
  | n + 1 => fun s hs => by
    have h := hf s hs
    rw [loopF]
    by_cases ho : over (f s) = true
    · rw [if_pos ho]; exact h
    · rw [if_neg ho]; exact loop_good hf n _ (h.err (by simpa using ho))
variable {wf : List Fl → B → B → List Fl × Int} {wo : List Fl → B → List Fl} {names : List B} {up so : B → B}
theorem writes_good {fu : Nat} (hw : ∀ l p d, (wf l p d).2 ≠ 34) (p : B) (rs : List B) (mk : B → B) : Good fu (writes fu wf p rs mk) := fun s hs => by
  unfold writes
  cases reads s.files rs [] with
  | inl q => exact spend_good (good_same fun s hs => by show (17 : Int) ≠ 34; decide) s hs
  | inr d =>
    refine spend_good (good_same fun s hs => ?_) s hs
    unfold lay
    split
    · exact hw _ _ _
    · exact hs
theorem does_good {fu : Nat} (hw : ∀ l p d, (wf l p d).2 ≠ 34) (o : Int) (a : List B) (n : Int) {f : St → St} (hf : Good fu f) : Good fu (does fu wf wo names up so o a n f) := fun s hs => by
  unfold does
  by_cases c1 : o = 1
  · rw [if_pos c1]; exact writes_good hw _ _ _ s hs
  rw [if_neg c1]
  by_cases c2 : o = 2
  · rw [if_pos c2]; exact writes_good hw _ _ _ s hs
  rw [if_neg c2]
  by_cases c3 : o = 3
  · rw [if_pos c3]; exact writes_good hw _ _ _ s hs
  rw [if_neg c3]
  by_cases c4 : o = 4
  · rw [if_pos c4]; exact writes_good hw _ _ _ s hs
  rw [if_neg c4]
  by_cases c5 : o = 5
  · rw [if_pos c5]; exact writes_good hw _ _ _ s hs
  rw [if_neg c5]
  refine spend_good (fun s hs => ?_) s hs
  have same : ∀ s' : St, s'.err = s.err → Inv fu s' := fun s' h e => absurd (h.symm.trans e) hs
  by_cases c6 : o = 6
  · rw [if_pos c6]; exact same _ rfl
  rw [if_neg c6]
  by_cases c7 : o = 7
  · rw [if_pos c7]
    by_cases m : a.getD 0 [] ∈ names
    · rw [if_pos m]; exact same _ rfl
    · rw [if_neg m]; exact same _ rfl
  rw [if_neg c7]
  by_cases c8 : o = 8
  · rw [if_pos c8]
    intro e
    have e : (33 : Int) = 34 := e
    omega
  rw [if_neg c8]
  by_cases c9 : o = 9
  · rw [if_pos c9]; exact loop_good hf _ s hs
  rw [if_neg c9]
  by_cases c10 : o = 10
  · rw [if_pos c10]
    by_cases m : (Fs.get s.files (a.getD 0 [])).isSome = true
    · rw [if_pos m]; exact hf s hs
    · rw [if_neg m]; exact same _ rfl
  rw [if_neg c10]
  exact same _ rfl
theorem all_good {fu : Nat} (hw : ∀ l p d, (wf l p d).2 ≠ 34) : ∀ l : List Stp, Good fu (all fu wf wo names up so l)
  | [] => fun s hs => by rw [all]; exact fun e => absurd e hs
  | ⟨o, a, n, b⟩ :: r => fun s hs => by
    have hb := all_good (fu := fu) hw b
    have hr := all_good (fu := fu) hw r
    rw [all]
    by_cases ho : over s = true
    · rw [if_pos ho]; exact fun e => absurd e hs
    · rw [if_neg ho]
      have h1 := does_good (wo := wo) (names := names) (up := up) (so := so) hw o a n hb s hs
      by_cases h2 : over (does fu wf wo names up so o a n (all fu wf wo names up so b) s) = true
      · rw [(all_fair fu r).over _ h2]; exact h1
      · exact hr _ (h1.err (by simpa using h2))
def start (l : List Fl) : St := ⟨l, 0, 0, [], 0, []⟩
section
variable (wf wo names up so)
def run (fu : Nat) (l : List Stp) (fs : List Fl) : St := all fu wf wo names up so l (start fs)
end
theorem run_tw {f1 f2 : Nat} (h12 : f1 ≤ f2) (l : List Stp) (fs : List Fl) : Tw f1 f2 (run wf wo names up so f1 l fs) (run wf wo names up so f2 l fs) := all_alike h12 l (start fs) (Nat.zero_le _) (Nat.zero_le _)
theorem run_inv {fu : Nat} (hw : ∀ l p d, (wf l p d).2 ≠ 34) (l : List Stp) (fs : List Fl) : Inv fu (run wf wo names up so fu l fs) := all_good hw l (start fs) (by show (0 : Int) ≠ 34; decide)
theorem fuel_more {f1 f2 : Nat} (h12 : f1 ≤ f2) {l : List Stp} {fs : List Fl} (h : (run wf wo names up so f1 l fs).err ≠ 34) : run wf wo names up so f1 l fs = run wf wo names up so f2 l fs := by
  rcases (run_tw h12 l fs).same with e | d
  · exact e
  · exact absurd d.e h
theorem fuel_dry {f1 f2 : Nat} (hw : ∀ l p d, (wf l p d).2 ≠ 34) (h12 : f1 ≤ f2) {l : List Stp} {fs : List Fl} (h : (run wf wo names up so f1 l fs).err = 34) : f1 ≤ (run wf wo names up so f2 l fs).used := by
  rcases (run_tw h12 l fs).same with e | d
  · rw [← e, (run_inv hw l fs h).2]; exact Nat.le_refl _
  · rcases d.o with o | ⟨_, _, o⟩ <;> omega
theorem fuel_just {fu : Nat} {l : List Stp} {fs : List Fl} (h : (run wf wo names up so fu l fs).err ≠ 34) : run wf wo names up so (run wf wo names up so fu l fs).used l fs = run wf wo names up so fu l fs := by
  have hu : (run wf wo names up so fu l fs).used ≤ fu := ((all_fair fu l).used (start fs) (Nat.zero_le _)).2
  rcases (run_tw (wf := wf) (wo := wo) (names := names) (up := up) (so := so) hu l fs).same with e | d
  · exact e
  · rcases d.o with o | ⟨_, o, _⟩
    · exact absurd o (Nat.lt_irrefl _)
    · exact absurd o h
theorem fuel_less {fu : Nat} {l : List Stp} {fs : List Fl} (h : (run wf wo names up so fu l fs).err ≠ 34) (h1 : 1 ≤ (run wf wo names up so fu l fs).used) :
    (run wf wo names up so ((run wf wo names up so fu l fs).used - 1) l fs).err = 34 ∧ (run wf wo names up so ((run wf wo names up so fu l fs).used - 1) l fs).used = (run wf wo names up so fu l fs).used - 1 := by
  have hu : (run wf wo names up so fu l fs).used ≤ fu := ((all_fair fu l).used (start fs) (Nat.zero_le _)).2
  have t := run_tw (wf := wf) (wo := wo) (names := names) (up := up) (so := so) (show (run wf wo names up so fu l fs).used - 1 ≤ fu by omega) l fs
  rcases t.same with e | d
  · have := t.u1
    rw [e] at this
    omega
  · exact ⟨d.e, d.u⟩
end Go.Proofs.YtnheahologecfaaGreatDoor.Bx
/- BxNeed, what a claim needs of it (prune.py). -/
namespace Go.Proofs.YtnheahologecfaaGreatDoor.Bx
open Lg (Stp)
open Fs (B)
set_option linter.unusedVariables false
structure Nd (fu : Nat) (s1 s2 : St) : Prop where
  u1 : s1.used ≤ fu
  u2 : s2.used ≤ fu
  same : s1 = s2 ∨ (s1.kind = 2 ∧ s1.used ≤ s2.used)
theorem over_two {s : St} (h : s.kind = 2) : over s = true := by unfold over; rw [h]; rfl
def More (fu : Nat) (f g : St → St) : Prop := ∀ s, s.used ≤ fu → Nd fu (f s) (g s)
theorem more_refl {fu : Nat} {f : St → St} (hf : Spends fu f) : More fu f f := fun s hs => ⟨(hf s hs).2, (hf s hs).2, .inl rfl⟩
theorem more_on {fu : Nat} {f g : St → St} (hf : Fair fu f) (hg : Fair fu g) (h : More fu f g) {s1 s2 : St} (hs : Nd fu s1 s2) : Nd fu (f s1) (g s2) := by
  rcases hs.same with e | ⟨k, u⟩
  · subst e; exact h s1 hs.u1
  · rw [hf.over s1 (over_two k)]
    have := hg.used s2 hs.u2
    exact ⟨hs.u1, this.2, .inr ⟨k, Nat.le_trans u this.1⟩⟩
theorem spend_more {fu n : Nat} {k1 k2 : St → St} (hk : More fu k1 k2) : More fu (spend fu n k1) (spend fu n k2) := fun s hs => by
  unfold spend
  by_cases h : fu < s.used + n
  · rw [if_pos h, if_pos h]; exact ⟨Nat.le_refl _, Nat.le_refl _, .inl rfl⟩
  · rw [if_neg h, if_neg h]; exact hk _ (by show s.used + n ≤ fu; omega)
theorem loop_more {fu : Nat} {f g : St → St} (hf : Fair fu f) (hg : Fair fu g) (h : More fu f g) : ∀ n, More fu (loopF f n) (loopF g n)
  | 0 => fun s hs => ⟨hs, hs, .inl rfl⟩
  | n + 1 => fun s hs => by
    have t := h s hs
    rw [loopF, loopF]
    rcases t.same with e | ⟨k, u⟩
    · rw [e]
      by_cases ho : over (g s) = true
      · rw [if_pos ho, if_pos ho]; exact ⟨t.u2, t.u2, .inl rfl⟩
      · rw [if_neg ho, if_neg ho]; exact loop_more hf hg h n (g s) t.u2
    · rw [if_pos (over_two k)]
      by_cases ho : over (g s) = true
      · rw [if_pos ho]; exact t
      · rw [if_neg ho]
        have := loop_spends hg.used n (g s) t.u2
        exact ⟨t.u1, this.2, .inr ⟨k, Nat.le_trans u this.1⟩⟩
variable {wf : List Fl → B → B → List Fl × Int} {wo : List Fl → B → List Fl} {n1 n2 names : List B} {up so : B → B}
theorem does_more {fu : Nat} (hn : ∀ x ∈ n1, x ∈ n2) (o : Int) (a : List B) (n : Int) {f g : St → St} (hf : Fair fu f) (hg : Fair fu g) (h : More fu f g) : More fu (does fu wf wo n1 up so o a n f) (does fu wf wo n2 up so o a n g) := fun s hs => by
  unfold does
  by_cases c1 : o = 1
  · rw [if_pos c1, if_pos c1]; exact more_refl (writes_spends _ _ _) s hs
  rw [if_neg c1, if_neg c1]
  by_cases c2 : o = 2
  · rw [if_pos c2, if_pos c2]; exact more_refl (writes_spends _ _ _) s hs
  rw [if_neg c2, if_neg c2]
  by_cases c3 : o = 3
  · rw [if_pos c3, if_pos c3]; exact more_refl (writes_spends _ _ _) s hs
  rw [if_neg c3, if_neg c3]
  by_cases c4 : o = 4
  · rw [if_pos c4, if_pos c4]; exact more_refl (writes_spends _ _ _) s hs
  rw [if_neg c4, if_neg c4]
  by_cases c5 : o = 5
  · rw [if_pos c5, if_pos c5]; exact more_refl (writes_spends _ _ _) s hs
  rw [if_neg c5, if_neg c5]
  refine spend_more (fun s hs => ?_) s hs
  by_cases c6 : o = 6
  · rw [if_pos c6, if_pos c6]; exact ⟨hs, hs, .inl rfl⟩
  rw [if_neg c6, if_neg c6]
  by_cases c7 : o = 7
  · rw [if_pos c7, if_pos c7]
    by_cases m : a.getD 0 [] ∈ n1
    · rw [if_pos m, if_pos (hn _ m)]; exact ⟨hs, hs, .inl rfl⟩
    · rw [if_neg m]
      by_cases m2 : a.getD 0 [] ∈ n2
      · rw [if_pos m2]; exact ⟨hs, hs, .inr ⟨rfl, Nat.le_refl _⟩⟩
      · rw [if_neg m2]; exact ⟨hs, hs, .inl rfl⟩
  rw [if_neg c7, if_neg c7]
  by_cases c8 : o = 8
  · rw [if_pos c8, if_pos c8]; exact ⟨hs, hs, .inl rfl⟩
  rw [if_neg c8, if_neg c8]
  by_cases c9 : o = 9
  · rw [if_pos c9, if_pos c9]; exact loop_more hf hg h _ s hs
  rw [if_neg c9, if_neg c9]
  by_cases c10 : o = 10
  · rw [if_pos c10, if_pos c10]
    by_cases m : (Fs.get s.files (a.getD 0 [])).isSome = true
    · rw [if_pos m, if_pos m]; exact h s hs
    · rw [if_neg m, if_neg m]; exact ⟨hs, hs, .inl rfl⟩
  rw [if_neg c10, if_neg c10]
  exact ⟨hs, hs, .inl rfl⟩
theorem all_more {fu : Nat} (hn : ∀ x ∈ n1, x ∈ n2) : ∀ l : List Stp, More fu (all fu wf wo n1 up so l) (all fu wf wo n2 up so l)
  | [] => fun s hs => by rw [all, all]; exact ⟨hs, hs, .inl rfl⟩
  | ⟨o, a, n, b⟩ :: r => fun s hs => by
    have hb := all_more (fu := fu) hn b
    have hr := all_more (fu := fu) hn r
    rw [all, all]
    by_cases ho : over s = true
    · rw [if_pos ho, if_pos ho]; exact ⟨hs, hs, .inl rfl⟩
    · rw [if_neg ho, if_neg ho]
      exact more_on (all_fair fu r) (all_fair fu r) hr (does_more hn o a n (all_fair fu b) (all_fair fu b) hb s hs)
def Lack (names : List B) (s : St) : Prop := s.kind = 2 → s.need ∉ names
def Lacks (names : List B) (f : St → St) : Prop := ∀ s, over s = false → Lack names (f s)
theorem kind0 {s : St} (h : over s = false) : s.kind = 0 := by unfold over at h; simpa using h
theorem lack0 {s : St} (h : over s = false) : Lack names s := fun e => by rw [kind0 h] at e; cases e
theorem loop_lacks {f : St → St} (hf : Lacks names f) : ∀ n, Lacks names (loopF f n)
  | 0 => fun s hs => lack0 hs
  | n + 1 => fun s hs => by
    have h := hf s hs
    rw [loopF]
    by_cases ho : over (f s) = true
    · rw [if_pos ho]; exact h
    · rw [if_neg ho]; exact loop_lacks hf n _ (by simpa using ho)
theorem spend_lacks {fu n : Nat} {k : St → St} (hk : Lacks names k) : Lacks names (spend fu n k) := fun s hs => by
  unfold spend
  by_cases h : fu < s.used + n
  · rw [if_pos h]; intro e; have e : (3 : Nat) = 2 := e; omega
  · rw [if_neg h]; exact hk _ hs
theorem fail_lack (e : Int) (t : B) (s : St) : Lack names (fail e t s) := fun h => by have h : (3 : Nat) = 2 := h; omega
theorem writes_lacks {fu : Nat} (p : B) (rs : List B) (mk : B → B) : Lacks names (writes fu wf p rs mk) := fun s hs => by
  unfold writes
  cases reads s.files rs [] with
  | inl q => exact spend_lacks (fun s _ => fail_lack _ _ s) s hs
  | inr d =>
    refine spend_lacks (fun s hs => ?_) s hs
    unfold lay
    by_cases h : (wf s.files p (mk d)).2 ≠ 0
    · rw [if_pos h]; exact fail_lack _ _ _
    · rw [if_neg h]; exact lack0 hs
theorem does_lacks {fu : Nat} (o : Int) (a : List B) (n : Int) {f : St → St} (hf : Lacks names f) : Lacks names (does fu wf wo names up so o a n f) := fun s hs => by
  unfold does
  by_cases c1 : o = 1
  · rw [if_pos c1]; exact writes_lacks _ _ _ s hs
  rw [if_neg c1]
  by_cases c2 : o = 2
  · rw [if_pos c2]; exact writes_lacks _ _ _ s hs
  rw [if_neg c2]
  by_cases c3 : o = 3
  · rw [if_pos c3]; exact writes_lacks _ _ _ s hs
  rw [if_neg c3]
  by_cases c4 : o = 4
  · rw [if_pos c4]; exact writes_lacks _ _ _ s hs
  rw [if_neg c4]
  by_cases c5 : o = 5
  · rw [if_pos c5]; exact writes_lacks _ _ _ s hs
  rw [if_neg c5]
  refine spend_lacks (fun s hs => ?_) s hs
  by_cases c6 : o = 6
  · rw [if_pos c6]; exact lack0 (show over { s with files := _ } = false from hs)
  rw [if_neg c6]
  by_cases c7 : o = 7
  · rw [if_pos c7]
    by_cases m : a.getD 0 [] ∈ names
    · rw [if_pos m]; exact lack0 hs
    · rw [if_neg m]; exact fun _ => m
  rw [if_neg c7]
  by_cases c8 : o = 8
  · rw [if_pos c8]; exact fail_lack _ _ _
  rw [if_neg c8]
  by_cases c9 : o = 9
  · rw [if_pos c9]; exact loop_lacks hf _ s hs
  rw [if_neg c9]
  by_cases c10 : o = 10
  · rw [if_pos c10]
    by_cases m : (Fs.get s.files (a.getD 0 [])).isSome = true
    · rw [if_pos m]; exact hf s hs
    · rw [if_neg m]; exact lack0 hs
  rw [if_neg c10]
  exact lack0 hs
theorem all_lacks {fu : Nat} : ∀ l : List Stp, Lacks names (all fu wf wo names up so l)
  | [] => fun s hs => by rw [all]; exact lack0 hs
  | ⟨o, a, n, b⟩ :: r => fun s hs => by
    have hb := all_lacks (fu := fu) b
    have hr := all_lacks (fu := fu) r
    rw [all, if_neg (by rw [hs]; simp)]
    have h1 := does_lacks (fu := fu) (wf := wf) (wo := wo) (up := up) (so := so) o a n hb s hs
    by_cases h2 : over (does fu wf wo names up so o a n (all fu wf wo names up so b) s) = true
    · rw [(all_fair fu r).over _ h2]; exact h1
    · exact hr _ (by simpa using h2)
theorem needs_more {fu : Nat} {l : List Stp} {fs : List Fl} (h : (run wf wo names up so fu l fs).kind = 2) :
    (run wf wo names up so fu l fs).used ≤ (run wf wo (names ++ [(run wf wo names up so fu l fs).need]) up so fu l fs).used ∧
    ((run wf wo (names ++ [(run wf wo names up so fu l fs).need]) up so fu l fs).kind = 2 → (run wf wo (names ++ [(run wf wo names up so fu l fs).need]) up so fu l fs).need ≠ (run wf wo names up so fu l fs).need) := by
  have t := all_more (wf := wf) (wo := wo) (up := up) (so := so) (fu := fu) (n1 := names) (n2 := names ++ [(run wf wo names up so fu l fs).need]) (fun x hx => List.mem_append_left _ hx) l (start fs) (Nat.zero_le _)
  refine ⟨?_, fun h2 e => ?_⟩
  · rcases t.same with e | ⟨_, u⟩
    · exact Nat.le_of_eq (congrArg St.used e)
    · exact u
  · have := all_lacks (wf := wf) (wo := wo) (up := up) (so := so) (fu := fu) (names := names ++ [(run wf wo names up so fu l fs).need]) l (start fs) rfl h2
    exact this (by
      show (run wf wo (names ++ [(run wf wo names up so fu l fs).need]) up so fu l fs).need ∈ _
      rw [e]; simp)
end Go.Proofs.YtnheahologecfaaGreatDoor.Bx
