/- Joined by mkmerged.py: MnSpec, MnLaw, MnPaths. -/
import Derived.Test.YtdidnlkilleljaaGreatDoorMf28
import Derived.Test.YtdidnlkilleljaaGreatDoorMf13
import Derived.Test.YtdidnlkilleljaaGreatDoorMf15
import Derived.Test.YtdidnlkilleljaaGreatDoorMf19
/- MnSpec, what a claim needs of it (prune.py). -/
namespace Go.Proofs.YtdidnlkilleljaaGreatDoor.Mn
open Fs (B checkE)
open Bx (withF Out RightF GoodO with_right right_iff)
set_option linter.unusedVariables false
structure Rs where
  err : Int
  at_ : ByteArray
  text : ByteArray
  files : List Fl
def failed (e : Int) (a t : ByteArray) : Rs := ⟨e, a, t, []⟩
def done (l : List Fl) : Rs := ⟨0, ⟨#[]⟩, ⟨#[]⟩, l⟩
def putB (p : B) (f : Fl) : Fl := ⟨bs (p ++ 47 :: tl f.p), f.d⟩
def intoF (l : List Fl) (p : B) : List Fl × Int :=
  if Lg.pathOk p = false then ([], 13) else if l.any (fun f => !Lg.pathOk (p ++ 47 :: tl f.p)) = true then ([], 13) else (l.map (putB p), 0)
def unionF : List Fl → List Fl → List Fl × Int
  | fs, [] => (fs, 0)
  | fs, f :: m => if (withF fs (tl f.p) (tl f.d)).2 ≠ 0 then ([], (withF fs (tl f.p) (tl f.d)).2) else unionF (withF fs (tl f.p) (tl f.d)).1 m
def srcF (get : B → Option ByteArray) (nm : ByteArray) : List ByteArray → List Fl → Rs ⊕ List Fl
  | [], fs => .inr fs
  | p :: ps, fs => match get (tl p) with
    | none => .inl (failed 32 nm p)
    | some d => if (withF fs (tl p) (tl d)).2 ≠ 0 then .inl (failed (withF fs (tl p) (tl d)).2 nm p) else srcF get nm ps (withF fs (tl p) (tl d)).1
def addF (nm : ByteArray) (fs : List Fl) (word : B) (d : ByteArray) (r : Rs) : Rs ⊕ List Fl :=
  if r.err ≠ 0 then .inl r
  else if (intoF r.files (word ++ 47 :: tl d)).2 ≠ 0 then .inl (failed (intoF r.files (word ++ 47 :: tl d)).2 nm d)
  else if (unionF fs (intoF r.files (word ++ 47 :: tl d)).1).2 ≠ 0 then .inl (failed (unionF fs (intoF r.files (word ++ 47 :: tl d)).1).2 nm d)
  else .inr (unionF fs (intoF r.files (word ++ 47 :: tl d)).1).1
abbrev Kn := ByteArray → Option Rs
def upR (k : Kn) (s : ByteArray) (r : Rs) : Kn := fun x => if x = s then some r else k x
def upO (o : ByteArray → Bool) (s : ByteArray) (b : Bool) : ByteArray → Bool := fun x => if x = s then b else o x
def depW : B := [100, 101, 112]
def needW : B := [110, 101, 101, 100]
section
variable (find : ByteArray → Option Tg) (get : B → Option ByteArray) (run : Tg → List Fl → List B → Out)
def depsF (rec : Kn → ByteArray → Rs × Kn) (nm : ByteArray) : List ByteArray → List Fl → Kn → (Rs ⊕ List Fl) × Kn
  | [], fs, k => (.inr fs, k)
  | d :: ds, fs, k => match addF nm fs depW d (rec k d).1 with
    | .inl r => (.inl r, (rec k d).2)
    | .inr fs' => depsF rec nm ds fs' (rec k d).2
def needsF (rec : Kn → ByteArray → Rs × Kn) (t : Tg) : Nat → List Fl → List B → Kn → Rs × Kn
  | 0, _, _, k => (failed 31 t.n t.n, k)
  | m + 1, fs, ns, k =>
    if (run t fs ns).kind = 1 then (done (run t fs ns).files, k)
    else if (run t fs ns).kind = 2 then
      if find (bs (run t fs ns).need) = none then (failed 30 t.n (bs (run t fs ns).need), k)
      else match addF t.n fs needW (bs (run t fs ns).need) (rec k (bs (run t fs ns).need)).1 with
        | .inl r => (r, (rec k (bs (run t fs ns).need)).2)
        | .inr fs' => needsF rec t m fs' (ns ++ [(run t fs ns).need]) (rec k (bs (run t fs ns).need)).2
    else (failed (run t fs ns).err t.n (bs (run t fs ns).text), k)
def freshF (rec : Kn → ByteArray → Rs × Kn) (m : Nat) (t : Tg) (k : Kn) : Rs × Kn :=
  match srcF get t.n t.ss [] with
  | .inl r => (r, k)
  | .inr fs => match depsF rec t.n t.ds fs k with
    | (.inl r, k') => (r, k')
    | (.inr fs', k') => needsF find run rec t m fs' [] k'
def val (m : Nat) : Nat → (ByteArray → Bool) → Kn → ByteArray → Rs × Kn
  | 0, _, k, nm => (failed 31 nm nm, k)
  | n + 1, o, k, nm =>
    if o nm = true then (failed 31 nm ⟨#[]⟩, k)
    else match k nm with
      | some r => (r, k)
      | none => match find nm with
        | none => (failed 31 nm nm, k)
        | some t => ((freshF find get run (val m n (upO o nm true)) m t k).1, upR (freshF find get run (val m n (upO o nm true)) m t k).2 nm (freshF find get run (val m n (upO o nm true)) m t k).1)
end
theorem union_right : ∀ {m l : List Fl}, RightF l → (unionF l m).2 = 0 → RightF (unionF l m).1
  | [], l, h, _ => h
  | f :: m, l, h, h0 => by
    rw [unionF] at h0 ⊢
    by_cases e : (withF l (tl f.p) (tl f.d)).2 ≠ 0
    · rw [if_pos e] at h0; exact absurd h0 e
    · rw [if_neg e] at h0 ⊢
      exact union_right (with_right h (by omega)) h0
theorem right_nil : RightF [] := ⟨by simp, by simp, List.Pairwise.nil, by simp⟩
theorem add_right {nm : ByteArray} {fs : List Fl} {word : B} {d : ByteArray} {r : Rs} (h : RightF fs) {fs' : List Fl} (e : addF nm fs word d r = .inr fs') : RightF fs' := by
  unfold addF at e
  split at e
  · cases e
  split at e
  · cases e
  split at e
  · cases e
  · rename_i h3
    cases e
    exact union_right h (by omega)
theorem src_right {get : B → Option ByteArray} {nm : ByteArray} : ∀ {ps : List ByteArray} {fs fs' : List Fl}, RightF fs → srcF get nm ps fs = .inr fs' → RightF fs'
  | [], fs, fs', h, e => by cases e; exact h
  | p :: ps, fs, fs', h, e => by
    rw [srcF] at e
    split at e
    · cases e
    · split at e
      · cases e
      · rename_i h2
        exact src_right (with_right h (by omega)) e
structure FineR (isT : ByteArray → Prop) (r : Rs) : Prop where
  good : r.err = 0 → RightF r.files ∧ r.at_ = ⟨#[]⟩ ∧ r.text = ⟨#[]⟩
  bad : r.err ≠ 0 → r.files = [] ∧ isT r.at_
def FineK (isT : ByteArray → Prop) (k : Kn) : Prop := ∀ s r, k s = some r → FineR isT r
theorem FineR.fail {isT : ByteArray → Prop} {e : Int} {a t : ByteArray} (h : isT a) (he : e ≠ 0) : FineR isT (failed e a t) := ⟨fun h0 => absurd h0 he, fun _ => ⟨rfl, h⟩⟩
theorem FineR.right {isT : ByteArray → Prop} {r : Rs} (h : FineR isT r) : RightF r.files := by
  by_cases e : r.err = 0
  · exact (h.good e).1
  · rw [(h.bad e).1]; exact right_nil
theorem FineK.up {isT : ByteArray → Prop} {k : Kn} (h : FineK isT k) (s : ByteArray) {r : Rs} (hr : FineR isT r) : FineK isT (upR k s r) := fun x r' hx => by
  unfold upR at hx
  split at hx
  · cases hx; exact hr
  · exact h x r' hx
def RecFine (isT : ByteArray → Prop) (rec : Kn → ByteArray → Rs × Kn) : Prop := ∀ k s, isT s → FineK isT k → FineR isT (rec k s).1 ∧ FineK isT (rec k s).2
theorem add_fine {isT : ByteArray → Prop} {nm : ByteArray} {fs : List Fl} {word : B} {d : ByteArray} {r : Rs} (hn : isT nm) (h : FineR isT r) {r' : Rs} (e : addF nm fs word d r = .inl r') : FineR isT r' ∧ r'.err ≠ 0 := by
  unfold addF at e
  split at e
  · rename_i h1
    cases e; exact ⟨h, h1⟩
  split at e
  · rename_i h1
    cases e; exact ⟨.fail hn h1, h1⟩
  split at e
  · rename_i h1
    cases e; exact ⟨.fail hn h1, h1⟩
  · cases e
theorem src_fine {isT : ByteArray → Prop} {get : B → Option ByteArray} {nm : ByteArray} (hn : isT nm) : ∀ {ps : List ByteArray} {fs : List Fl} {r : Rs}, srcF get nm ps fs = .inl r → FineR isT r ∧ r.err ≠ 0
  | [], fs, r, e => by cases e
  | p :: ps, fs, r, e => by
    rw [srcF] at e
    split at e
    · cases e; exact ⟨.fail hn (by decide), by show (32 : Int) ≠ 0; decide⟩
    · split at e
      · rename_i h2
        cases e; exact ⟨.fail hn h2, h2⟩
      · exact src_fine hn e
theorem deps_fine {isT : ByteArray → Prop} {rec : Kn → ByteArray → Rs × Kn} (hrec : RecFine isT rec) {nm : ByteArray} (hn : isT nm) : ∀ (ds : List ByteArray) (fs : List Fl) (k : Kn), (∀ d ∈ ds, isT d) → RightF fs → FineK isT k →
    (∀ r, (depsF rec nm ds fs k).1 = .inl r → FineR isT r ∧ r.err ≠ 0) ∧ (∀ l, (depsF rec nm ds fs k).1 = .inr l → RightF l) ∧ FineK isT (depsF rec nm ds fs k).2
  | [], fs, k, _, hf, hk => ⟨fun r h => (by cases h), fun l h => (by cases h; exact hf), hk⟩
  | d :: ds, fs, k, hd, hf, hk => by
    have h1 := hrec k d (hd d (List.mem_cons_self ..)) hk
    rw [depsF]
    cases e : addF nm fs depW d (rec k d).1 with
    | inl r => exact ⟨fun r' h => (by cases h; exact add_fine hn h1.1 e), fun l h => (by cases h), h1.2⟩
    | inr fs' => exact deps_fine hrec hn ds fs' _ (fun x hx => hd x (List.mem_cons_of_mem _ hx)) (add_right hf e) h1.2
variable {find : ByteArray → Option Tg} {get : B → Option ByteArray} {run : Tg → List Fl → List B → Out}
theorem needs_fine {isT : ByteArray → Prop} (hfi : ∀ s, find s ≠ none → isT s) {rec : Kn → ByteArray → Rs × Kn} (hrec : RecFine isT rec) {t : Tg} (hn : isT t.n) (hrun : ∀ fs ns, RightF fs → GoodO (run t fs ns) ns) : ∀ (m : Nat) (fs : List Fl) (ns : List B) (k : Kn), RightF fs → FineK isT k →
    FineR isT (needsF find run rec t m fs ns k).1 ∧ FineK isT (needsF find run rec t m fs ns k).2
  | 0, fs, ns, k, hf, hk => ⟨.fail hn (by decide), hk⟩
  | m + 1, fs, ns, k, hf, hk => by
    rw [needsF]
    have hg := hrun fs ns hf
    by_cases h1 : (run t fs ns).kind = 1
    · rw [if_pos h1]
      rcases hg with h | h | h
      · exact ⟨⟨fun _ => ⟨right_iff.1 h.2.2.2.2, rfl, rfl⟩, fun h0 => absurd rfl h0⟩, hk⟩
      · omega
      · omega
    · rw [if_neg h1]
      by_cases h2 : (run t fs ns).kind = 2
      · rw [if_pos h2]
        by_cases h3 : find (bs (run t fs ns).need) = none
        · rw [if_pos h3]; exact ⟨.fail hn (by decide), hk⟩
        · rw [if_neg h3]
          have hr := hrec k _ (hfi _ h3) hk
          cases e : addF t.n fs needW (bs (run t fs ns).need) (rec k (bs (run t fs ns).need)).1 with
          | inl r => exact ⟨(add_fine hn hr.1 e).1, hr.2⟩
          | inr fs' => exact needs_fine hfi hrec hn hrun m fs' _ _ (add_right hf e) hr.2
      · rw [if_neg h2]
        rcases hg with h | h | h
        · omega
        · omega
        · exact ⟨.fail hn h.2.1, hk⟩
theorem fresh_fine {isT : ByteArray → Prop} (hfi : ∀ s, find s ≠ none → isT s) {rec : Kn → ByteArray → Rs × Kn} (hrec : RecFine isT rec) {t : Tg} (hn : isT t.n) (hd : ∀ d ∈ t.ds, isT d) (hrun : ∀ fs ns, RightF fs → GoodO (run t fs ns) ns) (m : Nat) (k : Kn) (hk : FineK isT k) :
    FineR isT (freshF find get run rec m t k).1 ∧ FineK isT (freshF find get run rec m t k).2 := by
  unfold freshF
  cases e : srcF get t.n t.ss [] with
  | inl r => exact ⟨(src_fine hn e).1, hk⟩
  | inr fs =>
    have h := deps_fine hrec hn t.ds fs k hd (src_right right_nil e) hk
    dsimp only
    cases e2 : depsF rec t.n t.ds fs k with
    | mk a k' =>
      rw [e2] at h
      cases a with
      | inl r => exact ⟨(h.1 r rfl).1, h.2.2⟩
      | inr l => exact needs_fine hfi hrec hn hrun m l [] k' (h.2.1 l rfl) h.2.2
theorem val_fine {isT : ByteArray → Prop} (hfi : ∀ s, find s ≠ none → isT s) (hname : ∀ s t, find s = some t → t.n = s) (hd : ∀ s t, find s = some t → ∀ d ∈ t.ds, isT d) (hrun : ∀ s t, find s = some t → ∀ fs ns, RightF fs → GoodO (run t fs ns) ns) (m : Nat) :
    ∀ (n : Nat) (o : ByteArray → Bool), RecFine isT (val find get run m n o)
  | 0, o => fun k s hs hk => ⟨.fail hs (by decide), hk⟩
  | n + 1, o => fun k s hs hk => by
    rw [val]
    by_cases h1 : o s = true
    · rw [if_pos h1]; exact ⟨.fail hs (by decide), hk⟩
    · rw [if_neg h1]
      cases e : k s with
      | some r => exact ⟨hk s r e, hk⟩
      | none =>
        dsimp only
        cases e2 : find s with
        | none => exact ⟨.fail hs (by decide), hk⟩
        | some t =>
          have h := fresh_fine (get := get) hfi (val_fine hfi hname hd hrun m n (upO o s true)) (t := t) (by rw [hname s t e2]; exact hs) (hd s t e2) (hrun s t e2) m k hk
          exact ⟨h.1, h.2.up s h.1⟩
end Go.Proofs.YtdidnlkilleljaaGreatDoor.Mn
/- MnLaw, what a claim needs of it (prune.py). -/
namespace Go.Proofs.YtdidnlkilleljaaGreatDoor.Mn
open Fs (B checkE)
open Bx (withF Out RightF GoodO outcome right_iff right_good)
open Gr (find checkF)
set_option linter.unusedVariables false
variable {fi : ByteArray → Option Tg} {get get' : B → Option ByteArray} {run : Tg → List Fl → List B → Out}
theorem src_congr {nm : ByteArray} : ∀ {ps : List ByteArray} {fs : List Fl}, (∀ p ∈ ps, get (tl p) = get' (tl p)) → srcF get nm ps fs = srcF get' nm ps fs
  | [], fs, _ => rfl
  | p :: ps, fs, h => by
    rw [srcF, srcF, h p (List.mem_cons_self ..)]
    cases get' (tl p) with
    | none => rfl
    | some d =>
      dsimp only
      rw [src_congr fun x hx => h x (List.mem_cons_of_mem _ hx)]
theorem val_congr (h : ∀ s t, fi s = some t → ∀ p ∈ t.ss, get (tl p) = get' (tl p)) (m : Nat) : ∀ (n : Nat) (o : ByteArray → Bool) (k : Kn) (nm : ByteArray), val fi get run m n o k nm = val fi get' run m n o k nm
  | 0, o, k, nm => rfl
  | n + 1, o, k, nm => by
    have ih : val fi get run m n (upO o nm true) = val fi get' run m n (upO o nm true) := funext fun k => funext fun s => val_congr h m n _ k s
    rw [val, val, ih]
    cases e : fi nm with
    | none => rfl
    | some t =>
      have e2 : freshF fi get run (val fi get' run m n (upO o nm true)) m t k = freshF fi get' run (val fi get' run m n (upO o nm true)) m t k := by
        unfold freshF
        rw [src_congr (h nm t e)]
      dsimp only
      rw [e2]
noncomputable def runF (fuel : Int) (t : Tg) (fs : List Fl) (ns : List B) : Out := outcome (Lg.parse (tl t.c)).1 fs ns fuel
noncomputable def valueF (l : List Tg) (snap : List Fl) (goal : ByteArray) (fuel : Int) : Rs :=
  (val (find l) (Fs.get snap) (runF fuel) (l.length + 1) (l.length + 1) (fun _ => false) (fun _ => none) goal).1
noncomputable def buildF (l : List Tg) (snap : List Fl) (goal : ByteArray) (fuel : Int) : Rs :=
  if checkF l ≠ 0 then failed (checkF l) ⟨#[]⟩ ⟨#[]⟩ else if checkE snap ≠ 0 then failed (checkE snap) ⟨#[]⟩ ⟨#[]⟩
  else if fuel < 1 ∨ 2000 < fuel then failed 1 ⟨#[]⟩ ⟨#[]⟩ else if find l goal = none then failed 30 goal ⟨#[]⟩ else valueF l snap goal fuel
abbrev GoodG := Gr.Good Gr.nameF Gr.pathF Gr.parseF
theorem good_of {l : List Tg} (h : checkF l = 0) : GoodG l := Gr.check_good.1 h
theorem alone_zero {t : Tg} (h : Gr.alone Gr.pathF Gr.parseF t = 0) : Gr.parseF t.c = 0 ∧ t.ds.length ≤ 12 ∧ t.ss.length ≤ 32 := by
  unfold Gr.alone at h
  split at h
  · contradiction
  · rename_i h1
    split at h
    · cases h
    · exact ⟨Decidable.byContradiction h1, by omega, by omega⟩
theorem parse_of {t : Tg} (h : Gr.parseF t.c = 0) : Lg.parse (tl t.c) = ((Lg.parse (tl t.c)).1, 0) := by
  have h1 : ((Lg.parse (tl t.c)).2 : Int) = 0 := h
  have h2 : (Lg.parse (tl t.c)).2 = 0 := by omega
  rw [← h2]
theorem run_good {l : List Tg} (hg : GoodG l) {fuel : Int} (h1 : 1 ≤ fuel) (h2 : fuel ≤ 2000) (s : ByteArray) (t : Tg) (ht : find l s = some t) (fs : List Fl) (ns : List B) (hf : RightF fs) : GoodO (runF fuel t fs ns) ns :=
  (right_good (Lg.right_parse (parse_of (alone_zero (hg.alone t (Gr.find_some ht).1)).1)) (right_iff.2 hf) h1 h2).2.2
theorem value_fine {l : List Tg} (hg : GoodG l) {fuel : Int} (h1 : 1 ≤ fuel) (h2 : fuel ≤ 2000) (get : B → Option ByteArray) (m n : Nat) (o : ByteArray → Bool) : RecFine (fun s => Gr.isT l s = true) (val (find l) get (runF fuel) m n o) :=
  val_fine (fun s h => by
      unfold Gr.isT
      cases e : find l s with
      | none => exact absurd e h
      | some t => rfl) (fun s t h => (Gr.find_some h).2)
    (fun s t h d hd => by
      have := hg.deps t (Gr.find_some h).1 d hd
      rw [← Bool.not_eq_false]
      intro hn
      exact Gr.isT_map.1 hn this) (run_good hg h1 h2) m n o
theorem build_bad {l : List Tg} {snap : List Fl} {goal : ByteArray} {fuel : Int} (h : checkF l ≠ 0 ∨ checkE snap ≠ 0 ∨ fuel < 1 ∨ 2000 < fuel ∨ find l goal = none) : (buildF l snap goal fuel).err ≠ 0 ∧ (buildF l snap goal fuel).files = [] := by
  unfold buildF
  by_cases h1 : checkF l ≠ 0
  · rw [if_pos h1]; exact ⟨h1, rfl⟩
  rw [if_neg h1]
  by_cases h2 : checkE snap ≠ 0
  · rw [if_pos h2]; exact ⟨h2, rfl⟩
  rw [if_neg h2]
  by_cases h3 : fuel < 1 ∨ 2000 < fuel
  · rw [if_pos h3]; exact ⟨by show (1 : Int) ≠ 0; decide, rfl⟩
  rw [if_neg h3]
  by_cases h4 : find l goal = none
  · rw [if_pos h4]; exact ⟨by show (30 : Int) ≠ 0; decide, rfl⟩
  · rcases h with h | h | h | h | h
    · exact absurd h h1
    · exact absurd h h2
    · exact absurd (.inl h) h3
    · exact absurd (.inr h) h3
    · exact absurd h h4
theorem build_good {l : List Tg} {snap : List Fl} {goal : ByteArray} {fuel : Int} (h1 : checkF l = 0) (h2 : checkE snap = 0) (h3 : 1 ≤ fuel) (h4 : fuel ≤ 2000) (h5 : find l goal ≠ none) : buildF l snap goal fuel = valueF l snap goal fuel := by
  unfold buildF
  rw [if_neg (by simp [h1]), if_neg (by simp [h2]), if_neg (by omega), if_neg h5]
theorem isT_of {l : List Tg} {s : ByteArray} (h : find l s ≠ none) : Gr.isT l s = true := by
  unfold Gr.isT
  cases e : find l s with
  | none => exact absurd e h
  | some t => rfl
theorem build_fine {l : List Tg} {snap : List Fl} {goal : ByteArray} {fuel : Int} (h1 : checkF l = 0) (h2 : checkE snap = 0) (h3 : 1 ≤ fuel) (h4 : fuel ≤ 2000) (h5 : find l goal ≠ none) : FineR (fun s => Gr.isT l s = true) (buildF l snap goal fuel) := by
  rw [build_good h1 h2 h3 h4 h5]
  exact (value_fine (good_of h1) h3 h4 _ _ _ _ _ _ (isT_of h5) (fun s r h => (by cases h))).1
theorem find_perm {l m : List Tg} (h : GoodG l) (hp : l.Perm m) : find l = find m := by
  have hm := h.perm hp
  funext s
  cases e : find l s with
  | some t =>
    obtain ⟨h1, rfl⟩ := Gr.find_some e
    exact (Gr.find_self hm.apart (hp.mem_iff.1 h1)).symm
  | none =>
    cases e2 : find m s with
    | none => rfl
    | some t =>
      obtain ⟨h1, h2⟩ := Gr.find_some e2
      exact absurd h2 (Gr.find_none e t (hp.mem_iff.2 h1))
theorem build_perm {l m : List Tg} (h : checkF l = 0) (hp : l.Perm m) (snap : List Fl) (goal : ByteArray) (fuel : Int) : buildF m snap goal fuel = buildF l snap goal fuel := by
  have hm : checkF m = 0 := Gr.check_good.2 ((good_of h).perm hp)
  unfold buildF valueF
  rw [find_perm (good_of h) hp, hp.length_eq, h, hm]
theorem build_turn {l : List Tg} (h : checkF l = 0) (n : Nat) (snap : List Fl) (goal : ByteArray) (fuel : Int) : buildF (l.drop n ++ l.take n) snap goal fuel = buildF l snap goal fuel := by
  refine build_perm h ?_ snap goal fuel
  conv => lhs; rw [← List.take_append_drop n l]
  exact List.perm_append_comm
def named (l : List Tg) (f : Fl) : Bool := l.any fun t => t.ss.any fun s => decide (s = f.p)
theorem get_named {l : List Tg} (snap : List Fl) {t : Tg} (ht : t ∈ l) {p : ByteArray} (hp : p ∈ t.ss) : Fs.get (snap.filter (named l)) (tl p) = Fs.get snap (tl p) := by
  unfold Fs.get
  rw [List.find?_filter]
  congr 1
  congr 1
  funext f
  by_cases e : tl f.p = tl p
  · have e2 : p = f.p := (Lg.tl_inj e).symm
    have : named l f = true := List.any_eq_true.2 ⟨t, ht, List.any_eq_true.2 ⟨p, hp, decide_eq_true e2⟩⟩
    simp [e, this]
  · simp [e]
theorem check_filter {snap : List Fl} (h : checkE snap = 0) (q : Fl → Bool) : checkE (snap.filter q) = 0 := by
  have h := right_iff.1 h
  exact right_iff.2 ⟨fun f hf => h.each f (List.mem_filter.1 hf).1, Nat.le_trans (List.length_filter_le _ _) h.len, h.up.filter _, fun a ha b hb => h.apart a (List.mem_filter.1 ha).1 b (List.mem_filter.1 hb).1⟩
theorem build_named {l : List Tg} {snap : List Fl} (hs : checkE snap = 0) (goal : ByteArray) (fuel : Int) : buildF l (snap.filter (named l)) goal fuel = buildF l snap goal fuel := by
  unfold buildF valueF
  rw [check_filter hs, hs]
  rw [val_congr (get := Fs.get (snap.filter (named l))) (get' := Fs.get snap) (fun s t ht p hp => get_named snap (Gr.find_some ht).1 hp)]
end Go.Proofs.YtdidnlkilleljaaGreatDoor.Mn
/- MnPaths, what a claim needs of it (prune.py). -/
namespace Go.Proofs.YtdidnlkilleljaaGreatDoor.Mn
open Go.RowKit
open Fs (fc fc_len fc_cell fc_append fc_one Fls Env B FilesOwn infoF ppath_all pathE_yes)
open Bx (withF WithSays with_any with_right RightF)
set_option linter.unusedVariables false
set_option maxRecDepth 100000
def IntoSays (l : List Fl) (p : B) (w : World) (en : Ending) (w' : World) : Prop := ∃ v', en = .returned (.tuple #[v', .int .i64 (intoF l p).2]) ∧ w'.ownsRow w.heap.size 49 2 v' (intoF l p).1.length (fc (intoF l p).1) ∧ Below w.heap.size w w'
def OkTo (p : B) (l : List Fl) (k : Nat) : Prop := ∀ j (hj : j < l.length), j < k → Lg.pathOk (p ++ 47 :: tl l[j].p) = true
def intoTo (p : B) (l : List Fl) (k : Nat) : List Fl := (l.take k).map (putB p)
theorem into_next {p : B} {l : List Fl} {k : Nat} (hk : k < l.length) : intoTo p l (k + 1) = intoTo p l k ++ [putB p l[k]] := by
  rw [intoTo, List.take_succ_eq_append_getElem hk, List.map_append]; rfl
theorem into_len {p : B} {l : List Fl} {k : Nat} (hk : k ≤ l.length) : (intoTo p l k).length = k := by simp [intoTo]; omega
theorem into_e1 {l : List Fl} {p : B} (h : Lg.pathOk p = false) : intoF l p = ([], 13) := by unfold intoF; rw [if_pos h]
theorem into_e2 {l : List Fl} {p : B} {k : Nat} (hk : k < l.length) (h : Lg.pathOk (p ++ 47 :: tl l[k].p) = false) : intoF l p = ([], 13) := by
  unfold intoF
  by_cases h0 : Lg.pathOk p = false
  · rw [if_pos h0]
  · rw [if_neg h0, if_pos (List.any_eq_true.2 ⟨_, List.getElem_mem hk, by simp [h]⟩)]
theorem into_e3 {l : List Fl} {p : B} (h : Lg.pathOk p = true) (h2 : OkTo p l l.length) : intoF l p = (intoTo p l l.length, 0) := by
  unfold intoF intoTo
  rw [if_neg (by simp [h]), if_neg, List.take_length]
  intro hx
  obtain ⟨f, hf, h3⟩ := List.any_eq_true.1 hx
  obtain ⟨j, hj, rfl⟩ := List.mem_iff_getElem.1 hf
  rw [h2 j hj hj] at h3
  exact absurd h3 (by decide)
set_option maxHeartbeats 2000000 in
theorem into_any (A : Option Addr) (l : List Fl) (c : Nat) (p : ByteArray) (w : World) (hE : Env w) (hr : Fls w A l) (hl : l.length ≤ 1000) (hp : p.size ≤ 1000000) (hz : ∀ f ∈ l, f.p.size ≤ 1000000) :
    Calls Tryz.prog 81 #[.slice A l.length c, .string p] w (IntoSays l (tl p) w) := by
  obtain ⟨z, hzi, hzs⟩ := infoF
  obtain ⟨i0, hi, hz0, hz1, hz2⟩ := Lg.info_parts hzi
  have RD : Hid (∀ W, Below w.heap.size w W → Reads W w.heap.size 2 A l.length (fc l)) := Lib.hid fun W hW => hr.below hW
  have PA : Hid (∀ W s, Below w.heap.size w W → Calls Tryz.prog 47 #[.string s] W fun e w' => e = .returned (.int .i64 (Lg.pathE (tl s))) ∧ Below W.heap.size W w') := Lib.hid fun W s h => ppath_all s W (hE.below h)
  have BAD : Hid (intoF l (tl p) = ([], 13) → ∀ W, Below w.heap.size w W → IntoSays l (tl p) w (.returned (.tuple #[.slice none 0 0, .int .i64 13])) W) := Lib.hid fun hk W hW => ⟨_, by rw [hk], by rw [hk]; exact World.ownsRow_nil _ _ _ _, hW⟩
  have GOOD : Hid (intoF l (tl p) = (intoTo (tl p) l l.length, 0) → ∀ v W, W.ownsRow w.heap.size 49 2 v (intoTo (tl p) l l.length).length (fc (intoTo (tl p) l l.length)) → Below w.heap.size w W → IntoSays l (tl p) w (.returned (.tuple #[v, .int .i64 0])) W) := Lib.hid fun hm v W h1 h2 => ⟨v, by rw [hm], by rw [hm]; exact h1, h2⟩
  have E1 := Lib.hid (fun h => BAD.out (into_e1 h))
  have P0 := Lib.hid (PA.out w p (Below.refl _ _))
  have HZ := Lib.hid hz
  clear hr hzi hE hz
  generalize hQ : IntoSays l (tl p) w = Q at *
  clear hQ
  cases hp0 : Lg.pathOk (tl p)
  · rw [show Lg.pathE (tl p) = 13 by unfold Lg.pathE; rw [hp0]; rfl] at P0
    have F := Lib.hid (E1.out hp0)
    clear hp0 E1 BAD GOOD
    go_enter Tryz.func81, Tryz.ntmps81
    go_wp2_with (go_at_call 47; ((with_reducible refine (P0.out).mono ?_); rintro e w1 ⟨rfl, hb1⟩))
    exact F.out _ hb1
  · rw [show Lg.pathE (tl p) = 0 by unfold Lg.pathE; rw [hp0]; rfl] at P0
    have E2 := Lib.hid (fun k (hk : k < l.length) h => BAD.out (into_e2 (k := k) hk h))
    have E3 := Lib.hid (fun h => GOOD.out (into_e3 hp0 h))
    clear hp0 E1 BAD GOOD
    go_enter Tryz.func81, Tryz.ntmps81
    go_wp2_with (go_at_call 47; ((with_reducible refine (P0.out).mono ?_); rintro e w1 ⟨rfl, hb1⟩))
    go_loopw [7, 18] (fun v i W => ∃ k : Nat, i = .int .i64 k ∧ k ≤ l.length ∧ OkTo (tl p) l k ∧ W.ownsRow w.heap.size 49 2 v (intoTo (tl p) l k).length (fc (intoTo (tl p) l k)) ∧ Below w.heap.size w W) (fun _ i _ => l.length - (intOf i).toNat)
    case atStart => exact ⟨0, rfl, by omega, fun j _ h => by omega, World.ownsRow_nil _ _ _ _, hb1⟩
    case round =>
      obtain ⟨k, rfl, hk, hok, hown, hb⟩ := hrel
      have HO := Lib.hid hown
      have OK := Lib.hid hok
      clear hown hok
      by_cases hlt : k < l.length
      · have hkI : (k : Int) < (l.length : Int) := by omega
        obtain ⟨ad, rfl, had, c0, c1⟩ := Fs.Fls.at_ (RD.out _ hb) hlt
        have NX := Lib.hid (into_next (p := tl p) hlt)
        have LN := Lib.hid (into_len (p := tl p) hk)
        have B2 := Lib.hid (E2.out k hlt)
        have hzf := HZ.out _ (List.getElem_mem hlt)
        have OX : Hid (Lg.pathOk (tl p ++ 47 :: tl l[k].p) = true → OkTo (tl p) l (k + 1)) := Lib.hid fun h j hj hjk => by
          rcases Nat.lt_or_ge j k with h2 | h2
          · exact OK.out j hj h2
          · obtain rfl : j = k := by omega
            exact h
        generalize intoTo (tl p) l k = u at *
        generalize l[k] = f at *
        have ET : Hid (tl (p ++ ⟨#[47]⟩ ++ f.p) = tl p ++ 47 :: tl f.p) := Lib.hid (by
          show (p ++ ⟨#[47]⟩ ++ f.p).data.toList = p.data.toList ++ 47 :: f.p.data.toList
          simp [ByteArray.data_append])
        obtain ⟨W1, eW⟩ : ∃ W1, W1 = wr.alloc (.cells #[.string (p ++ ⟨#[47]⟩ ++ f.p), .string f.d] 49) := ⟨_, rfl⟩
        have hbr : Below wr.heap.size wr W1 := by rw [eW]; exact (Below.refl _ _).alloc (Nat.le_refl _) _
        have hb1' : Below w.heap.size w W1 := hb.trans (hbr.mono hb.size)
        have q0 : W1.heap[wr.heap.size]? = some (.cells #[.string (p ++ ⟨#[47]⟩ ++ f.p), .string f.d] 49 (0, 0)) := by rw [eW]; exact heap_alloc_new wr _
        have D0 : Hid (∀ W, Below W1.heap.size W1 W → W.cell? ⟨wr.heap.size, 0, none⟩ = some (.string (p ++ ⟨#[47]⟩ ++ f.p)) ∧ W.cell? ⟨wr.heap.size, 1, none⟩ = some (.string f.d)) := Lib.hid fun W hW => ⟨(cell_heap (heap_below hW (lt_heap q0) q0) 0).trans rfl, (cell_heap (heap_below hW (lt_heap q0) q0) 1).trans rfl⟩
        have O1 : Hid (∀ W, Below W1.heap.size W1 W → W.ownsRow w.heap.size 49 2 _ u.length (fc u)) := Lib.hid fun W hW => own_later HO.out (hbr.trans (hW.mono hbr.size))
        have P1 := Lib.hid (PA.out W1 (p ++ ⟨#[47]⟩ ++ f.p) hb1')
        have d0 := (D0.out W1 (Below.refl _ _)).1
        clear q0 hbr
        cases hp : Lg.pathOk (tl p ++ 47 :: tl f.p)
        · rw [ET.out, show Lg.pathE (tl p ++ 47 :: tl f.p) = 13 by unfold Lg.pathE; rw [hp]; rfl] at P1
          have F := Lib.hid (B2.out hp)
          clear hp B2 OX NX
          go_wp2_with (go_at_call 47; rw [← eW]; clear eW; ((with_reducible refine (P1.out).mono ?_); rintro e w2 ⟨rfl, hb2⟩))
          exact F.out _ (hb1'.trans (hb2.mono hb1'.size))
        · rw [ET.out, show Lg.pathE (tl p ++ 47 :: tl f.p) = 0 by unfold Lg.pathE; rw [hp]; rfl] at P1
          have F := Lib.hid (OX.out hp)
          have EQ : Hid (putB (tl p) f = ⟨p ++ ⟨#[47]⟩ ++ f.p, f.d⟩) := Lib.hid (by
            unfold putB
            rw [← ET.out]
            rfl)
          rw [EQ.out] at NX
          clear hp B2 OX ET EQ
          go_upto_region 12 with (go_at_call 47; rw [← eW]; clear eW; ((with_reducible refine (P1.out).mono ?_); rintro e w2 ⟨rfl, hb2⟩); have g0 := (D0.out _ hb2).1; have g1 := (D0.out _ hb2).2; have h2 := hb1'.trans (hb2.mono hb1'.size); have O2 := Lib.hid (O1.out _ hb2))
          go_wp2_with ((at_builtin; refine wpList_append_any _ rfl (.tmp 34) (.tmp 36) _ rfl w.heap.size 49 i0 _ 2 32 Tryz.underlying23 hi hz0 hz1 hz2 hzs (by omega) _ u.length _ rfl (O2.out.alloc _) _ (some ⟨w2.heap.size, 0, none⟩) 1 1 [.string (p ++ ⟨#[47]⟩ ++ f.p), .string f.d] rfl (Fs.reads2_one _ _ _ _ _ rfl) (fc_cell [⟨p ++ (⟨#[47]⟩ : ByteArray) ++ f.p, f.d⟩]) (by simp only [maxLen]; have := LN.out; omega) (by have := LN.out; omega) (h2.alloc h2.size _).size ?_; intro v' w3 hown3 hg3 hat3))
          go_roundw
          case rel =>
            refine ⟨k + 1, by go_num, by omega, F.out, ?_, (h2.alloc h2.size _).grown hg3 ?_ ?_⟩
            · rw [NX.out, fc_append, List.length_append]; exact hown3
            · simp; have := h2.size; omega
            · intro g hg
              exact (HO.out.lt g hg).1
          case measure => simp [intOf]; omega
      · obtain rfl : k = l.length := by omega
        go_wp2_with (fail)
        exact E3.out OK.out _ _ HO.out hb
def UnionSays (l m : List Fl) (w : World) (en : Ending) (w' : World) : Prop := ∃ v', en = .returned (.tuple #[v', .int .i64 (unionF l m).2]) ∧ w'.ownsRow w.heap.size 49 2 v' (unionF l m).1.length (fc (unionF l m).1) ∧ Below w.heap.size w w'
theorem right_small {l : List Fl} (h : RightF l) : l.length ≤ 900 ∧ ∀ g ∈ l, g.p.size ≤ 1000000000 := ⟨by have := h.len; omega, fun g hg => by have := Bx.path_size (h.each g hg).1; omega⟩
theorem union_step {cur m : List Fl} {k : Nat} (hk : k < m.length) (h : (withF cur (tl m[k].p) (tl m[k].d)).2 = 0) : unionF cur (m.drop k) = unionF (withF cur (tl m[k].p) (tl m[k].d)).1 (m.drop (k + 1)) := by
  rw [List.drop_eq_getElem_cons hk, unionF, if_neg (by simp [h])]
theorem union_stop {cur m : List Fl} {k : Nat} (hk : k < m.length) (h : (withF cur (tl m[k].p) (tl m[k].d)).2 ≠ 0) : unionF cur (m.drop k) = ([], (withF cur (tl m[k].p) (tl m[k].d)).2) := by
  rw [List.drop_eq_getElem_cons hk, unionF, if_pos h]
theorem union_end (cur m : List Fl) : unionF cur (m.drop m.length) = (cur, 0) := by rw [List.drop_length, unionF]
theorem own_len {w : World} {B T s : Nat} {v : Value} {n : Nat} {xs : List Value} (h : w.ownsRow B T s v n xs) : ∃ A c, v = .slice A n c ∧ n ≤ c := by
  rcases h.2 with ⟨rfl, h0⟩ | ⟨g, cap, cur, rfl, hB, hg, h1, _⟩
  · exact ⟨none, 0, by rw [h0], by omega⟩
  · exact ⟨_, _, rfl, h1⟩
set_option maxHeartbeats 2000000 in
theorem union_any (A : Option Addr) (l : List Fl) (c : Nat) (F : Option Addr) (m : List Fl) (d : Nat) (w : World) (hE : Env w) (hr : Fls w A l) (hR : RightF l) (hm : Fls w F m) (hml : m.length ≤ 1000) :
    Calls Tryz.prog 82 #[.slice A l.length c, .slice F m.length d] w (UnionSays l m w) := by
  have RD : Hid (∀ W, Below w.heap.size w W → Reads W w.heap.size 2 F m.length (fc m)) := Lib.hid fun W hW => hm.below hW
  have EV := Lib.hid (fun W (h : Below w.heap.size w W) => hE.below h)
  have CL := Lib.hid (Bx.clone_any A l c w hr (by have := hR.len; omega))
  have BAD : Hid (∀ e, unionF l m = ([], e) → ∀ W, Below w.heap.size w W → UnionSays l m w (.returned (.tuple #[.slice none 0 0, .int .i64 e])) W) := Lib.hid fun e hk W hW => ⟨_, by rw [hk], by rw [hk]; exact World.ownsRow_nil _ _ _ _, hW⟩
  have GOOD : Hid (∀ cur, unionF l m = (cur, 0) → ∀ v W, W.ownsRow w.heap.size 49 2 v cur.length (fc cur) → Below w.heap.size w W → UnionSays l m w (.returned (.tuple #[v, .int .i64 0])) W) := Lib.hid fun cur hm v W h1 h2 => ⟨v, by rw [hm], by rw [hm]; exact h1, h2⟩
  have HR := Lib.hid hR
  clear hr hE hm hR
  generalize hQ : UnionSays l m w = Q at *
  clear hQ
  go_enter Tryz.func82, Tryz.ntmps82
  go_wp2_with (fail)
  refine (CL.out).mono ?_
  rintro e w1 ⟨v1, rfl, ho1, hb1⟩
  have O1 := Lib.hid ho1
  clear ho1
  go_wp2_with (fail)
  go_loopw [6, 14] (fun v i W => ∃ (k : Nat) (cur : List Fl), i = .int .i64 k ∧ k ≤ m.length ∧ RightF cur ∧ unionF l m = unionF cur (m.drop k) ∧ W.ownsRow w.heap.size 49 2 v cur.length (fc cur) ∧ Below w.heap.size w W) (fun _ i _ => m.length - (intOf i).toNat)
  case atStart => exact ⟨0, l, rfl, by omega, HR.out, rfl, O1.out, hb1⟩
  case round =>
    obtain ⟨k, cur, rfl, hk, hcr, hun, hown, hb⟩ := hrel
    obtain ⟨A2, c2, rfl, hc2⟩ := own_len hown
    have HO := Lib.hid hown
    have UN := Lib.hid hun
    have CR := Lib.hid hcr
    clear hown hun hcr O1 hb1
    by_cases hlt : k < m.length
    · have hkI : (k : Int) < (m.length : Int) := by omega
      obtain ⟨ad, rfl, had, c0, c1⟩ := Fs.Fls.at_ (RD.out _ hb) hlt
      have S1 := Lib.hid (union_step (cur := cur) hlt)
      have S2 := Lib.hid (union_stop (cur := cur) hlt)
      have FR := Lib.hid (Reads.of_own HO.out)
      have RS := right_small CR.out
      generalize m[k] = f at *
      obtain ⟨W1, eW⟩ : ∃ W1, W1 = wr.alloc (.cells #[.string f.p, .string f.d] 49) := ⟨_, rfl⟩
      have hbr : Below wr.heap.size wr W1 := by rw [eW]; exact (Below.refl _ _).alloc (Nat.le_refl _) _
      have hb1 : Below w.heap.size w W1 := hb.trans (hbr.mono hb.size)
      have WA := Lib.hid (with_any A2 cur c2 f W1 (EV.out _ hb1) ((FR.out.below hbr).more hbr.size) RS.1 RS.2)
      have q0 : W1.heap[wr.heap.size]? = some (.cells #[.string f.p, .string f.d] 49 (0, 0)) := by rw [eW]; exact heap_alloc_new wr _
      have d0 : W1.cell? ⟨wr.heap.size, 0, none⟩ = some (.string f.p) := (cell_heap q0 0).trans rfl
      have d1 : W1.cell? ⟨wr.heap.size, 1, none⟩ = some (.string f.d) := (cell_heap q0 1).trans rfl
      have RW := Lib.hid (fun h => with_right (p := tl f.p) (d := tl f.d) CR.out h)
      have hw1 := hb1.size
      clear q0 RS FR
      unfold WithSays at WA
      generalize withF cur (tl f.p) (tl f.d) = r at *
      obtain ⟨nl, ne⟩ := r
      simp only at WA RW S1 S2
      by_cases h0 : ne = 0
      · subst h0
        have U2 := Lib.hid (UN.out.trans (S1.out rfl))
        have RW2 := Lib.hid (RW.out rfl)
        clear S1 S2 RW
        go_wp2_with (fail)
        rw [← eW]
        clear eW
        go_wp2_with (go_at_call 80; ((with_reducible refine (WA.out).mono ?_); rintro e w2 ⟨v2, rfl, ho2, hb2⟩))
        go_roundw
        case rel => exact ⟨k + 1, nl, by go_num, by omega, RW2.out, U2.out, Bx.own_low ho2 hw1, hb1.trans (hb2.mono hw1)⟩
        case measure => simp [intOf]; omega
      · have U2 := Lib.hid (BAD.out ne (UN.out.trans (S2.out h0)))
        have g0 : (ne != 0) = true := by simpa using h0
        clear S1 S2 RW
        go_wp2_with (fail)
        rw [← eW]
        clear eW
        go_wp2_with (go_at_call 80; ((with_reducible refine (WA.out).mono ?_); rintro e w2 ⟨v2, rfl, ho2, hb2⟩))
        exact U2.out _ (hb1.trans (hb2.mono hw1))
    · obtain rfl : k = m.length := by omega
      have U2 := Lib.hid (UN.out.trans (union_end cur m))
      go_wp2_with (fail)
      exact GOOD.out cur U2.out _ _ HO.out hb
theorem load_res {W : World} {g : Nat} {cs : Array Value} (h : W.heap[g]? = some (.cells cs 37 (0, 0))) (hs : cs.size = 4) : (loadVar 37 ⟨g, 0, none⟩).run Tryz.prog W = .ok (.agg cs) W :=
  run_loadVar_row W g 37 37 cs (0, 0) _ h rfl rfl (by rw [hs]; kernel_rfl)
theorem failed_any (e : Int) (a t : ByteArray) (w : World) :
    Calls Tryz.prog 45 #[.int .i64 e, .string a, .string t] w fun en w' => en = .returned (.agg #[.int .i64 e, .string a, .string t, .slice none 0 0]) ∧ Below w.heap.size w w' := by
  go_enter Tryz.func45, Tryz.ntmps45
  go_wp2_with (fail)
  refine bodyPost_ret (results_cell rfl _ _ _ ⟨w.heap.size, 0, none⟩ _ _ rfl (load_res (heap_alloc_new w _) rfl)) rfl ?_
  exact ⟨rfl, (Below.refl _ _).alloc (Nat.le_refl _) _⟩
end Go.Proofs.YtdidnlkilleljaaGreatDoor.Mn
