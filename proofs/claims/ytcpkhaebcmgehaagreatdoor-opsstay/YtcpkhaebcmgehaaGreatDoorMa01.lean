/- Joined by mkmerged.py: TgFl, OpSpec, RowMore, Km. -/
import Derived.Lib.Strings
import Derived.Below
import Derived.Laws.OwnMore
import Derived.Deep.AppendLies
import Derived.Deep.Draws
import Derived.Maps.AppendAt
import Derived.RegionTactic
import Derived.OwnWalk
import Derived.Deep.Quiet
import Derived.StillTail
/- A target, a file: plain words. -/
namespace Go.Proofs.YtcpkhaebcmgehaaGreatDoor
/-- a target -/
structure Tg where
  n : ByteArray
  c : ByteArray
  ds : List ByteArray
  ss : List ByteArray
/-- a file -/
structure Fl where
  p : ByteArray
  d : ByteArray
end Go.Proofs.YtcpkhaebcmgehaaGreatDoor
/- Operations, plainly: what they are behind an event, which one has a name; what stays, and that a Submit that was taken is taken again. -/
namespace Go.Proofs.YtcpkhaebcmgehaaGreatDoor.Ops
set_option linter.unusedVariables false
instance decTg : DecidableEq Tg := fun a b => decidable_of_iff (a.n = b.n ∧ a.c = b.c ∧ a.ds = b.ds ∧ a.ss = b.ss) (by cases a; cases b; simp)
instance decFl : DecidableEq Fl := fun a b => decidable_of_iff (a.p = b.p ∧ a.d = b.d) (by cases a; cases b; simp)
/-- a result -/
structure Rs where
  e : Int
  at_ : ByteArray
  tx : ByteArray
  fs : List Fl
/-- an operation -/
structure Op where
  n : ByteArray
  gr : List Tg
  sn : List Fl
  go : ByteArray
  st : Int
  r : Rs
/-- an event -/
structure Ev where
  k : Int
  x : Op
instance decRs : DecidableEq Rs := fun a b => decidable_of_iff (a.e = b.e ∧ a.at_ = b.at_ ∧ a.tx = b.tx ∧ a.fs = b.fs) (by cases a; cases b; simp)
instance decOp : DecidableEq Op := fun a b => decidable_of_iff (a.n = b.n ∧ a.gr = b.gr ∧ a.sn = b.sn ∧ a.go = b.go ∧ a.st = b.st ∧ a.r = b.r) (by cases a; cases b; simp)
def zeroR : Rs := ⟨0, ⟨#[]⟩, ⟨#[]⟩, []⟩
def zeroO : Op := ⟨⟨#[]⟩, [], [], ⟨#[]⟩, 0, zeroR⟩
def named (s : ByteArray) (x : Op) : Bool := decide (x.n = s)
def find (l : List Op) (s : ByteArray) : Option Op := l.find? (named s)
def at_ (l : List Op) (s : ByteArray) : Nat := l.findIdx (named s)
/-- an operation behind an event that it takes -/
def turned (x : Op) (e : Ev) : Option Op :=
  if e.k = 2 then (if x.st = 1 then some { x with st := 2 } else none)
  else if e.k = 3 then (if x.st = 2 then some { x with st := 3, r := e.x.r } else none)
  else if x.st = 3 then none else some { x with st := 4 }
section
variable (W : ByteArray → List Tg → List Fl → ByteArray → Int) (O : List Tg → List Fl → ByteArray → ByteArray)
def wrong (x : Op) : Int := W x.n x.gr x.sn x.go
def ord (x : Op) : ByteArray := O x.gr x.sn x.go
def fresh (x : Op) : Op := { x with st := 1, r := zeroR }
def submit (l : List Op) (x : Op) : List Op × Int :=
  if wrong W x ≠ 0 then ([], wrong W x)
  else match find l x.n with
    | some o => if ord O o = ord O x then (l, 0) else ([], 42)
    | none => if 16 ≤ l.length then ([], 41) else (l ++ [fresh x], 0)
/-- operations behind an event -/
def apply (l : List Op) (e : Ev) : List Op × Int :=
  if e.k = 1 then submit W O l e.x
  else if e.k = 2 ∨ e.k = 3 ∨ e.k = 4 then
    match l[at_ l e.x.n]? with
    | none => ([], 17)
    | some x => match turned x e with
      | none => ([], 43)
      | some y => (l.set (at_ l e.x.n) y, 0)
  else ([], 1)
end
variable {W : ByteArray → List Tg → List Fl → ByteArray → Int} {O : List Tg → List Fl → ByteArray → ByteArray}
theorem find_eq (l : List Op) (s : ByteArray) : find l s = l[at_ l s]? := by
  unfold find at_
  induction l with
  | nil => rfl
  | cons x l ih =>
    cases h : named s x <;> simp [List.findIdx_cons, h, ih]
theorem find_some {l : List Op} {s : ByteArray} {x : Op} (h : find l s = some x) : x ∈ l ∧ x.n = s :=
  ⟨List.mem_of_find?_eq_some h, by simpa [named] using List.find?_some h⟩
theorem find_none {l : List Op} {s : ByteArray} (h : find l s = none) : ∀ x ∈ l, x.n ≠ s := fun x hx e => by
  have := List.find?_eq_none.1 h x hx
  simp [named, e] at this
/-- a Submit that was taken is taken again, and changes nothing -/
theorem submit_again {l m : List Op} {x : Op} (h : submit W O l x = (m, 0)) : submit W O m x = (m, 0) ∧ ∃ y, find m x.n = some y := by
  unfold submit at h
  by_cases hw : wrong W x ≠ 0
  · rw [if_pos hw] at h; injection h with h1 h2; exact absurd h2 hw
  · rw [if_neg hw] at h
    cases hf : find l x.n with
    | some o =>
      simp only [hf] at h
      by_cases ho : ord O o = ord O x
      · rw [if_pos ho] at h; injection h with h1 h2; subst h1
        refine ⟨?_, o, hf⟩
        unfold submit; rw [if_neg hw, hf]; exact if_pos ho
      · rw [if_neg ho] at h; injection h with h1 h2; exact absurd h2 (by decide)
    | none =>
      simp only [hf] at h
      by_cases h16 : 16 ≤ l.length
      · rw [if_pos h16] at h; injection h with h1 h2; exact absurd h2 (by decide)
      · rw [if_neg h16] at h; injection h with h1 h2; subst h1
        have hf2 : find (l ++ [fresh x]) x.n = some (fresh x) := by
          unfold find at hf ⊢
          rw [List.find?_append, hf]
          simp [named, fresh]
        refine ⟨?_, _, hf2⟩
        unfold submit; rw [if_neg hw, hf2]; exact if_pos rfl
/-- where a Submit fails there is no list -/
theorem submit_fails {l m : List Op} {x : Op} {f : Int} (h : submit W O l x = (m, f)) (hf : f ≠ 0) : m = [] := by
  unfold submit at h
  by_cases hw : wrong W x ≠ 0
  · rw [if_pos hw] at h; injection h with h1 h2; exact h1.symm
  · rw [if_neg hw] at h
    cases hg : find l x.n with
    | some o =>
      simp only [hg] at h
      by_cases ho : ord O o = ord O x
      · rw [if_pos ho] at h; injection h with h1 h2; exact absurd h2.symm hf
      · rw [if_neg ho] at h; injection h with h1 h2; exact h1.symm
    | none =>
      simp only [hg] at h
      by_cases h16 : 16 ≤ l.length
      · rw [if_pos h16] at h; injection h with h1 h2; exact h1.symm
      · rw [if_neg h16] at h; injection h with h1 h2; exact absurd h2.symm hf
theorem apply_fails {l m : List Op} {e : Ev} {f : Int} (h : apply W O l e = (m, f)) (hf : f ≠ 0) : m = [] := by
  unfold apply at h
  by_cases h1 : e.k = 1
  · rw [if_pos h1] at h; exact submit_fails h hf
  · rw [if_neg h1] at h
    by_cases h2 : e.k = 2 ∨ e.k = 3 ∨ e.k = 4
    · rw [if_pos h2] at h
      cases hx : l[at_ l e.x.n]? with
      | none => simp only [hx] at h; injection h with h1 h2; exact h1.symm
      | some x =>
        simp only [hx] at h
        cases ht : turned x e with
        | none => simp only [ht] at h; injection h with h1 h2; exact h1.symm
        | some y => simp only [ht] at h; injection h with h1 h2; exact absurd h2.symm hf
    · rw [if_neg h2] at h; injection h with h1 h2; exact h1.symm
/-- what an operation comes to is what may be -/
structure Stay1 (s : ByteArray) (x y : Op) : Prop where
  n : x.n = y.n
  go : x.go = y.go
  same : x.n ≠ s → x = y
  ended : x.st = 3 → y.st = 3 ∧ x.r = y.r
  off : x.st = 4 → y.st = 4
  up : x.st ≤ y.st
theorem Stay1.refl (s : ByteArray) (x : Op) : Stay1 s x x := ⟨rfl, rfl, fun _ => rfl, fun h => ⟨h, rfl⟩, id, Int.le_refl _⟩
structure Stays (l m : List Op) (e : Ev) : Prop where
  le : l.length ≤ m.length
  le1 : m.length ≤ l.length + 1
  most : m.length ≤ 16
  each : ∀ k (hk : k < l.length) (hm : k < m.length), Stay1 e.x.n l[k] m[k]
  new : l.length < m.length → e.k = 1 ∧ ∃ h : l.length < m.length, m[l.length].n = e.x.n ∧ m[l.length].st = 1
/-- a list that events made -/
structure Made (l : List Op) : Prop where
  len : l.length ≤ 16
  st : ∀ x ∈ l, 1 ≤ x.st ∧ x.st ≤ 4
theorem Made.nil : Made [] := ⟨by simp, fun x h => by cases h⟩
theorem turned_stay {x y : Op} {e : Ev} (h : turned x e = some y) (hn : x.n = e.x.n) (h1 : 1 ≤ x.st) (h4 : x.st ≤ 4) (hk : e.k = 2 ∨ e.k = 3 ∨ e.k = 4) : Stay1 e.x.n x y ∧ 1 ≤ y.st ∧ y.st ≤ 4 := by
  unfold turned at h
  by_cases k2 : e.k = 2
  · rw [if_pos k2] at h
    by_cases s1 : x.st = 1
    · rw [if_pos s1] at h; injection h with h; subst h
      exact ⟨⟨rfl, rfl, fun a => absurd hn a, fun a => by omega, fun a => by omega, by show x.st ≤ 2; omega⟩, by show (1 : Int) ≤ 2; omega, by show (2 : Int) ≤ 4; omega⟩
    · rw [if_neg s1] at h; cases h
  · rw [if_neg k2] at h
    by_cases k3 : e.k = 3
    · rw [if_pos k3] at h
      by_cases s2 : x.st = 2
      · rw [if_pos s2] at h; injection h with h; subst h
        exact ⟨⟨rfl, rfl, fun a => absurd hn a, fun a => by omega, fun a => by omega, by show x.st ≤ 3; omega⟩, by show (1 : Int) ≤ 3; omega, by show (3 : Int) ≤ 4; omega⟩
      · rw [if_neg s2] at h; cases h
    · rw [if_neg k3] at h
      by_cases s3 : x.st = 3
      · rw [if_pos s3] at h; cases h
      · rw [if_neg s3] at h; injection h with h; subst h
        exact ⟨⟨rfl, rfl, fun a => absurd hn a, fun a => absurd a s3, fun a => rfl, by show x.st ≤ 4; omega⟩, by show (1 : Int) ≤ 4; omega, by show (4 : Int) ≤ 4; omega⟩
theorem stays_refl {l : List Op} (h : l.length ≤ 16) (e : Ev) : Stays l l e :=
  ⟨Nat.le_refl _, by omega, h, fun k hk _ => Stay1.refl _ _, fun h => absurd h (Nat.lt_irrefl _)⟩
/-- what has ended stays, with its result, and what is cancelled stays; nothing goes, and the order stays -/
theorem apply_stays {l m : List Op} {e : Ev} (hl : Made l) (h : apply W O l e = (m, 0)) : Stays l m e ∧ Made m := by
  unfold apply at h
  by_cases h1 : e.k = 1
  · rw [if_pos h1] at h
    unfold submit at h
    by_cases hw : wrong W e.x ≠ 0
    · rw [if_pos hw] at h; injection h with h1 h2; exact absurd h2 hw
    · rw [if_neg hw] at h
      cases hf : find l e.x.n with
      | some o =>
        simp only [hf] at h
        by_cases ho : ord O o = ord O e.x
        · rw [if_pos ho] at h; injection h with h1 h2; subst h1
          exact ⟨stays_refl hl.len e, hl⟩
        · rw [if_neg ho] at h; injection h with h1 h2; exact absurd h2 (by decide)
      | none =>
        simp only [hf] at h
        by_cases h16 : 16 ≤ l.length
        · rw [if_pos h16] at h; injection h with h1 h2; exact absurd h2 (by decide)
        · rw [if_neg h16] at h; injection h with h2 h3; subst h2
          refine ⟨⟨by simp, by simp, by simp; omega, fun k hk hm => ?_, fun _ => ⟨h1, by simp, by simp [fresh], by simp [fresh]⟩⟩, by simp; omega, fun x hx => ?_⟩
          · rw [List.getElem_append_left hk]; exact Stay1.refl _ _
          · rcases List.mem_append.1 hx with h | h
            · exact hl.st x h
            · rw [List.mem_singleton.1 h]; exact ⟨by show (1 : Int) ≤ 1; omega, by show (1 : Int) ≤ 4; omega⟩
  · rw [if_neg h1] at h
    by_cases h2 : e.k = 2 ∨ e.k = 3 ∨ e.k = 4
    · rw [if_pos h2] at h
      cases hx : l[at_ l e.x.n]? with
      | none => simp only [hx] at h; injection h with h1 h2; exact absurd h2 (by decide)
      | some x =>
        simp only [hx] at h
        cases ht : turned x e with
        | none => simp only [ht] at h; injection h with h1 h2; exact absurd h2 (by decide)
        | some y =>
          simp only [ht] at h; injection h with h3 h4; subst h3
          have hxn := (find_some ((find_eq l e.x.n).trans hx))
          have hs := turned_stay ht hxn.2 (hl.st x hxn.1).1 (hl.st x hxn.1).2 h2
          refine ⟨⟨by simp, by simp, by simp; exact hl.len, fun k hk hm => ?_, fun a => by simp at a⟩, by simp; exact hl.len, fun z hz => ?_⟩
          · rw [List.getElem_set]
            by_cases hi : at_ l e.x.n = k
            · rw [if_pos hi]
              subst hi
              obtain ⟨_, hq⟩ := List.getElem?_eq_some_iff.1 hx
              rw [hq]; exact hs.1
            · rw [if_neg hi]; exact Stay1.refl _ _
          · rcases List.mem_or_eq_of_mem_set hz with h | h
            · exact hl.st z h
            · rw [h]; exact hs.2
    · rw [if_neg h2] at h; injection h with h1 h2; exact absurd h2 (by decide)
end Go.Proofs.YtcpkhaebcmgehaaGreatDoor.Ops
/- Rows of the call's own: cut, appended to from a row that reads as a list, a cell of them set. (The words 'Reads' and the append laws are the kit's own, which its page of words for memory gives for copying.) No dump's numbers. -/
namespace Go.Proofs.YtcpkhaebcmgehaaGreatDoor
open Go.RowKit
set_option linter.unusedVariables false
theorem block_of_add (a : Addr) (n : Nat) : (a.add n).block = a.block := by unfold Addr.add; split <;> rfl
theorem add_of_add (a : Addr) (i j : Nat) : (a.add i).add j = a.add (i + j) := by
  unfold Addr.add
  by_cases hi : i = 0 <;> by_cases hj : j = 0 <;> simp [hi, hj, Nat.add_assoc]

def Reads (w : World) (B size : Nat) (A : Option Addr) (n : Nat) (xs : List Value) : Prop :=
  xs.length = n * size ∧ (0 < n → ∃ ad, A = some ad ∧ ad.block < B ∧ ∀ j u, xs[j]? = some u → w.cell? (ad.add j) = some u)

section
variable {w w' : World} {B B' size n : Nat} {A : Option Addr} {xs : List Value}
theorem Reads.none_ : Reads w B size A 0 [] := ⟨by simp, fun h => absurd h (by omega)⟩
theorem Reads.at_ {k : Nat} (h : Reads w B 1 A n xs) (hk : k < n) : ∃ ad u, A = some ad ∧ ad.block < B ∧ xs[k]? = some u ∧ w.cell? (ad.add k) = some u := by
  obtain ⟨ad, e, hb, hc⟩ := h.2 (by omega)
  have hl : k < xs.length := by have := h.1; omega
  exact ⟨ad, xs[k], e, hb, List.getElem?_eq_getElem hl, hc k _ (List.getElem?_eq_getElem hl)⟩
theorem Reads.keep (h : Reads w B size A n xs) (hk : ∀ p : Addr, p.block < B → w'.cell? p = w.cell? p) : Reads w' B size A n xs :=
  ⟨h.1, fun hn => by
    obtain ⟨ad, e, hb, hc⟩ := h.2 hn
    exact ⟨ad, e, hb, fun j u hu => (hk _ (by rw [block_of_add]; exact hb)).trans (hc j u hu)⟩⟩
theorem Reads.more (h : Reads w B size A n xs) (hB : B ≤ B') : Reads w B' size A n xs :=
  ⟨h.1, fun hn => by
    obtain ⟨ad, e, hb, hc⟩ := h.2 hn
    exact ⟨ad, e, by omega, hc⟩⟩
theorem Reads.below (h : Reads w B size A n xs) (hb : Below B w w') : Reads w' B size A n xs := h.keep fun _ hp => hb.cell hp
theorem Reads.drew (h : Reads w B size A n xs) : Reads w.drew B size A n xs := h
theorem Reads.drewN (h : Reads w B size A n xs) (k : Nat) : Reads (w.drewN k) B size A n xs := h
theorem Reads.alloc (h : Reads w B size A n xs) (hB : B ≤ w.heap.size) (o : Obj) : Reads (w.alloc o) B size A n xs := h.keep fun p hp => World.cell?_alloc_lt w o p (by omega)
theorem Reads.setCell (h : Reads w B size A n xs) {p : Addr} (hB : B ≤ p.block) (u : Value) : Reads (w.setCell p u) B size A n xs :=
  h.keep fun q hq => World.cell?_setCell_other w p q u (fun e => by subst e; omega)
theorem Reads.grown (h : Reads w B size A n xs) {row : Option Nat} (hg : w.grownBy w' row) (hB : B ≤ w.heap.size) (hr : ∀ g, row = some g → B ≤ g) : Reads w' B size A n xs :=
  h.keep fun p hp => World.cell?_of_block (hg.block p.block (by omega) (fun e => by have := hr _ e.symm; omega))
theorem Reads.cut (h : Reads w B size A n xs) {k cap : Nat} (hk : k ≤ n) (hc : n ≤ cap) :
    Reads w B size (if cap = k then A else A.map (·.add (k * size))) (n - k) (xs.drop (k * size)) := by
  refine ⟨by rw [List.length_drop, h.1, Nat.sub_mul], fun hn => ?_⟩
  obtain ⟨ad, rfl, hb, hcell⟩ := h.2 (by omega)
  rw [if_neg (by omega)]
  refine ⟨ad.add (k * size), rfl, by rw [block_of_add]; exact hb, fun j u hu => ?_⟩
  rw [add_of_add]
  exact hcell _ u (by rw [← hu, List.getElem?_drop])
theorem Reads.of_own {base : Nat} {e : TypeId} {c : Nat} (h : w.ownsRow base e size (.slice A n c) n xs) : Reads w w.heap.size size A n xs := by
  refine ⟨h.1, fun hn => ?_⟩
  obtain ⟨g, cap, hv, _, hlt⟩ := h.form hn
  have hA : A = some ⟨g, 0, none⟩ := by injection hv
  subst hA
  exact ⟨_, rfl, hlt, h.cells (g := g) rfl⟩
end

section
variable {P : Program} (w : World)

theorem run_append_of_nil (base : Nat) (t ty e : TypeId) (i : TypeInfo) (size : Nat) (ht : P.underlying t = some (.slice e)) (hi : P.info? e = some i)
    (v : Value) (n : Nat) (xs : List Value) (hown : w.ownsRow base e size v n xs) (c : Nat) : (Builtin.append_ #[t, t] ty #[v, .slice none 0 c]).run P w = .ok v w := by
  rcases hown.2 with ⟨rfl, rfl⟩ | ⟨g, cap, cur, rfl, _, _, hnc, _⟩
  · simp [Builtin.append_, run_underlying ht, sizeOf, typeInfo, hi, Builtin.lenOf, Builtin.firstCells]
  · simp [Builtin.append_, run_underlying ht, sizeOf, typeInfo, hi, Builtin.lenOf, Builtin.firstCells, hnc, storeCells]

theorem run_append_any (base : Nat) (t ty e : TypeId) (i : TypeInfo) (z : Value) (size bytes : Nat) (ht : P.underlying t = some (.slice e)) (hi : P.info? e = some i) (hz : i.zero = some z)
    (hsize : i.size = size) (hby : i.bytes = bytes) (hzs : z.cells.size = size) (hsz : 0 < size)
    (v : Value) (n : Nat) (xs : List Value) (hown : w.ownsRow base e size v n xs)
    (B : Nat) (A : Option Addr) (m c : Nat) (news : List Value) (hr : Reads w B size A m news) (h1 : ∀ u ∈ news, u.oneCell' = true)
    (h63 : n + m ≤ maxLen) (hbytes : (n + m) * bytes ≤ 140737488355328) (hbase : base ≤ w.heap.size) :
    ∃ v' w', (Builtin.append_ #[t, t] ty #[v, .slice A m c]).run P w = .ok v' w' ∧ w'.ownsRow base e size v' (n + m) (xs ++ news) ∧ w.grownBy w' v.ownBlock ∧
      (v'.ownBlock = v.ownBlock ∨ v'.ownBlock = some w.heap.size) := by
  rcases A with _ | ad
  · have hm : m = 0 := by
      rcases Nat.eq_zero_or_pos m with h0 | h0
      · exact h0
      · obtain ⟨ad, h, _⟩ := hr.2 h0
        cases h
    subst hm
    have hn : news = [] := List.eq_nil_of_length_eq_zero (by simpa using hr.1)
    subst hn
    exact ⟨v, w, run_append_of_nil w base t ty e i size ht hi v n xs hown c, by simpa using hown, World.grownBy.refl w _, .inl rfl⟩
  · have hcells : ∀ j u, news[j]? = some u → w.cell? (ad.add j) = some u := by
      intro j u hu
      rcases Nat.eq_zero_or_pos m with h0 | h0
      · subst h0
        have hn : news = [] := List.eq_nil_of_length_eq_zero (by simpa using hr.1)
        subst hn
        simp at hu
      · obtain ⟨ad', h, _, hc⟩ := hr.2 h0
        injection h with h
        subst h
        exact hc j u hu
    obtain ⟨v', w', hrun, h2, h3, _, h5⟩ := run_append_own_at (P := P) w base t ty e i z size bytes ht hi hz hsize hby hzs hsz v n xs hown ad m c news hr.1 hcells h1 h63 hbytes hbase
    exact ⟨v', w', hrun, h2, h3, h5⟩

theorem wp_append_any {o : Oper} {a : Act} {K : Act → World → Prop} {Q : Exit → Act → World → Prop} (s x : Operand) (t : TypeId)
    (ho : o.op = .call { callee := .builtin .append, args := #[s, x], argTypes := #[t, t] })
    (base : Nat) (e : TypeId) (i : TypeInfo) (z : Value) (size bytes : Nat) (ht : P.underlying t = some (.slice e)) (hi : P.info? e = some i) (hz : i.zero = some z)
    (hsize : i.size = size) (hby : i.bytes = bytes) (hzs : z.cells.size = size) (hsz : 0 < size)
    (v : Value) (n : Nat) (xs : List Value) (hs : a.eval s = v) (hown : w.ownsRow base e size v n xs)
    (B : Nat) (A : Option Addr) (m c : Nat) (news : List Value) (hx : a.eval x = .slice A m c) (hr : Reads w B size A m news) (h1 : ∀ u ∈ news, u.oneCell' = true)
    (h63 : n + m ≤ maxLen) (hbytes : (n + m) * bytes ≤ 140737488355328) (hbase : base ≤ w.heap.size)
    (h : ∀ v' w', w'.ownsRow base e size v' (n + m) (xs ++ news) → w.grownBy w' v.ownBlock → (v'.ownBlock = v.ownBlock ∨ v'.ownBlock = some w.heap.size) → K (a.put o.dst v') w') : o.wp P a w K Q := by
  obtain ⟨v', w', hrun, h2, h3, h4⟩ := run_append_any (P := P) w base t o.type e i z size bytes ht hi hz hsize hby hzs hsz v n xs hown B A m c news hr h1 h63 hbytes hbase
  unfold Oper.wp execOp
  simp only [ho, resolve, invoke, builtin, Sem.run_bind, Sem.run_pure, Result.andThen_ok, List.map_toArray, List.map_cons, List.map_nil, hs, hx, hrun]
  exact h v' w' h2 h3 h4

theorem wpList_append_any {ops : Array Oper} {rest : List Oper} {o : Oper} {a : Act} {Q : Exit → Act → World → Prop} (hgd : o.guard = none) (s x : Operand) (t : TypeId)
    (ho : o.op = .call { callee := .builtin .append, args := #[s, x], argTypes := #[t, t] })
    (base : Nat) (e : TypeId) (i : TypeInfo) (z : Value) (size bytes : Nat) (ht : P.underlying t = some (.slice e)) (hi : P.info? e = some i) (hz : i.zero = some z)
    (hsize : i.size = size) (hby : i.bytes = bytes) (hzs : z.cells.size = size) (hsz : 0 < size)
    (v : Value) (n : Nat) (xs : List Value) (hs : a.eval s = v) (hown : w.ownsRow base e size v n xs)
    (B : Nat) (A : Option Addr) (m c : Nat) (news : List Value) (hx : a.eval x = .slice A m c) (hr : Reads w B size A m news) (h1 : ∀ u ∈ news, u.oneCell' = true)
    (h63 : n + m ≤ maxLen) (hbytes : (n + m) * bytes ≤ 140737488355328) (hbase : base ≤ w.heap.size)
    (h : ∀ v' w', w'.ownsRow base e size v' (n + m) (xs ++ news) → w.grownBy w' v.ownBlock → (v'.ownBlock = v.ownBlock ∨ v'.ownBlock = some w.heap.size) → wpList P ops Q rest (a.put o.dst v') w') : wpList P ops Q (o :: rest) a w :=
  wpList_plain hgd fun _ hK => wp_append_any w s x t ho base e i z size bytes ht hi hz hsize hby hzs hsz v n xs hs hown B A m c news hx hr h1 h63 hbytes hbase fun v' w' h2 h3 h4 => hK _ _ (h v' w' h2 h3 h4)

theorem step_append_any {ops : Array Oper} {o : Oper} {a : Act} {K : Act → World → Prop} {Q : Exit → Act → World → Prop} {E : Prop} (hgd : o.guard = none) (s x : Operand) (t : TypeId)
    (ho : o.op = .call { callee := .builtin .append, args := #[s, x], argTypes := #[t, t] })
    (base : Nat) (e : TypeId) (i : TypeInfo) (z : Value) (size bytes : Nat) (ht : P.underlying t = some (.slice e)) (hi : P.info? e = some i) (hz : i.zero = some z)
    (hsize : i.size = size) (hby : i.bytes = bytes) (hzs : z.cells.size = size) (hsz : 0 < size)
    (v : Value) (n : Nat) (xs : List Value) (hs : a.eval s = v) (hown : w.ownsRow base e size v n xs)
    (B : Nat) (A : Option Addr) (m c : Nat) (news : List Value) (hx : a.eval x = .slice A m c) (hr : Reads w B size A m news) (h1 : ∀ u ∈ news, u.oneCell' = true)
    (h63 : n + m ≤ maxLen) (hbytes : (n + m) * bytes ≤ 140737488355328) (hbase : base ≤ w.heap.size)
    (h : ∀ v' w', w'.ownsRow base e size v' (n + m) (xs ++ news) → w.grownBy w' v.ownBlock → (v'.ownBlock = v.ownBlock ∨ v'.ownBlock = some w.heap.size) → K (a.put o.dst v') w') :
    if Region.wanted o (yielded ops a.tmps) = true then Oper.wp P o a w K Q else E := by
  have hw : Region.wanted o (yielded ops a.tmps) = true := by simp [Region.wanted, hgd]
  rw [if_pos hw]
  exact wp_append_any w s x t ho base e i z size bytes ht hi hz hsize hby hzs hsz v n xs hs hown B A m c news hx hr h1 h63 hbytes hbase h
end

/-- one cell of a row is set -/
theorem own_set {w : World} {B : Nat} {e : TypeId} {size n cap g : Nat} {xs : List Value} (h : w.ownsRow B e size (.slice (some ⟨g, 0, none⟩) n cap) n xs) {j : Nat} (hj : j < n * size) (u : Value) :
    (w.setCell ⟨g, j, none⟩ u).ownsRow B e size (.slice (some ⟨g, 0, none⟩) n cap) n (xs.set j u) := by
  refine ⟨by rw [List.length_set]; exact h.1, ?_⟩
  rcases h.2 with ⟨h0, _⟩ | ⟨g', cap', cur, hv, hB, hg, h1, h2, h3, h4⟩
  · cases h0
  · injection hv with hA _ hc
    injection hA with hA
    injection hA with hA _ _
    subst hA
    subst hc
    refine .inr ⟨g, cap, cur.setIfInBounds j u, rfl, hB, ?_, h1, h2, by simpa using h3, ?_⟩
    · simp [World.setCell, Array.getElem?_modify, hg]
    · rw [← h4, Array.toList_setIfInBounds, List.take_set]
end Go.Proofs.YtcpkhaebcmgehaaGreatDoor
/- A region that draws its order: its first n operations quiet in a class of worlds, the rest in one forced order, save operations that do nothing but move a value. -/
namespace Go.Proofs.YtcpkhaebcmgehaaGreatDoor
open Go
section
variable {P : Program} {ops : Array Oper} {Q : Exit → Act → World → Prop} {C : World → Prop}

/-- moves a value, whatever the world -/
def mover (o : Oper) : Bool := o.guard.isNone && match o.op with
  | .move _ => true
  | .assign _ => true
  | .extract _ _ => true
  | _ => false

theorem mover_yields {o : Oper} {v : Value} {a : Act} (h : mover o = true) (w0 : World) (h0 : C w0) (hy : YieldsIn P ops C o v a) : Yields P ops o v a := by
  simp only [mover, Bool.and_eq_true, Option.isNone_iff_eq_none] at h
  obtain ⟨hg, h⟩ := h
  have hw : Region.wanted o (yielded ops a.tmps) = true := by simp [Region.wanted, hg]
  rcases hy with ⟨_, hy⟩ | ⟨hn, _⟩
  · refine .inl ⟨hw, fun w => ?_⟩
    have h1 := hy w0 h0
    unfold Oper.quietAt at h1
    revert h h1
    unfold execOp
    cases hop : o.op <;> simp only [Bool.false_eq_true, false_implies, true_implies]
    case move x => intro h1; simp only [Sem.run_pure, Oper.quietUpon] at h1 ⊢; rw [h1.2]
    case assign x => intro h1; simp only [Sem.run_pure, Oper.quietUpon] at h1 ⊢; rw [h1.2]
    case extract t ix =>
      intro h1
      generalize a.eval t = x at h1 ⊢
      unfold Instr.extract at h1 ⊢
      cases x <;> try (simp [stuck, Oper.quietUpon, Result.andThen] at h1)
      case tuple vs =>
        cases hv : vs[ix]? with
        | none => rw [hv] at h1; simp at h1
        | some u => rw [hv] at h1; simp at h1; subst h1; simp [hv]
  · rw [hw] at hn; cases hn

/-- whatever order is picked from here on, till operation n is -/
def wpAnyM (P : Program) (ops : Array Oper) (Q : Exit → Act → World → Prop) (C : World → Prop) (n : Nat) : Nat → Array Bool → Act → Prop
  | 0, _, _ => False
  | f + 1, listed, a => Region.ready .any ops listed ≠ [] ∧ ∀ i ∈ Region.ready .any ops listed,
      if i = n then ∀ w, C w → wpOp P ops Q n (wpAny P .any ops Q f (listed.setIfInBounds n true)) a w
      else qOp P ops C i (wpAnyM P ops Q C n f (listed.setIfInBounds i true)) a

theorem wpAny_of_M {n : Nat} : ∀ (f : Nat) (listed : Array Bool) (a : Act) (w : World), C w → wpAnyM P ops Q C n f listed a → wpAny P .any ops Q f listed a w
  | 0, _, _, _, _, h => h.elim
  | f + 1, listed, a, w, hw, h => ⟨fun h0 => absurd h0 h.1, fun i hi => by
      have h1 := h.2 i hi
      by_cases e : i = n
      · subst e; rw [if_pos rfl] at h1; exact h1 w hw
      · rw [if_neg e] at h1; exact wpOp_of_qOp hw (fun a' w' hw' h' => wpAny_of_M f _ a' w' hw' h') h1⟩

/-- number n waits for number i, directly or through others -/
def leads (ops : Array Oper) (n : Nat) : Nat → Nat → Bool
  | 0, _ => false
  | f + 1, i => Region.waitsFor .any ops n i || (List.range n).any fun j => decide (i < j) && Region.waitsFor .any ops j i && leads ops n f j
/-- what is listed has all listed that it waits for -/
def Closed (ops : Array Oper) (listed : Array Bool) : Prop := ∀ j oj, ops[j]? = some oj → listed.getD j false = true → ∀ e ∈ oj.after, Region.binds .any e = true → listed.getD e.on false = true
theorem Closed.set {listed : Array Bool} {i : Nat} (inv : Closed ops listed) (hi : i ∈ Region.ready .any ops listed) : Closed ops (listed.setIfInBounds i true) := by
  obtain ⟨_, oi, hoi, hall⟩ := mem_ready.1 hi
  intro j oj hj hl e he hb
  by_cases hij : i = j
  · subst hij
    have : oj = oi := Option.some.inj (hj.symm.trans hoi)
    subst this
    exact getD_set_true (hall e he hb)
  · rw [getD_set_ne false hij] at hl
    exact getD_set_true (inv j oj hj hl e he hb)
theorem leads_listed {n : Nat} {listed : Array Bool} (hc : Closed ops listed) (hn : n ∈ Region.ready .any ops listed) : ∀ (f i : Nat), leads ops n f i = true → listed.getD i false = true
  | 0, _, h => by simp [leads] at h
  | f + 1, i, h => by
    simp only [leads, Bool.or_eq_true] at h
    rcases h with h | h
    · obtain ⟨o, ho, e, he, hb, hon⟩ := Region.waitsFor_spec h
      obtain ⟨_, o', ho', hall⟩ := mem_ready.1 hn
      have : o = o' := Option.some.inj (ho.symm.trans ho')
      subst this
      rw [← hon]; exact hall e he hb
    · obtain ⟨j, _, hj⟩ := List.any_eq_true.1 h
      simp only [Bool.and_eq_true] at hj
      have hl := leads_listed hc hn f j hj.2
      obtain ⟨o, ho, e, he, hb, hon⟩ := Region.waitsFor_spec hj.1.2
      rw [← hon]; exact hc j o ho hl e he hb

theorem wpAnyM_first {n i : Nat} {oi : Oper} {v : Value} (hi : ops[i]? = some oi) (hsel : ∀ (j : Nat) (o : Oper) cs b, ops[j]? = some o → o.op ≠ .select cs b)
    (hQ : ∀ c a w, Q (.panic c) (a.put oi.dst v) w → Q (.panic c) a w) (hin : i ≠ n) (w0 : World) (hw0 : C w0)
    (fl : Nat) (hk : leads ops n fl i = true ∨ mover oi = true) :
    ∀ (f : Nat) (listed : Array Bool) (a : Act), Closed ops listed →
      (∀ j oj, ops[j]? = some oj → j ≠ i → listed.getD j true = false → (∀ e ∈ oj.after, Region.binds .any e = true → e.on ≠ i) → oi.apart ops oj = true) →
      i ∈ Region.ready .any ops listed → YieldsIn P ops C oi v a →
      wpAnyM P ops Q C n f (listed.setIfInBounds i true) (a.put oi.dst v) → wpAnyM P ops Q C n (f + 1) listed a := by
  intro f
  induction f with
  | zero => intro listed a _ _ _ _ H; exact H.elim
  | succ f ih =>
    intro listed a hcl hfree hr hy H
    have hun := (mem_ready.1 hr).1
    refine ⟨fun h => (by rw [h] at hr; cases hr), fun j hj => ?_⟩
    obtain ⟨hjun, oj, hoj, hall⟩ := mem_ready.1 hj
    by_cases hji : j = i
    · subst hji
      rw [if_neg hin]
      exact hy.qOp hi H
    have hnot : ∀ e ∈ oj.after, Region.binds .any e = true → e.on ≠ i := fun e he hb heq => by
      have h1 := hall e he hb
      rw [heq, getD_both hun] at h1
      cases h1
    have hap := hfree j oj hoj hji hjun hnot
    have hfree' : ∀ k ok, ops[k]? = some ok → k ≠ i → (listed.setIfInBounds j true).getD k true = false →
        (∀ e ∈ ok.after, Region.binds .any e = true → e.on ≠ i) → oi.apart ops ok = true := fun k ok hk hki hun hno => by
      refine hfree k ok hk hki ?_ hno
      by_cases hjk : j = k
      · subst hjk; exact hjun
      · rw [getD_set_ne true hjk] at hun; exact hun
    have h1 := H.2 j (ready_mono hj hji)
    by_cases hjn : j = n
    · subst hjn
      rw [if_pos rfl] at h1 ⊢
      intro w hw
      have hm : mover oi = true := by
        rcases hk with hk | hk
        · have := leads_listed hcl hj fl i hk
          rw [getD_both hun] at this
          cases this
        · exact hk
      have hY := mover_yields hm w0 hw0 hy
      have h2 := wpOp_put hoj hap (fun cs b => hsel i oi cs b hi) (fun cs b => hsel j oj cs b hoj) hQ hY (h1 w hw)
      refine wpOp_mono (fun a' w' h3 => wpAny_first hi hsel hQ f _ a' w' hfree' (ready_mono hr (Ne.symm hji)) h3.1 ?_) h2
      rw [Array.setIfInBounds_comm _ _ hji]
      exact h3.2
    · rw [if_neg hjn] at h1 ⊢
      have h2 := qOp_put hoj hap (fun cs b => hsel i oi cs b hi) (fun cs b => hsel j oj cs b hoj) hy h1
      refine qOp_mono (fun a' h3 => ih (listed.setIfInBounds j true) a' (hcl.set hj) hfree' (ready_mono hr (Ne.symm hji)) h3.1 ?_) h2
      rw [Array.setIfInBounds_comm _ _ hji]
      exact h3.2

/-- each of the first n is waited for by number n, or moves a value alone -/
def headB (ops : Array Oper) (n : Nat) : Bool := (List.range n).all fun i => ((ops[i]?).map mover).getD false || leads ops n n i
def mixB (ops : Array Oper) (n : Nat) : Bool :=
  Region.noSelect ops && decide (n < ops.size) && headB ops n && Region.lexHead .any ops (ops.size - n) n 0 (Array.replicate ops.size false)

theorem wpAnyM_lex {n g : Nat} {Lq : Act → Prop} (hsel : Region.noSelect ops = true) (hh : headB ops n = true)
    (hQ : ∀ c a d v w, Q (.panic c) (a.put d v) w → Q (.panic c) a w) (w0 : World) (hw0 : C w0)
    (hend : ∀ listed a, Region.seqB .any ops (g + 1) n listed = true → Lq a → wpAnyM P ops Q C n (g + 1) listed a) :
    ∀ (l : List Oper) (k : Nat) (listed : Array Bool) (a : Act), Closed ops listed → (∀ j, j < l.length → l[j]? = ops[k + j]?) → k + l.length = n →
    Region.lexHead .any ops (g + 1) l.length k listed = true → wpQuiet P ops C Lq l a → wpAnyM P ops Q C n (l.length + (g + 1)) listed a
  | [], k, listed, a, _, _, hk, hB, h => by
    have : k = n := by simpa using hk
    subst this
    rw [show ([] : List Oper).length + (g + 1) = g + 1 by simp]
    exact hend listed a (by simpa [Region.lexHead] using hB) h
  | o :: l, k, listed, a, hcl, hl, hk, hB, h => by
    have h0 : ops[k]? = some o := by simpa using (hl 0 (by simp)).symm
    simp only [List.length_cons, Region.lexHead, Bool.and_eq_true] at hB
    obtain ⟨⟨hr, hf⟩, hB'⟩ := hB
    have hkn : k < n := by simp only [List.length_cons] at hk; omega
    have hr' : k ∈ Region.ready .any ops listed := by simpa using hr
    have hst : qOp P ops C k (wpQuiet P ops C Lq l) a := by unfold qOp; simp only [h0]; exact h
    obtain ⟨v, hy, hK⟩ := yieldsIn_of_qOp h0 hst
    have hk' : leads ops n n k = true ∨ mover o = true := by
      have := List.all_eq_true.1 hh k (List.mem_range.2 hkn)
      simpa [h0, or_comm] using this
    rw [show (o :: l).length + (g + 1) = (l.length + (g + 1)) + 1 by simp only [List.length_cons]; omega]
    exact wpAnyM_first h0 (Region.noSelect_spec hsel) (fun c a w => hQ c a _ _ w) (by omega) w0 hw0 n hk' (l.length + (g + 1)) listed a hcl (Region.free_spec h0 hf) hr' hy
      (wpAnyM_lex hsel hh hQ w0 hw0 hend l (k + 1) _ _ (hcl.set hr') (fun j hj => by have := hl (j + 1) (by simp; omega); simpa [Nat.add_assoc, Nat.add_comm 1 j] using this) (by simp only [List.length_cons] at hk; omega) hB' hK)

/-- ONE WALK IN THE TEXT's ORDER SERVES EVERY ORDER: the first n quiet in the class C, then the rest from whatever world of the class. -/
theorem wp_region_mix {id : Nat} {a : Act} {w : World} {l : List Oper} (n : Nat) (hm : P.follows .mixedOrders = true) (hB : mixB l.toArray n = true)
    (hQ : ∀ c a d v w, Q (.panic c) (a.put d v) w → Q (.panic c) a w) (hC : C w.drew)
    (h : wpQuiet P l.toArray C (fun a' => ∀ w', C w' → wpList P l.toArray Q (l.drop n) a' w') (l.take n) a) : (Code.region id l.toArray true).wp P Q a w := by
  simp only [mixB, Bool.and_eq_true, decide_eq_true_eq] at hB
  obtain ⟨⟨⟨hsel, hn⟩, hh⟩, hlex⟩ := hB
  have hn' : n < l.length := by simpa using hn
  have htl : (l.take n).length = n := by simp; omega
  obtain ⟨g, hg⟩ : ∃ g, l.toArray.size - n = g + 1 := ⟨l.toArray.size - n - 1, by simp at hn ⊢; omega⟩
  rw [hg] at hlex
  refine wp_region_any hm (wpAny_of_M (C := C) (n := n) _ _ _ _ hC ?_)
  have H := wpAnyM_lex (P := P) (Q := Q) (C := C) (g := g) hsel hh hQ _ hC (fun listed a' hs hL => ?_) (l.take n) 0 _ a (fun j oj _ hl => (by rw [getD_replicate_false] at hl; cases hl)) (fun j hj => by
    have hj' : j < n := by rw [htl] at hj; exact hj
    simp [hj']) (by simpa using htl) (by rw [htl]; exact hlex) h
  · rw [htl, show n + (g + 1) = l.toArray.size by omega] at H
    exact H
  · have hd : (l.drop n).length = g + 1 := by simp at hg ⊢; omega
    simp only [Region.seqB, Bool.and_eq_true, decide_eq_true_eq] at hs
    refine ⟨fun h0 => (by rw [hs.1] at h0; cases h0), fun i hi => ?_⟩
    rw [hs.1] at hi
    have hin : i = n := by simpa using hi
    subst hin
    rw [if_pos rfl]
    intro w1 hw1
    have hs' : Region.seqB .any l.toArray (l.drop i).length i listed = true := by
      rw [hd]; simp only [Region.seqB, Bool.and_eq_true, decide_eq_true_eq]; exact hs
    have := wpAny_of_seq (P := P) (md := .any) (Q' := Q) (l.drop i) i listed a' w1 (fun j => by simp [List.getElem?_drop]) hs' (hL w1 hw1)
    rw [hd] at this
    exact this.2 i (by rw [hs.1]; simp)
/-- A region that is quiet in a class of worlds, its operations written out. -/
theorem wp_region_cls {id : Nat} {a : Act} {w : World} {l : List Oper} (hm : P.follows .mixedOrders = true) (hB : Region.lexB .any l.toArray = true) (hC : C w.drew)
    (h : wpQuiet P l.toArray C (fun a' => ∀ w', C w' → Q .normal a' w') l a) : (Code.region id l.toArray true).wp P Q a w :=
  wp_region_quiet (C := C) hm hB hC (by simpa using h)
end
end Go.Proofs.YtcpkhaebcmgehaaGreatDoor
