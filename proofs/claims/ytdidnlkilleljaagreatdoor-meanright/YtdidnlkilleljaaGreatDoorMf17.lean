/- Joined by mkmerged.py: PkSpec, PkText, PkList, KgFn, PkRead, PkBack, SortCall, MapV. -/
import Derived.Lib.ItoaNum
import Derived.Test.YtdidnlkilleljaaGreatDoorMf01
import Derived.Test.YtdidnlkilleljaaGreatDoorMfKt
import Derived.Lib.AppendIntMem
import Derived.Deep.RegionWith
import Derived.Test.YtdidnlkilleljaaGreatDoorMf02
import Derived.Laws.OwnMore
import Derived.Deep.AppendLies
import Derived.Deep.Draws
import Derived.Test.YtdidnlkilleljaaGreatDoorMfKm
import Derived.Lib.Atoi
import Derived.Lib.AtoiErrMem
import Derived.Shelf.SlSortCmp.NoneTotal
import Derived.Sort.OwnSorted
import Derived.Test.YtdidnlkilleljaaGreatDoorProg
import Derived.WalkKit
import Derived.Maps.OwnSet
import Derived.Maps.OwnOps
import Derived.Maps.Views
/- PkSpec, what a claim needs of it (prune.py). -/
namespace Go.Proofs.YtdidnlkilleljaaGreatDoor.Pk
open Go
def text (s : List UInt8) : List UInt8 := Lib.decDigits s.length ++ 58 :: (s ++ [44])
def list (l : List (List UInt8)) : List UInt8 := text (l.flatMap text)
def isDig (c : UInt8) : Bool := decide (48 ≤ c.toNat) && decide (c.toNat ≤ 57)
def kd (s : List UInt8) : Nat := ((s.take 7).takeWhile isDig).length
def dval (l : List UInt8) : Nat := l.foldl (fun n c => 10 * n + (c.toNat - 48)) 0
inductive Nx where
  | bad (e : Nat)
  | ok (t r : List UInt8)
def len (s : List UInt8) : Nat ⊕ (Nat × List UInt8) :=
  let k := kd s
  if k = s.length then .inl 10
  else if s.getD k 0 ≠ 58 ∨ k = 0 ∨ (1 < k ∧ s.getD 0 0 = 48) then .inl 11
  else .inr (dval (s.take k), s.drop (k + 1))
def nxt (s : List UInt8) : Nx :=
  match len s with
  | .inl e => .bad e
  | .inr (n, r) => if r.length ≤ n then .bad 10 else if r.getD n 0 ≠ 44 then .bad 11 else .ok (r.take n) (r.drop (n + 1))
theorem nxt_lt {s t r : List UInt8} (h : nxt s = .ok t r) : r.length < s.length := by
  unfold nxt len at h
  simp only at h
  split at h
  · cases h
  · rename_i n r' h'
    split at h'
    · cases h'
    · split at h'
      · cases h'
      · injection h' with h'
        injection h' with h1 h2
        split at h
        · cases h
        · split at h
          · cases h
          · injection h with h3 h4
            subst h4 h2
            rename_i hk _ _ _
            have : kd s ≤ s.length := by
              have := (List.takeWhile_prefix (p := isDig) (l := s.take 7)).length_le
              unfold kd
              simp at this ⊢
              omega
            simp
            omega
def lst (s : List UInt8) : Option (List (List UInt8)) :=
  if s = [] then some [] else
  match _h : nxt s with
  | .bad _ => none
  | .ok t r => (lst r).map (t :: ·)
termination_by s.length
decreasing_by exact nxt_lt _h
structure Rd where
  rest : List UInt8
  bad : Nat
def Rd.text (r : Rd) : List UInt8 × Rd :=
  if r.bad ≠ 0 then ([], r) else
  match nxt r.rest with
  | .bad e => ([], ⟨r.rest, e⟩)
  | .ok t q => (t, ⟨q, 0⟩)
def Rd.list (r : Rd) : List (List UInt8) × Rd :=
  match lst r.text.1 with
  | none => ([], ⟨r.text.2.rest, 11⟩)
  | some l => (l, r.text.2)
def Rd.fin (r : Rd) : Nat := if r.bad = 0 ∧ r.rest ≠ [] then 12 else r.bad
def each {α : Type} (takes : Rd → α × Rd) : List (List UInt8) → Option (List α)
  | [] => some []
  | s :: l => if (takes ⟨s, 0⟩).2.fin ≠ 0 then none else (each takes l).map ((takes ⟨s, 0⟩).1 :: ·)
def all {α : Type} (takes : Rd → α × Rd) (data : List UInt8) : List α × Nat :=
  let (l, r) := Rd.list ⟨data, 0⟩
  if r.fin ≠ 0 then ([], r.fin) else
  match each takes l with
  | none => ([], 11)
  | some a => (a, 0)
end Go.Proofs.YtdidnlkilleljaaGreatDoor.Pk
/- PkText, what a claim needs of it (prune.py). -/
namespace Go.Proofs.YtdidnlkilleljaaGreatDoor
open Go.RowKit
set_option linter.unusedVariables false
set_option maxRecDepth 100000
theorem ret_str {a b : ByteArray} (h : a = b) : Ending.returned (.string a) = .returned (.string b) := by rw [h]
def bs (l : List UInt8) : ByteArray := ⟨l.toArray⟩
theorem bs_of (s : ByteArray) : bs s.data.toList = s := rfl
theorem bs_size (l : List UInt8) : (bs l).size = l.length := by rw [Lib.size_eq]; rfl
theorem bs_append (a b : List UInt8) : bs a ++ bs b = bs (a ++ b) := by
  have : (bs a ++ bs b).data = (bs (a ++ b)).data := by rw [ByteArray.data_append]; simp [bs]
  exact congrArg ByteArray.mk this
def Tab (w : World) : Prop := Lib.TabIs Tryz.prog w "internal/strconv.uint64pow10" .u64 Lib.pow10Tab
theorem Tab.on {w w' : World} (h : Tab w) (hb : Below w.heap.size w w') : Tab w' := Lib.tabBelow_of_tabIs h w' hb
theorem itoa_nat (n : Nat) : Lib.itoa (n : Int) = Lib.decDigits n := by
  unfold Lib.itoa
  rw [if_neg (by omega)]
  rfl
theorem nDigits_le {n : Nat} (h : n < 10 ^ 19) : Lib.nDigits n ≤ 19 := by
  rcases Nat.lt_or_ge 19 (Lib.nDigits n) with h2 | h2
  · exfalso
    have key : ∀ k n, n < 10 ^ (k + 1) → Lib.nDigits n ≤ k + 1 := by
      intro k
      induction k with
      | zero => intro n hn; rw [Lib.nDigits_small (by simpa using hn)]; exact Nat.le_refl _
      | succ k ih =>
        intro n hn
        by_cases h10 : n < 10
        · rw [Lib.nDigits_small h10]; omega
        · rw [Lib.nDigits_big h10]
          have := ih (n / 10) (by rw [Nat.pow_succ] at hn; omega)
          omega
    have := key 18 n h
    omega
  · exact h2
theorem dec_len {n : Nat} (h : n < 10 ^ 19) : (Lib.decDigits n).length ≤ 19 := by rw [Lib.decDigits_length]; exact nDigits_le h
theorem itoa_any (n : Nat) (hn : n ≤ 9223372036854775807) (w : World) (ht : Tab w) :
    Calls Tryz.prog 110 #[.int .i64 n] w fun e w' => e = .returned (.string (bs (Lib.decDigits n))) ∧ Below w.heap.size w w' :=
  (Tryz.strconv_Itoa n (by omega) (by omega) w ht).mono fun e w' ⟨he, k, os, hw⟩ => ⟨by rw [he, itoa_nat]; rfl, by rw [hw]; exact Lib.below_grow _ _ (Nat.le_refl _) _ _⟩
theorem text_eq (s : ByteArray) : bs (Lib.decDigits s.size) ++ ⟨#[58]⟩ ++ s ++ ⟨#[44]⟩ = bs (Pk.text s.data.toList) := by
  have h1 : (⟨#[58]⟩ : ByteArray) = bs [58] := rfl
  have h2 : (⟨#[44]⟩ : ByteArray) = bs [44] := rfl
  rw [h1, h2]
  conv => lhs; rw [← bs_of s]
  rw [bs_append, bs_append, bs_append, Pk.text, bs_of, Lib.size_eq]
  simp
theorem text_any (s : ByteArray) (hs : s.size ≤ 1000000000) (w : World) (ht : Tab w) :
    Calls Tryz.prog 204 #[.string s] w fun e w' => e = .returned (.string (bs (Pk.text s.data.toList))) ∧ Below w.heap.size w w' := by
  have TE := Lib.hid (text_eq s)
  have hd := dec_len (n := s.size) (by omega)
  obtain ⟨D, eD⟩ : ∃ D, D = bs (Lib.decDigits s.size) := ⟨_, rfl⟩
  have hD : D.size ≤ 19 := by rw [eD, bs_size]; exact hd
  have IT : Hid (Calls Tryz.prog 110 #[.int .i64 s.size] w fun e w' => e = .returned (.string D) ∧ Below w.heap.size w w') := Lib.hid (by rw [eD]; exact itoa_any s.size (by omega) w ht)
  rw [← eD] at TE
  clear eD hd
  have c1 : D.size + 1 ≤ 9223372036854775807 := by omega
  have c2 : D.size + 1 + s.size ≤ 9223372036854775807 := by omega
  have c3 : D.size + 1 + s.size + 1 ≤ 9223372036854775807 := by omega
  go_enter Tryz.func204, Tryz.ntmps204
  go_wp2_with (go_at_call 110; ((with_reducible refine (IT.out).mono ?_); rintro e w1 ⟨rfl, hb1⟩))
  go_ret
  exact ⟨ret_str TE.out, hb1⟩
end Go.Proofs.YtdidnlkilleljaaGreatDoor
/- PkList, what a claim needs of it (prune.py). -/
namespace Go.Proofs.YtdidnlkilleljaaGreatDoor
open Go.RowKit
set_option linter.unusedVariables false
set_option maxRecDepth 100000
theorem own_later {w w' : World} {B : Nat} {e : TypeId} {size : Nat} {v : Value} {n : Nat} {xs : List Value} (h : w.ownsRow B e size v n xs) (k : Below w.heap.size w w') : w'.ownsRow B e size v n xs := by
  refine ⟨h.1, ?_⟩
  rcases h.2 with h0 | ⟨g, cap, cur, hv, hg, hc, h1, h2, h3, h4⟩
  · exact .inl h0
  · exact .inr ⟨g, cap, cur, hv, hg, heap_below k (lt_heap hc) hc, h1, h2, h3, h4⟩
theorem SbAt.later {w w' : World} {B b : Nat} {l : List UInt8} (h : SbAt B b l w) (k : Below w.heap.size w w') : SbAt B b l w' := by
  rcases h with ⟨hB, v, hb, ho, hn⟩ | ⟨hB, v, hb, ho, hn⟩
  · exact .inl ⟨hB, v, heap_below k (lt_heap hb) hb, own_later ho k, hn⟩
  · exact .inr ⟨hB, v, heap_below k (lt_heap hb) hb, own_later ho k, hn⟩
section
variable {w w' : World} {B B' size n : Nat} {A : Option Addr} {xs : List Value}
theorem Reads.cell (h : Reads w B size A n xs) {j : Nat} (hj : j < n * size) : ∃ ad u, A = some ad ∧ ad.block < B ∧ xs[j]? = some u ∧ w.cell? (ad.add j) = some u := by
  have hn : 0 < n := by
    rcases Nat.eq_zero_or_pos n with h0 | h0
    · subst h0; simp at hj
    · exact h0
  obtain ⟨ad, e, hb, hc⟩ := h.2 hn
  have hl : j < xs.length := by rw [h.1]; exact hj
  exact ⟨ad, xs[j], e, hb, List.getElem?_eq_getElem hl, hc j _ (List.getElem?_eq_getElem hl)⟩
end
def Strs (w : World) (B : Nat) (A : Option Addr) (l : List ByteArray) : Prop := Reads w B 1 A l.length (l.map Value.string)
section
variable {w w' : World} {B B' : Nat} {A : Option Addr} {l : List ByteArray}
theorem Strs.below (h : Strs w B A l) (hb : Below B w w') : Strs w' B A l := Reads.below h hb
theorem Strs.at_ (h : Strs w B A l) {k : Nat} (hk : k < l.length) : ∃ ad, A = some ad ∧ ad.block < B ∧ w.cell? (ad.add k) = some (.string l[k]) := by
  obtain ⟨ad, u, h1, h2, h3, h4⟩ := Reads.cell h (j := k) (by omega)
  refine ⟨ad, h1, h2, ?_⟩
  rw [h4]
  simp [hk] at h3
  rw [← h3]
end
abbrev tl (s : ByteArray) : List UInt8 := s.data.toList
theorem bstring_any (B b : Nat) (l : List UInt8) (w : World) (h : SbAt B b l w) (hBw : B ≤ w.heap.size) :
    Calls Tryz.prog 111 #[.pointer (some ⟨b, 0, none⟩)] w fun e w' => e = .returned (.string (bs l)) ∧ Below B w w' := Tryz.Builder_String_any B b l w h hBw
end Go.Proofs.YtdidnlkilleljaaGreatDoor
/- KgFn, what a claim needs of it (prune.py). -/
namespace Go.Proofs.YtdidnlkilleljaaGreatDoor
open Go.RowKit
set_option linter.unusedVariables false
set_option maxRecDepth 100000
def fileB (p d : List UInt8) : List UInt8 := Pk.text p ++ Pk.text d
theorem Strs.more {w : World} {B B' : Nat} {A : Option Addr} {l : List ByteArray} (h : Strs w B A l) (hB : B ≤ B') : Strs w B' A l := Reads.more h hB
def targetB (n c : List UInt8) (ds ss : List (List UInt8)) : List UInt8 := ((Pk.text n ++ Pk.text c) ++ Pk.list ds) ++ Pk.list ss
end Go.Proofs.YtdidnlkilleljaaGreatDoor
namespace Go.Proofs.YtdidnlkilleljaaGreatDoor
open Go.RowKit
set_option linter.unusedVariables false
set_option maxRecDepth 100000
def Tg.b (t : Tg) : List UInt8 := targetB (tl t.n) (tl t.c) (t.ds.map tl) (t.ss.map tl)
structure Tg.Ok (t : Tg) : Prop where
  n : t.n.size ≤ 100
  c : t.c.size ≤ 2000
  dl : t.ds.length ≤ 20
  sl : t.ss.length ≤ 40
  d : ∀ x ∈ t.ds, x.size ≤ 100
  s : ∀ x ∈ t.ss, x.size ≤ 100
def TgAt (w : World) (B : Nat) (ad : Addr) (t : Tg) : Prop := ∃ Ad cd As cs, w.cell? ad = some (.string t.n) ∧ w.cell? (ad.add 1) = some (.string t.c) ∧ w.cell? (ad.add 2) = some (.slice Ad t.ds.length cd) ∧ w.cell? (ad.add 3) = some (.slice As t.ss.length cs) ∧ Strs w B Ad t.ds ∧ Strs w B As t.ss
def Tgs (w : World) (B : Nat) (A : Option Addr) (l : List Tg) : Prop := 0 < l.length → ∃ ad, A = some ad ∧ ad.block < B ∧ ∀ k (h : k < l.length), TgAt w B (ad.add (k * 4)) l[k]
theorem TgAt.keep {w w' : World} {B : Nat} {ad : Addr} {t : Tg} (hB : ad.block < B) (h : TgAt w B ad t) (hb : Below B w w') : TgAt w' B ad t := by
  obtain ⟨Ad, cd, As, cs, h0, h1, h2, h3, h4, h5⟩ := h
  have hk : ∀ j, w'.cell? (ad.add j) = w.cell? (ad.add j) := fun j => hb.cell (by rw [block_of_add]; exact hB)
  exact ⟨Ad, cd, As, cs, (hb.cell hB).trans h0, (hk 1).trans h1, (hk 2).trans h2, (hk 3).trans h3, h4.below hb, h5.below hb⟩
theorem Tgs.below {w w' : World} {B : Nat} {A : Option Addr} {l : List Tg} (h : Tgs w B A l) (hb : Below B w w') : Tgs w' B A l := fun hl => by
  obtain ⟨ad, e, h1, h2⟩ := h hl
  exact ⟨ad, e, h1, fun k hk => (h2 k hk).keep (by rw [block_of_add]; exact h1) hb⟩
end Go.Proofs.YtdidnlkilleljaaGreatDoor
/- PkRead, what a claim needs of it (prune.py). -/
namespace Go.Proofs.YtdidnlkilleljaaGreatDoor
open Go.RowKit
set_option linter.unusedVariables false
set_option maxRecDepth 100000
def RdAt (w : World) (b : Nat) (r : Pk.Rd) : Prop := w.heap[b]? = some (.cells #[.string (bs r.rest), .int .i64 r.bad] 201 (0, 0))
end Go.Proofs.YtdidnlkilleljaaGreatDoor
namespace Go.Proofs.YtdidnlkilleljaaGreatDoor
open Go.RowKit
set_option linter.unusedVariables false
set_option maxRecDepth 100000
theorem bs_nil : bs [] = ⟨#[]⟩ := rfl
theorem bs_ne {l : List UInt8} (h : l ≠ []) : (bs l).toList.isEmpty = false := by
  rw [Lib.toList_data]
  cases l with
  | nil => exact absurd rfl h
  | cons a l => rfl
def ListSays (b : Nat) (r : Pk.Rd) (w : World) (e : Ending) (w' : World) : Prop :=
  ∃ v, e = .returned v ∧ w'.ownsRow w.heap.size 9 1 v r.list.1.length (r.list.1.map fun t => Value.string (bs t)) ∧ RdAt w' b r.list.2 ∧ w.grownBy w' (some b)
theorem RdAt.later {w w' : World} {b : Nat} {r : Pk.Rd} (h : RdAt w b r) (k : Below w.heap.size w w') : RdAt w' b r := heap_below k (lt_heap h) h
end Go.Proofs.YtdidnlkilleljaaGreatDoor
/- PkBack, what a claim needs of it (prune.py). -/
namespace Go.Proofs.YtdidnlkilleljaaGreatDoor.Pk
open Go
theorem dig_of {c : UInt8} (h : isDig c = true) : ∃ d, d < 10 ∧ c = UInt8.ofNat (48 + d) ∧ c.toNat = 48 + d := by
  simp only [isDig, Bool.and_eq_true, decide_eq_true_eq] at h
  refine ⟨c.toNat - 48, by omega, ?_, by omega⟩
  apply UInt8.toNat_inj.1
  rw [UInt8.toNat_ofNat_of_lt' (by show 48 + (c.toNat - 48) < 256; omega)]
  omega
end Go.Proofs.YtdidnlkilleljaaGreatDoor.Pk
/- SortCall, what a claim needs of it (prune.py). -/
namespace Go.Proofs.YtdidnlkilleljaaGreatDoor
open Go.RowKit Go.Sort Go.Shelf
set_option linter.unusedVariables false
section
variable {α : Type} [Inhabited α]
theorem holds_gen (enc : α → Value) {w : World} {g : Nat} {cur : Array Value} {e : TypeId} {is : List α} (hb : w.heap[g]? = some (.cells cur e (0, 0))) (ht : cur.toList.take is.length = is.map enc) : Holds enc w g 0 is.toArray := by
  intro j hj
  have hj' : j < is.length := by simpa using hj
  refine ⟨?_, by simp [World.frozen?, hb]⟩
  have h1 : (cur.toList.take is.length)[j]? = (is.map enc)[j]? := by rw [ht]
  rw [List.getElem?_take_of_lt hj'] at h1
  simp only [World.cell?, hb, Nat.zero_add]
  simp only [Option.isSome_none, Bool.false_eq_true, if_false]
  rw [← Array.getElem?_toList, h1]
  simp [hj']
theorem heap_gen (enc : α → Value) {w : World} {g n : Nat} {os : Array Obj} {cur : Array Value} {e : TypeId} {fr : Nat × Nat} (d : Array α) (hb : w.heap[g]? = some (.cells cur e fr)) :
    (grow (putRow enc (Sort.ahead w n) g 0 d) os).heap[g]? = some (.cells (putCells enc 0 d cur) e fr) := by
  have hg : g < w.heap.size := (Array.getElem?_eq_some_iff.1 hb).1
  rw [Go.Sort.heap_grow_old _ _ (by simpa using hg)]
  simp [putRow, mapBlock, Sort.ahead, Array.getElem?_modify, hb, onCells]
theorem grown_gen (enc : α → Value) {w : World} {g n : Nat} {os : Array Obj} (d : Array α) : w.grownBy (grow (putRow enc (Sort.ahead w n) g 0 d) os) (some g) := by
  refine ⟨rfl, rfl, rfl, by simp, fun k hk hne => ?_⟩
  rw [Go.Sort.heap_grow_old _ _ (by simpa using hk)]
  have : g ≠ k := fun e => hne (by rw [e])
  simp [putRow, mapBlock, Sort.ahead, Array.getElem?_modify, this]
theorem take_gen (enc : α → Value) (cur : Array Value) (ts : List α) (h : ts.length ≤ cur.size) : (putCells enc 0 ts.toArray cur).toList.take ts.length = ts.map enc := by
  apply List.ext_getElem?
  intro j
  by_cases hj : j < ts.length
  · rw [List.getElem?_take_of_lt hj, Array.getElem?_toList]
    simp [putCells, hj, show j < cur.size by omega]
  · rw [List.getElem?_take_eq_none (by omega), List.getElem?_eq_none (by simp; omega)]
theorem owns_gen (enc : α → Value) {w : World} {base g cap n : Nat} {e : TypeId} {os : Array Obj} {cur : Array Value} {ts : List α} (hbase : base ≤ g) (hb : w.heap[g]? = some (.cells cur e (0, 0)))
    (h1 : ts.length ≤ cap) (h2 : cap ≤ maxLen) (h3 : cur.size = cap * 1) :
    (grow (putRow enc (Sort.ahead w n) g 0 ts.toArray) os).ownsRow base e 1 (.slice (some ⟨g, 0, none⟩) ts.length cap) ts.length (ts.map enc) :=
  ⟨by simp, .inr ⟨g, cap, _, rfl, hbase, heap_gen enc _ hb, h1, h2, by simp [putCells, h3], by rw [Nat.mul_one]; exact take_gen enc cur ts (by omega)⟩⟩
end
end Go.Proofs.YtdidnlkilleljaaGreatDoor
/- MapV, what a claim needs of it (prune.py). -/
namespace Go.Proofs.YtdidnlkilleljaaGreatDoor.Mv
open Go.RowKit Go.Maps
set_option linter.unusedVariables false
set_option maxRecDepth 100000
theorem kstr : Keyed Tryz.prog 9 := string_keyed Tryz.underlying9
theorem kof {s : ByteArray} (hs : s.size ≤ maxLen) : keyOf Tryz.prog 9 (.string s) = some (.string s.data.toList) := WideMaps.keyOf_string_mk Tryz.underlying9 hs
theorem klit_ne {a b : ByteArray} (h : a ≠ b) : (Lit.string a.data.toList) ≠ .string b.data.toList := by
  intro e
  injection e with e
  apply h
  cases a; cases b
  exact congrArg ByteArray.mk (Array.toList_inj.1 e)
def rv : Value → Option (DataW Value × List MemPlace) := fun v => some (.held v, [])
def VMap (w : World) (m n : Nat) (f : ByteArray → Option Value) : Prop :=
  ∃ D : DataW Value, w.ownsMap Tryz.prog 9 rv m n D ∧ ∀ s : ByteArray, Maps.has D (.string s.data.toList) = (f s).isSome ∧ ∀ z, D.atKey (.string s.data.toList) (.held z) = .held ((f s).getD z)
theorem VMap.keep {w w' : World} {m n : Nat} {f : ByteArray → Option Value} (h : VMap w m n f) (hb : w'.heap[m]? = w.heap[m]?) : VMap w' m n f := by
  obtain ⟨D, ⟨es, cl, h1, h2, h3, h4⟩, hs⟩ := h
  exact ⟨D, ⟨es, cl, hb.trans h1, h2, h3, h4⟩, hs⟩
theorem VMap.lt {w : World} {m n : Nat} {f : ByteArray → Option Value} (h : VMap w m n f) : m < w.heap.size := by
  obtain ⟨D, h1, _⟩ := h
  exact h1.lt
theorem VMap.later {w w' : World} {m n : Nat} {f : ByteArray → Option Value} (h : VMap w m n f) (hb : Below w.heap.size w w') : VMap w' m n f := h.keep (hb.block m h.lt)
theorem VMap.more {w : World} {m n n' : Nat} {f : ByteArray → Option Value} (h : VMap w m n f) (hn : n ≤ n') : VMap w m n' f := by
  obtain ⟨D, h1, h2⟩ := h
  exact ⟨D, h1.mono hn, h2⟩
theorem VMap.made (w : World) : VMap (w.alloc (.map #[] 0)) w.heap.size 0 (fun _ => none) := ⟨.map [], World.ownsMap_made _ _ _ _, fun s => ⟨rfl, fun _ => rfl⟩⟩
theorem VMap.nocell {w : World} {m n : Nat} {f : ByteArray → Option Value} (h : VMap w m n f) {ad : Addr} {v : Value} (hc : w.cell? ad = some v) : ad.block ≠ m := by
  rintro rfl
  obtain ⟨D, ⟨es, cl, h1, _⟩, _⟩ := h
  unfold World.cell? at hc
  rw [h1] at hc
  simp at hc
theorem rv_inv {v : Value} {x : Value} {ps : List MemPlace} (h : rv v = some (.held x, ps)) : v = x := by
  unfold rv at h
  simp only [Option.some.injEq, Prod.mk.injEq, DataW.held.injEq] at h
  exact h.1
theorem VMap.look {w : World} {m n : Nat} {f : ByteArray → Option Value} (h : VMap w m n f) {t e : TypeId} (ht : Tryz.prog.underlying t = some (.map 9 e)) {z : Value} (hz : (zeroValue e).run Tryz.prog w = .ok z w) {s : ByteArray} (hs : s.size ≤ maxLen) :
    (Instr.lookup t (.map (some m)) (.string s) true).run Tryz.prog w = .ok (.tuple #[(f s).getD z, .bool (f s).isSome]) w := by
  obtain ⟨D, h1, h2⟩ := h
  obtain ⟨v, ps, hrun, hv⟩ := h1.look_ok kstr ht hz (zd := .held z) (zp := []) rfl (kof hs)
  rw [(h2 s).2] at hv
  rw [hrun, rv_inv hv, (h2 s).1]
theorem VMap.look1 {w : World} {m n : Nat} {f : ByteArray → Option Value} (h : VMap w m n f) {t e : TypeId} (ht : Tryz.prog.underlying t = some (.map 9 e)) {z : Value} (hz : (zeroValue e).run Tryz.prog w = .ok z w) {s : ByteArray} (hs : s.size ≤ maxLen) :
    (Instr.lookup t (.map (some m)) (.string s) false).run Tryz.prog w = .ok ((f s).getD z) w := by
  obtain ⟨D, h1, h2⟩ := h
  obtain ⟨v, ps, hrun, hv⟩ := h1.lookup kstr ht hz (zd := .held z) (zp := []) rfl (kof hs)
  rw [(h2 s).2] at hv
  rw [hrun, rv_inv hv]
def putM (f : ByteArray → Option Value) (k : ByteArray) (v : Value) : ByteArray → Option Value := fun s => if s = k then some v else f s
theorem VMap.put {w : World} {m n : Nat} {f : ByteArray → Option Value} (h : VMap w m n f) {t e : TypeId} (ht : Tryz.prog.underlying t = some (.map 9 e)) (hn : n < maxLen) {s : ByteArray} (hs : s.size ≤ maxLen) (v : Value) :
    ∃ w', (Instr.mapUpdate t (.map (some m)) (.string s) v).run Tryz.prog w = .ok () w' ∧ VMap w' m (n + 1) (putM f s v) ∧ w.grownBy w' (some m) := by
  obtain ⟨D, h1, h2⟩ := h
  obtain ⟨w', hrun, ho, hg⟩ := h1.update (val := v) (d := .held v) (ps := []) kstr ht hn (kof hs) rfl
  refine ⟨w', hrun, ⟨_, ho, fun x => ?_⟩, hg⟩
  unfold putM
  by_cases e : x = s
  · subst e
    rw [if_pos rfl]
    exact ⟨has_put_same h1.isMap (show WideAt.IsKeyLit (.string x.data.toList) from trivial) _, fun z => atKey_put_same h1.isMap (show WideAt.IsKeyLit (.string x.data.toList) from trivial) _ _⟩
  · rw [if_neg e]
    exact ⟨(has_put_other (klit_ne e) _).trans (h2 x).1, fun z => (atKey_put_other (klit_ne e) _ _).trans ((h2 x).2 z)⟩
end Go.Proofs.YtdidnlkilleljaaGreatDoor.Mv
