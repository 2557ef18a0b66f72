/- Joined by mkmerged.py: PkSpec, PkText, PkList, KgFn, MapV, PkBack. -/
import Derived.Lib.ItoaNum
import Derived.Test.YtmlaolmaopjhbaaGreatDoorMi01
import Derived.Test.YtmlaolmaopjhbaaGreatDoorMiKt
import Derived.Lib.AppendIntMem
import Derived.Deep.RegionWith
import Derived.Test.YtmlaolmaopjhbaaGreatDoorMi02
import Derived.Laws.OwnMore
import Derived.Deep.AppendLies
import Derived.Deep.Draws
import Derived.Test.YtmlaolmaopjhbaaGreatDoorMiKm
import Derived.Test.YtmlaolmaopjhbaaGreatDoorProg
import Derived.WalkKit
import Derived.Maps.OwnSet
import Derived.Maps.OwnOps
import Derived.Maps.Views
/- PkSpec, what a claim needs of it (prune.py). -/
namespace Go.Proofs.YtmlaolmaopjhbaaGreatDoor.Pk
open Go
def text (s : List UInt8) : List UInt8 := Lib.decDigits s.length ++ 58 :: (s ++ [44])
def list (l : List (List UInt8)) : List UInt8 := text (l.flatMap text)
def isDig (c : UInt8) : Bool := decide (48 ≤ c.toNat) && decide (c.toNat ≤ 57)
def kd (s : List UInt8) : Nat := ((s.take 7).takeWhile isDig).length
def dval (l : List UInt8) : Nat := l.foldl (fun n c => 10 * n + (c.toNat - 48)) 0
inductive Nx where
  | bad (e : Nat)
  | ok (t r : List UInt8)
def len (s : List UInt8) : Nat ⊕ (Nat × List UInt8) :=
  let k := kd s
  if k = s.length then .inl 10
  else if s.getD k 0 ≠ 58 ∨ k = 0 ∨ (1 < k ∧ s.getD 0 0 = 48) then .inl 11
  else .inr (dval (s.take k), s.drop (k + 1))
def nxt (s : List UInt8) : Nx :=
  match len s with
  | .inl e => .bad e
  | .inr (n, r) => if r.length ≤ n then .bad 10 else if r.getD n 0 ≠ 44 then .bad 11 else .ok (r.take n) (r.drop (n + 1))
theorem nxt_lt {s t r : List UInt8} (h : nxt s = .ok t r) : r.length < s.length := by
  unfold nxt len at h
  simp only at h
  split at h
  · cases h
  · rename_i n r' h'
    split at h'
    · cases h'
    · split at h'
      · cases h'
      · injection h' with h'
        injection h' with h1 h2
        split at h
        · cases h
        · split at h
          · cases h
          · injection h with h3 h4
            subst h4 h2
            rename_i hk _ _ _
            have : kd s ≤ s.length := by
              have := (List.takeWhile_prefix (p := isDig) (l := s.take 7)).length_le
              unfold kd
              simp at this ⊢
              omega
            simp
            omega
def lst (s : List UInt8) : Option (List (List UInt8)) :=
  if s = [] then some [] else
  match _h : nxt s with
  | .bad _ => none
  | .ok t r => (lst r).map (t :: ·)
termination_by s.length
decreasing_by exact nxt_lt _h
structure Rd where
  rest : List UInt8
  bad : Nat
def Rd.text (r : Rd) : List UInt8 × Rd :=
  if r.bad ≠ 0 then ([], r) else
  match nxt r.rest with
  | .bad e => ([], ⟨r.rest, e⟩)
  | .ok t q => (t, ⟨q, 0⟩)
def Rd.list (r : Rd) : List (List UInt8) × Rd :=
  match lst r.text.1 with
  | none => ([], ⟨r.text.2.rest, 11⟩)
  | some l => (l, r.text.2)
def Rd.fin (r : Rd) : Nat := if r.bad = 0 ∧ r.rest ≠ [] then 12 else r.bad
def each {α : Type} (takes : Rd → α × Rd) : List (List UInt8) → Option (List α)
  | [] => some []
  | s :: l => if (takes ⟨s, 0⟩).2.fin ≠ 0 then none else (each takes l).map ((takes ⟨s, 0⟩).1 :: ·)
def all {α : Type} (takes : Rd → α × Rd) (data : List UInt8) : List α × Nat :=
  let (l, r) := Rd.list ⟨data, 0⟩
  if r.fin ≠ 0 then ([], r.fin) else
  match each takes l with
  | none => ([], 11)
  | some a => (a, 0)
theorem text_nil : text [] = [48, 58, 44] := by unfold text; rw [Lib.decDigits]; rfl
theorem list_nil : list [] = [48, 58, 44] := by unfold list; exact text_nil
end Go.Proofs.YtmlaolmaopjhbaaGreatDoor.Pk
/- PkText, what a claim needs of it (prune.py). -/
namespace Go.Proofs.YtmlaolmaopjhbaaGreatDoor
open Go.RowKit
set_option linter.unusedVariables false
set_option maxRecDepth 100000
theorem ret_str {a b : ByteArray} (h : a = b) : Ending.returned (.string a) = .returned (.string b) := by rw [h]
def bs (l : List UInt8) : ByteArray := ⟨l.toArray⟩
theorem bs_of (s : ByteArray) : bs s.data.toList = s := rfl
theorem bs_size (l : List UInt8) : (bs l).size = l.length := by rw [Lib.size_eq]; rfl
theorem bs_append (a b : List UInt8) : bs a ++ bs b = bs (a ++ b) := by
  have : (bs a ++ bs b).data = (bs (a ++ b)).data := by rw [ByteArray.data_append]; simp [bs]
  exact congrArg ByteArray.mk this
def Tab (w : World) : Prop := Lib.TabIs Tryz.prog w "internal/strconv.uint64pow10" .u64 Lib.pow10Tab
theorem Tab.on {w w' : World} (h : Tab w) (hb : Below w.heap.size w w') : Tab w' := Lib.tabBelow_of_tabIs h w' hb
theorem itoa_nat (n : Nat) : Lib.itoa (n : Int) = Lib.decDigits n := by
  unfold Lib.itoa
  rw [if_neg (by omega)]
  rfl
theorem nDigits_le {n : Nat} (h : n < 10 ^ 19) : Lib.nDigits n ≤ 19 := by
  rcases Nat.lt_or_ge 19 (Lib.nDigits n) with h2 | h2
  · exfalso
    have key : ∀ k n, n < 10 ^ (k + 1) → Lib.nDigits n ≤ k + 1 := by
      intro k
      induction k with
      | zero => intro n hn; rw [Lib.nDigits_small (by simpa using hn)]; exact Nat.le_refl _
      | succ k ih =>
        intro n hn
        by_cases h10 : n < 10
        · rw [Lib.nDigits_small h10]; omega
        · rw [Lib.nDigits_big h10]
          have := ih (n / 10) (by rw [Nat.pow_succ] at hn; omega)
          omega
    have := key 18 n h
    omega
  · exact h2
theorem dec_len {n : Nat} (h : n < 10 ^ 19) : (Lib.decDigits n).length ≤ 19 := by rw [Lib.decDigits_length]; exact nDigits_le h
theorem itoa_any (n : Nat) (hn : n ≤ 9223372036854775807) (w : World) (ht : Tab w) :
    Calls Tryz.prog 153 #[.int .i64 n] w fun e w' => e = .returned (.string (bs (Lib.decDigits n))) ∧ Below w.heap.size w w' :=
  (Tryz.strconv_Itoa n (by omega) (by omega) w ht).mono fun e w' ⟨he, k, os, hw⟩ => ⟨by rw [he, itoa_nat]; rfl, by rw [hw]; exact Lib.below_grow _ _ (Nat.le_refl _) _ _⟩
theorem text_eq (s : ByteArray) : bs (Lib.decDigits s.size) ++ ⟨#[58]⟩ ++ s ++ ⟨#[44]⟩ = bs (Pk.text s.data.toList) := by
  have h1 : (⟨#[58]⟩ : ByteArray) = bs [58] := rfl
  have h2 : (⟨#[44]⟩ : ByteArray) = bs [44] := rfl
  rw [h1, h2]
  conv => lhs; rw [← bs_of s]
  rw [bs_append, bs_append, bs_append, Pk.text, bs_of, Lib.size_eq]
  simp
theorem text_any (s : ByteArray) (hs : s.size ≤ 1000000000) (w : World) (ht : Tab w) :
    Calls Tryz.prog 87 #[.string s] w fun e w' => e = .returned (.string (bs (Pk.text s.data.toList))) ∧ Below w.heap.size w w' := by
  have TE := Lib.hid (text_eq s)
  have hd := dec_len (n := s.size) (by omega)
  obtain ⟨D, eD⟩ : ∃ D, D = bs (Lib.decDigits s.size) := ⟨_, rfl⟩
  have hD : D.size ≤ 19 := by rw [eD, bs_size]; exact hd
  have IT : Hid (Calls Tryz.prog 153 #[.int .i64 s.size] w fun e w' => e = .returned (.string D) ∧ Below w.heap.size w w') := Lib.hid (by rw [eD]; exact itoa_any s.size (by omega) w ht)
  rw [← eD] at TE
  clear eD hd
  have c1 : D.size + 1 ≤ 9223372036854775807 := by omega
  have c2 : D.size + 1 + s.size ≤ 9223372036854775807 := by omega
  have c3 : D.size + 1 + s.size + 1 ≤ 9223372036854775807 := by omega
  go_enter Tryz.func87, Tryz.ntmps87
  go_wp2_with (go_at_call 153; ((with_reducible refine (IT.out).mono ?_); rintro e w1 ⟨rfl, hb1⟩))
  go_ret
  exact ⟨ret_str TE.out, hb1⟩
end Go.Proofs.YtmlaolmaopjhbaaGreatDoor
/- PkList, what a claim needs of it (prune.py). -/
namespace Go.Proofs.YtmlaolmaopjhbaaGreatDoor
open Go.RowKit
set_option linter.unusedVariables false
set_option maxRecDepth 100000
theorem own_later {w w' : World} {B : Nat} {e : TypeId} {size : Nat} {v : Value} {n : Nat} {xs : List Value} (h : w.ownsRow B e size v n xs) (k : Below w.heap.size w w') : w'.ownsRow B e size v n xs := by
  refine ⟨h.1, ?_⟩
  rcases h.2 with h0 | ⟨g, cap, cur, hv, hg, hc, h1, h2, h3, h4⟩
  · exact .inl h0
  · exact .inr ⟨g, cap, cur, hv, hg, heap_below k (lt_heap hc) hc, h1, h2, h3, h4⟩
theorem SbAt.later {w w' : World} {B b : Nat} {l : List UInt8} (h : SbAt B b l w) (k : Below w.heap.size w w') : SbAt B b l w' := by
  rcases h with ⟨hB, v, hb, ho, hn⟩ | ⟨hB, v, hb, ho, hn⟩
  · exact .inl ⟨hB, v, heap_below k (lt_heap hb) hb, own_later ho k, hn⟩
  · exact .inr ⟨hB, v, heap_below k (lt_heap hb) hb, own_later ho k, hn⟩
section
variable {w w' : World} {B B' size n : Nat} {A : Option Addr} {xs : List Value}
theorem Reads.cell (h : Reads w B size A n xs) {j : Nat} (hj : j < n * size) : ∃ ad u, A = some ad ∧ ad.block < B ∧ xs[j]? = some u ∧ w.cell? (ad.add j) = some u := by
  have hn : 0 < n := by
    rcases Nat.eq_zero_or_pos n with h0 | h0
    · subst h0; simp at hj
    · exact h0
  obtain ⟨ad, e, hb, hc⟩ := h.2 hn
  have hl : j < xs.length := by rw [h.1]; exact hj
  exact ⟨ad, xs[j], e, hb, List.getElem?_eq_getElem hl, hc j _ (List.getElem?_eq_getElem hl)⟩
end
def Strs (w : World) (B : Nat) (A : Option Addr) (l : List ByteArray) : Prop := Reads w B 1 A l.length (l.map Value.string)
section
variable {w w' : World} {B B' : Nat} {A : Option Addr} {l : List ByteArray}
theorem Strs.below (h : Strs w B A l) (hb : Below B w w') : Strs w' B A l := Reads.below h hb
theorem Strs.at_ (h : Strs w B A l) {k : Nat} (hk : k < l.length) : ∃ ad, A = some ad ∧ ad.block < B ∧ w.cell? (ad.add k) = some (.string l[k]) := by
  obtain ⟨ad, u, h1, h2, h3, h4⟩ := Reads.cell h (j := k) (by omega)
  refine ⟨ad, h1, h2, ?_⟩
  rw [h4]
  simp [hk] at h3
  rw [← h3]
end
abbrev tl (s : ByteArray) : List UInt8 := s.data.toList
theorem text_len (s : List UInt8) : s.length ≤ (Pk.text s).length := by simp [Pk.text]; omega
theorem flat_take_succ (l : List ByteArray) (k : Nat) (h : k < l.length) : ((l.take (k + 1)).map tl).flatMap Pk.text = ((l.take k).map tl).flatMap Pk.text ++ Pk.text (tl l[k]) := by
  rw [List.take_succ_eq_append_getElem h, List.map_append, List.flatMap_append]; simp
theorem flat_take_le (l : List ByteArray) (k : Nat) (h : k < l.length) : (((l.take k).map tl).flatMap Pk.text).length + (Pk.text (tl l[k])).length ≤ ((l.map tl).flatMap Pk.text).length := by
  have : l = l.take (k + 1) ++ l.drop (k + 1) := (List.take_append_drop _ _).symm
  conv => rhs; rw [this, List.map_append, List.flatMap_append, List.length_append, flat_take_succ l k h, List.length_append]
  omega
theorem bstring_any (B b : Nat) (l : List UInt8) (w : World) (h : SbAt B b l w) (hBw : B ≤ w.heap.size) :
    Calls Tryz.prog 96 #[.pointer (some ⟨b, 0, none⟩)] w fun e w' => e = .returned (.string (bs l)) ∧ Below B w w' := Tryz.Builder_String_any B b l w h hBw
set_option maxHeartbeats 1000000 in
theorem plist_any (A : Option Addr) (l : List ByteArray) (c : Nat) (w : World) (ht : Tab w) (hr : Strs w w.heap.size A l) (hl : ((l.map tl).flatMap Pk.text).length ≤ 500000000) :
    Calls Tryz.prog 97 #[.slice A l.length c] w fun e w' => e = .returned (.string (bs (Pk.list (l.map tl)))) ∧ Below w.heap.size w w' := by
  have hn : l.length ≤ 500000000 := by
    have : ∀ l : List ByteArray, l.length ≤ ((l.map tl).flatMap Pk.text).length := by
      intro l
      induction l with
      | nil => simp
      | cons x l ih => simp [Pk.text] at ih ⊢; omega
    exact Nat.le_trans (this l) hl
  go_enter Tryz.func97, Tryz.ntmps97
  go_wp2_with (fail)
  go_loopw [8] (fun i wx => ∃ k : Nat, i = .int .i64 k ∧ k ≤ l.length ∧ SbAt w.heap.size w.heap.size (((l.take k).map tl).flatMap Pk.text) wx ∧ Below w.heap.size w wx) (fun i _ => l.length - (intOf i).toNat)
  case atStart => exact ⟨0, rfl, by omega, Lib.fresh_isBuilder _ _ w, (Below.refl _ _).alloc (Nat.le_refl _) _⟩
  case round =>
    obtain ⟨k, rfl, hk, hsb, hbx⟩ := hrel
    rename World => wx
    by_cases hlt : k < l.length
    · have hrx := hr.below hbx
      obtain ⟨ad, rfl, had, hc⟩ := hrx.at_ hlt
      have FT := Lib.hid (flat_take_succ l k hlt)
      have FL := flat_take_le l k hlt
      have TX := text_len (tl l[k])
      have hsz : l[k].size = (tl l[k]).length := Lib.size_eq _
      have TXT := Lib.hid (text_any l[k] (by omega) wx (ht.on hbx))
      generalize l[k] = s at *
      generalize ((l.take k).map tl).flatMap Pk.text = acc at *
      have hz : (bs (Pk.text (tl s))).size = (Pk.text (tl s)).length := bs_size _
      have hbl : acc.length + (bs (Pk.text (tl s))).size ≤ 140737488355328 := by omega
      have HZ := Lib.hid hz
      have HSZ := Lib.hid hsz
      clear hz hsz
      have hkI : (k : Int) < (l.length : Int) := by omega
      go_wp2_with (go_at_call 87; ((with_reducible refine (TXT.out).mono ?_); rintro e w1 ⟨rfl, hb1⟩))
      have hsb1 := hsb.later hb1
      have hbx1 := hbx.trans (hb1.mono hbx.size)
      clear hsb
      go_wp2_with (go_at_call 100; ((with_reducible refine (WriteString_any w.heap.size w.heap.size acc _ _ hsb1 hbl hbx1.size).mono ?_); rintro e w2 ⟨rfl, hsb2, hb2⟩))
      go_roundw
      case rel => exact ⟨k + 1, by go_num, by omega, by rw [FT.out]; exact hsb2, hbx1.trans hb2⟩
      case measure => simp [intOf]; omega
    · obtain rfl : k = l.length := by omega
      rw [List.take_length] at hsb
      have LD : Hid (Pk.text ((l.map tl).flatMap Pk.text) = Pk.list (l.map tl)) := Lib.hid rfl
      generalize (l.map tl).flatMap Pk.text = acc at *
      have hz : (bs acc).size = acc.length := bs_size _
      have TXT : Hid (∀ W, Tab W → Calls Tryz.prog 87 #[.string (bs acc)] W fun e w' => e = .returned (.string (bs (Pk.text acc))) ∧ Below W.heap.size W w') := Lib.hid (fun W hW => text_any (bs acc) (by omega) W hW)
      clear hz
      have hB := hbx.size
      go_wp2_with (go_at_call 96; ((with_reducible refine (bstring_any w.heap.size w.heap.size acc _ hsb hB).mono ?_); rintro e w1 ⟨rfl, hb1⟩))
      have hbx1 := hbx.trans hb1
      have ht1 := ht.on hbx1
      go_wp2_with (go_at_call 87; ((with_reducible refine (TXT.out _ ht1).mono ?_); rintro e w2 ⟨rfl, hb2⟩))
      go_ret
      exact ⟨ret_str (by rw [LD.out]), hbx1.trans (hb2.mono hbx1.size)⟩
end Go.Proofs.YtmlaolmaopjhbaaGreatDoor
/- KgFn, what a claim needs of it (prune.py). -/
namespace Go.Proofs.YtmlaolmaopjhbaaGreatDoor
open Go.RowKit
set_option linter.unusedVariables false
set_option maxRecDepth 100000
def fileB (p d : List UInt8) : List UInt8 := Pk.text p ++ Pk.text d
theorem textlen_le (s : ByteArray) (h : s.size ≤ 1000000000) : (bs (Pk.text (tl s))).size ≤ s.size + 21 := by
  rw [bs_size]
  have h2 : (tl s).length = s.size := (Lib.size_eq s).symm
  have h1 := dec_len (n := (tl s).length) (by omega)
  simp only [Pk.text, List.length_append, List.length_cons, List.length_nil]
  omega
theorem listlen_le (l : List ByteArray) (h : ((l.map tl).flatMap Pk.text).length ≤ 500000000) : (bs (Pk.list (l.map tl))).size ≤ ((l.map tl).flatMap Pk.text).length + 21 := by
  have := textlen_le (bs ((l.map tl).flatMap Pk.text)) (by rw [bs_size]; omega)
  rw [bs_size (((l.map tl).flatMap Pk.text))] at this
  exact this
theorem Strs.more {w : World} {B B' : Nat} {A : Option Addr} {l : List ByteArray} (h : Strs w B A l) (hB : B ≤ B') : Strs w B' A l := Reads.more h hB
def targetB (n c : List UInt8) (ds ss : List (List UInt8)) : List UInt8 := ((Pk.text n ++ Pk.text c) ++ Pk.list ds) ++ Pk.list ss
theorem targetB_eq (n c : List UInt8) (ds ss : List (List UInt8)) : bs (Pk.text n) ++ bs (Pk.text c) ++ bs (Pk.list ds) ++ bs (Pk.list ss) = bs (targetB n c ds ss) := by
  rw [bs_append, bs_append, bs_append]; rfl
end Go.Proofs.YtmlaolmaopjhbaaGreatDoor
namespace Go.Proofs.YtmlaolmaopjhbaaGreatDoor
open Go.RowKit
set_option linter.unusedVariables false
set_option maxRecDepth 100000
theorem append_one {P : Program} {ops : Array Oper} {rest : List Oper} {o : Oper} {a : Act} {Q : Exit → Act → World → Prop} {wr w0 : World} (hgd : o.guard = none) (s x : Operand) (t : TypeId)
    (ho : o.op = .call { callee := .builtin .append, args := #[s, x], argTypes := #[t, t] }) (B : Nat) (e : TypeId) (z : Value) (by_ : Nat) (ht : P.underlying t = some (.slice e))
    (hi : (P.info? e).map (fun i => (i.zero, i.size, i.bytes)) = some (some z, 1, by_)) (hz : z.cells.size = 1) (hby : by_ ≤ 1000)
    (v : Value) (n : Nat) (xs : List Value) (hs : a.eval s = v) (hown : wr.ownsRow B e 1 v n xs)
    (u : Value) (hu : u.oneCell' = true) (hx : a.eval x = .slice (some ⟨wr.heap.size, 0, none⟩) 1 1) (hn : n + 1 ≤ 1000000000)
    (hB : B ≤ wr.heap.size) (hb : Below B w0 wr)
    (h : ∀ v' w', w'.ownsRow B e 1 v' (n + 1) (xs ++ [u]) → Below B w0 w' → (∀ k, k < wr.heap.size → some k ≠ v.ownBlock → w'.heap[k]? = wr.heap[k]?) → wpList P ops Q rest (a.put o.dst v') w') :
    wpList P ops Q (o :: rest) a (wr.alloc (.cells #[u] e)) := by
  obtain ⟨i0, hi0, hz0, hz1, hz2⟩ := info_parts hi
  have hmul : (n + 1) * by_ ≤ 1000000000 * 1000 := Nat.mul_le_mul hn hby
  refine wpList_append_own _ hgd s x t ho B e i0 z 1 by_ ht hi0 hz0 hz1 hz2 hz (by decide) v n xs hs (hown.alloc _) ⟨wr.heap.size, 0, none⟩ 1 1 [u] hx rfl ?_ ?_ ?_ (by omega) (by simp; omega) ?_
  · intro j y hy
    rw [Addr.add_mid, Nat.zero_add, cell_heap (heap_alloc_new wr _)]
    simpa using hy
  · intro y hy; simp at hy; subst hy; exact hu
  · unfold maxLen; omega
  · intro v' w' h1 h2 _
    refine h v' w' h1 ?_ ?_
    · exact (hb.alloc hB _).grown h2 (by simp; omega) (fun k hk => (hown.lt k hk).1)
    · intro k hk hne
      rw [h2.block k (by simp; omega) hne, Below.heap_alloc _ _ _ hk]
def Tg.b (t : Tg) : List UInt8 := targetB (tl t.n) (tl t.c) (t.ds.map tl) (t.ss.map tl)
structure Tg.Ok (t : Tg) : Prop where
  n : t.n.size ≤ 100
  c : t.c.size ≤ 2000
  dl : t.ds.length ≤ 20
  sl : t.ss.length ≤ 40
  d : ∀ x ∈ t.ds, x.size ≤ 100
  s : ∀ x ∈ t.ss, x.size ≤ 100
theorem flat_le (l : List ByteArray) (m : Nat) (hm : m ≤ 1000000) (h : ∀ x ∈ l, x.size ≤ m) : ((l.map tl).flatMap Pk.text).length ≤ l.length * (m + 21) := by
  induction l with
  | nil => simp
  | cons x l ih =>
    have h1 := h x (List.mem_cons_self ..)
    have h2 := ih (fun y hy => h y (List.mem_cons_of_mem _ hy))
    have h3 := textlen_le x (by omega)
    rw [bs_size] at h3
    simp only [List.map_cons, List.flatMap_cons, List.length_append, List.length_cons]
    have : (l.length + 1) * (m + 21) = l.length * (m + 21) + (m + 21) := Nat.succ_mul _ _
    omega
theorem Tg.Ok.ds_le {t : Tg} (h : t.Ok) : ((t.ds.map tl).flatMap Pk.text).length ≤ 2420 := by
  have h1 := flat_le t.ds 100 (by omega) h.d
  have h2 : t.ds.length * (100 + 21) ≤ 20 * (100 + 21) := Nat.mul_le_mul_right _ h.dl
  omega
theorem Tg.Ok.ss_le {t : Tg} (h : t.Ok) : ((t.ss.map tl).flatMap Pk.text).length ≤ 4840 := by
  have h1 := flat_le t.ss 100 (by omega) h.s
  have h2 : t.ss.length * (100 + 21) ≤ 40 * (100 + 21) := Nat.mul_le_mul_right _ h.sl
  omega
theorem Tg.Ok.b_le {t : Tg} (h : t.Ok) : (bs t.b).size ≤ 10000 := by
  rw [bs_size]
  have h1 := textlen_le t.n (by have := h.n; omega)
  have h2 := textlen_le t.c (by have := h.c; omega)
  have h3 := listlen_le t.ds (by have := h.ds_le; omega)
  have h4 := listlen_le t.ss (by have := h.ss_le; omega)
  rw [bs_size] at h1 h2 h3 h4
  have := h.n; have := h.c; have := h.ds_le; have := h.ss_le
  simp only [Tg.b, targetB, List.length_append]
  omega
def TgAt (w : World) (B : Nat) (ad : Addr) (t : Tg) : Prop := ∃ Ad cd As cs, w.cell? ad = some (.string t.n) ∧ w.cell? (ad.add 1) = some (.string t.c) ∧ w.cell? (ad.add 2) = some (.slice Ad t.ds.length cd) ∧ w.cell? (ad.add 3) = some (.slice As t.ss.length cs) ∧ Strs w B Ad t.ds ∧ Strs w B As t.ss
def Tgs (w : World) (B : Nat) (A : Option Addr) (l : List Tg) : Prop := 0 < l.length → ∃ ad, A = some ad ∧ ad.block < B ∧ ∀ k (h : k < l.length), TgAt w B (ad.add (k * 4)) l[k]
theorem TgAt.keep {w w' : World} {B : Nat} {ad : Addr} {t : Tg} (hB : ad.block < B) (h : TgAt w B ad t) (hb : Below B w w') : TgAt w' B ad t := by
  obtain ⟨Ad, cd, As, cs, h0, h1, h2, h3, h4, h5⟩ := h
  have hk : ∀ j, w'.cell? (ad.add j) = w.cell? (ad.add j) := fun j => hb.cell (by rw [block_of_add]; exact hB)
  exact ⟨Ad, cd, As, cs, (hb.cell hB).trans h0, (hk 1).trans h1, (hk 2).trans h2, (hk 3).trans h3, h4.below hb, h5.below hb⟩
theorem Tgs.below {w w' : World} {B : Nat} {A : Option Addr} {l : List Tg} (h : Tgs w B A l) (hb : Below B w w') : Tgs w' B A l := fun hl => by
  obtain ⟨ad, e, h1, h2⟩ := h hl
  exact ⟨ad, e, h1, fun k hk => (h2 k hk).keep (by rw [block_of_add]; exact h1) hb⟩
theorem str_info : (Tryz.prog.info? 9).map (fun i => (i.zero, i.size, i.bytes)) = some (some (.string .empty), 1, 16) := by kernel_rfl
theorem flat_mem {l : List (List UInt8)} {t : List UInt8} (h : t ∈ l) : t.length < (l.flatMap Pk.text).length := by
  induction l with
  | nil => cases h
  | cons a l ih =>
    rw [List.flatMap_cons, List.length_append]
    rcases List.mem_cons.1 h with rfl | h
    · simp [Pk.text]; omega
    · have := ih h; omega
theorem flat_count (l : List (List UInt8)) : l.length ≤ (l.flatMap Pk.text).length := by
  induction l with
  | nil => simp
  | cons a l ih =>
    have h1 := text_len a
    have h2 : 1 ≤ (Pk.text a).length := by simp [Pk.text]; omega
    rw [List.flatMap_cons, List.length_append, List.length_cons]
    omega
theorem Tg.parts (t : Tg) : t.n.size ≤ t.b.length ∧ t.c.size ≤ t.b.length ∧ ((t.ds.map tl).flatMap Pk.text).length ≤ t.b.length ∧ ((t.ss.map tl).flatMap Pk.text).length ≤ t.b.length := by
  have h1 := text_len (tl t.n)
  have h2 := text_len (tl t.c)
  have h3 := text_len ((t.ds.map tl).flatMap Pk.text)
  have h4 := text_len ((t.ss.map tl).flatMap Pk.text)
  have e1 : t.n.size = (tl t.n).length := Lib.size_eq _
  have e2 : t.c.size = (tl t.c).length := Lib.size_eq _
  simp only [Tg.b, targetB, Pk.list, List.length_append]
  omega
theorem Tg.flat_ok {l : List Tg} (hl : l.length ≤ 20) (hok : ∀ t ∈ l, t.Ok) : ((l.map Tg.b).flatMap Pk.text).length ≤ 200420 := by
  have h1 := flat_le (l.map fun t => bs t.b) 10000 (by omega) (fun x hx => by
    obtain ⟨t, h1, rfl⟩ := List.mem_map.1 hx
    exact (hok t h1).b_le)
  have h2 : (l.map fun t => bs t.b).length * (10000 + 21) ≤ 20 * (10000 + 21) := Nat.mul_le_mul_right _ (by simpa using hl)
  rw [show ((l.map fun t => bs t.b).map tl) = l.map Tg.b by rw [List.map_map]; rfl] at h1
  omega
end Go.Proofs.YtmlaolmaopjhbaaGreatDoor
/- MapV, what a claim needs of it (prune.py). -/
namespace Go.Proofs.YtmlaolmaopjhbaaGreatDoor.Mv
open Go.RowKit Go.Maps
set_option linter.unusedVariables false
set_option maxRecDepth 100000
theorem kstr : Keyed Tryz.prog 9 := string_keyed Tryz.underlying9
theorem kof {s : ByteArray} (hs : s.size ≤ maxLen) : keyOf Tryz.prog 9 (.string s) = some (.string s.data.toList) := WideMaps.keyOf_string_mk Tryz.underlying9 hs
theorem klit_ne {a b : ByteArray} (h : a ≠ b) : (Lit.string a.data.toList) ≠ .string b.data.toList := by
  intro e
  injection e with e
  apply h
  cases a; cases b
  exact congrArg ByteArray.mk (Array.toList_inj.1 e)
def rv : Value → Option (DataW Value × List MemPlace) := fun v => some (.held v, [])
def VMap (w : World) (m n : Nat) (f : ByteArray → Option Value) : Prop :=
  ∃ D : DataW Value, w.ownsMap Tryz.prog 9 rv m n D ∧ ∀ s : ByteArray, Maps.has D (.string s.data.toList) = (f s).isSome ∧ ∀ z, D.atKey (.string s.data.toList) (.held z) = .held ((f s).getD z)
theorem VMap.keep {w w' : World} {m n : Nat} {f : ByteArray → Option Value} (h : VMap w m n f) (hb : w'.heap[m]? = w.heap[m]?) : VMap w' m n f := by
  obtain ⟨D, ⟨es, cl, h1, h2, h3, h4⟩, hs⟩ := h
  exact ⟨D, ⟨es, cl, hb.trans h1, h2, h3, h4⟩, hs⟩
theorem VMap.lt {w : World} {m n : Nat} {f : ByteArray → Option Value} (h : VMap w m n f) : m < w.heap.size := by
  obtain ⟨D, h1, _⟩ := h
  exact h1.lt
theorem VMap.later {w w' : World} {m n : Nat} {f : ByteArray → Option Value} (h : VMap w m n f) (hb : Below w.heap.size w w') : VMap w' m n f := h.keep (hb.block m h.lt)
theorem VMap.more {w : World} {m n n' : Nat} {f : ByteArray → Option Value} (h : VMap w m n f) (hn : n ≤ n') : VMap w m n' f := by
  obtain ⟨D, h1, h2⟩ := h
  exact ⟨D, h1.mono hn, h2⟩
theorem VMap.made (w : World) : VMap (w.alloc (.map #[] 0)) w.heap.size 0 (fun _ => none) := ⟨.map [], World.ownsMap_made _ _ _ _, fun s => ⟨rfl, fun _ => rfl⟩⟩
theorem VMap.nocell {w : World} {m n : Nat} {f : ByteArray → Option Value} (h : VMap w m n f) {ad : Addr} {v : Value} (hc : w.cell? ad = some v) : ad.block ≠ m := by
  rintro rfl
  obtain ⟨D, ⟨es, cl, h1, _⟩, _⟩ := h
  unfold World.cell? at hc
  rw [h1] at hc
  simp at hc
theorem rv_inv {v : Value} {x : Value} {ps : List MemPlace} (h : rv v = some (.held x, ps)) : v = x := by
  unfold rv at h
  simp only [Option.some.injEq, Prod.mk.injEq, DataW.held.injEq] at h
  exact h.1
theorem VMap.look {w : World} {m n : Nat} {f : ByteArray → Option Value} (h : VMap w m n f) {t e : TypeId} (ht : Tryz.prog.underlying t = some (.map 9 e)) {z : Value} (hz : (zeroValue e).run Tryz.prog w = .ok z w) {s : ByteArray} (hs : s.size ≤ maxLen) :
    (Instr.lookup t (.map (some m)) (.string s) true).run Tryz.prog w = .ok (.tuple #[(f s).getD z, .bool (f s).isSome]) w := by
  obtain ⟨D, h1, h2⟩ := h
  obtain ⟨v, ps, hrun, hv⟩ := h1.look_ok kstr ht hz (zd := .held z) (zp := []) rfl (kof hs)
  rw [(h2 s).2] at hv
  rw [hrun, rv_inv hv, (h2 s).1]
theorem VMap.look1 {w : World} {m n : Nat} {f : ByteArray → Option Value} (h : VMap w m n f) {t e : TypeId} (ht : Tryz.prog.underlying t = some (.map 9 e)) {z : Value} (hz : (zeroValue e).run Tryz.prog w = .ok z w) {s : ByteArray} (hs : s.size ≤ maxLen) :
    (Instr.lookup t (.map (some m)) (.string s) false).run Tryz.prog w = .ok ((f s).getD z) w := by
  obtain ⟨D, h1, h2⟩ := h
  obtain ⟨v, ps, hrun, hv⟩ := h1.lookup kstr ht hz (zd := .held z) (zp := []) rfl (kof hs)
  rw [(h2 s).2] at hv
  rw [hrun, rv_inv hv]
def putM (f : ByteArray → Option Value) (k : ByteArray) (v : Value) : ByteArray → Option Value := fun s => if s = k then some v else f s
theorem VMap.put {w : World} {m n : Nat} {f : ByteArray → Option Value} (h : VMap w m n f) {t e : TypeId} (ht : Tryz.prog.underlying t = some (.map 9 e)) (hn : n < maxLen) {s : ByteArray} (hs : s.size ≤ maxLen) (v : Value) :
    ∃ w', (Instr.mapUpdate t (.map (some m)) (.string s) v).run Tryz.prog w = .ok () w' ∧ VMap w' m (n + 1) (putM f s v) ∧ w.grownBy w' (some m) := by
  obtain ⟨D, h1, h2⟩ := h
  obtain ⟨w', hrun, ho, hg⟩ := h1.update (val := v) (d := .held v) (ps := []) kstr ht hn (kof hs) rfl
  refine ⟨w', hrun, ⟨_, ho, fun x => ?_⟩, hg⟩
  unfold putM
  by_cases e : x = s
  · subst e
    rw [if_pos rfl]
    exact ⟨has_put_same h1.isMap (show WideAt.IsKeyLit (.string x.data.toList) from trivial) _, fun z => atKey_put_same h1.isMap (show WideAt.IsKeyLit (.string x.data.toList) from trivial) _ _⟩
  · rw [if_neg e]
    exact ⟨(has_put_other (klit_ne e) _).trans (h2 x).1, fun z => (atKey_put_other (klit_ne e) _ _).trans ((h2 x).2 z)⟩
end Go.Proofs.YtmlaolmaopjhbaaGreatDoor.Mv
/- PkBack, what a claim needs of it (prune.py). -/
namespace Go.Proofs.YtmlaolmaopjhbaaGreatDoor.Pk
open Go
theorem isDig_dig (n : Nat) (h : n < 10) : isDig (UInt8.ofNat (48 + n)) = true := by
  have : (UInt8.ofNat (48 + n)).toNat = 48 + n := UInt8.toNat_ofNat_of_lt' (by show 48 + n < 256; omega)
  simp [isDig]; omega
theorem dec_small {n : Nat} (h : n < 10) : Lib.decDigits n = [UInt8.ofNat (48 + n)] := by rw [Lib.decDigits, dif_pos h]
theorem dec_big {n : Nat} (h : ¬ n < 10) : Lib.decDigits n = Lib.decDigits (n / 10) ++ [UInt8.ofNat (48 + n % 10)] := by rw [Lib.decDigits, dif_neg h]
theorem dec_dig : ∀ (n : Nat), ∀ c ∈ Lib.decDigits n, isDig c = true := by
  intro n
  induction n using Nat.strongRecOn with
  | _ n ih =>
    by_cases h : n < 10
    · rw [dec_small h]; intro c hc; rw [List.mem_singleton.1 hc]; exact isDig_dig n h
    · rw [dec_big h]
      intro c hc
      rcases List.mem_append.1 hc with h1 | h1
      · exact ih (n / 10) (by omega) c h1
      · rw [List.mem_singleton.1 h1]; exact isDig_dig _ (by omega)
theorem dec_ne (n : Nat) : Lib.decDigits n ≠ [] := by
  by_cases h : n < 10
  · rw [dec_small h]; simp
  · rw [dec_big h]; simp
theorem dval_append (l : List UInt8) (c : UInt8) : dval (l ++ [c]) = 10 * dval l + (c.toNat - 48) := by unfold dval; rw [List.foldl_append]; rfl
theorem dval_dec : ∀ (n : Nat), dval (Lib.decDigits n) = n := by
  intro n
  induction n using Nat.strongRecOn with
  | _ n ih =>
    by_cases h : n < 10
    · rw [dec_small h]
      have : (UInt8.ofNat (48 + n)).toNat = 48 + n := UInt8.toNat_ofNat_of_lt' (by show 48 + n < 256; omega)
      simp only [dval, List.foldl_cons, List.foldl_nil, this]; omega
    · rw [dec_big h, dval_append, ih (n / 10) (by omega)]
      have : (UInt8.ofNat (48 + n % 10)).toNat = 48 + n % 10 := UInt8.toNat_ofNat_of_lt' (by show 48 + n % 10 < 256; omega)
      rw [this]; omega
theorem dec_len_le : ∀ (k n : Nat), n < 10 ^ (k + 1) → (Lib.decDigits n).length ≤ k + 1 := by
  intro k
  induction k with
  | zero => intro n h; rw [dec_small (by simpa using h)]; simp
  | succ k ih =>
    intro n h
    by_cases h10 : n < 10
    · rw [dec_small h10]; simp
    · rw [dec_big h10, List.length_append]
      have := ih (n / 10) (by rw [Nat.pow_succ] at h; omega)
      simp; omega
theorem dec_head : ∀ (n : Nat), n ≠ 0 → (Lib.decDigits n).getD 0 0 ≠ 48 := by
  intro n
  induction n using Nat.strongRecOn with
  | _ n ih =>
    intro h0
    by_cases h : n < 10
    · rw [dec_small h]
      have : (UInt8.ofNat (48 + n)).toNat = 48 + n := UInt8.toNat_ofNat_of_lt' (by show 48 + n < 256; omega)
      intro e
      have e' : UInt8.ofNat (48 + n) = 48 := by simpa using e
      have h48 := congrArg UInt8.toNat e'
      rw [this] at h48
      have : (48 : UInt8).toNat = 48 := rfl
      omega
    · rw [dec_big h]
      have hl : 0 < (Lib.decDigits (n / 10)).length := List.length_pos_iff.2 (dec_ne _)
      rw [List.getD_eq_getElem?_getD, List.getElem?_append_left hl, ← List.getD_eq_getElem?_getD]
      exact ih (n / 10) (by omega) (by omega)
theorem takeWhile_all {p : UInt8 → Bool} {l r : List UInt8} {c : UInt8} (h : ∀ x ∈ l, p x = true) (hc : p c = false) : (l ++ c :: r).takeWhile p = l := by
  induction l with
  | nil => simp [hc]
  | cons a l ih => rw [List.cons_append, List.takeWhile_cons, if_pos (h a (List.mem_cons_self ..)), ih (fun x hx => h x (List.mem_cons_of_mem _ hx))]
theorem takeWhile_self {p : UInt8 → Bool} : ∀ {l : List UInt8}, (∀ x ∈ l, p x = true) → l.takeWhile p = l
  | [], _ => rfl
  | a :: l, h => by rw [List.takeWhile_cons, if_pos (h a (List.mem_cons_self ..)), takeWhile_self (fun x hx => h x (List.mem_cons_of_mem _ hx))]
theorem kd_dec {n : Nat} (hn : n < 10000000) (r : List UInt8) : kd (Lib.decDigits n ++ 58 :: r) = (Lib.decDigits n).length := by
  have h7 := dec_len_le 6 n hn
  unfold kd
  rcases Nat.lt_or_ge (Lib.decDigits n).length 7 with h | h
  · rw [List.take_append, List.take_of_length_le (by omega)]
    obtain ⟨k, hk⟩ : ∃ k, 7 - (Lib.decDigits n).length = k + 1 := ⟨6 - (Lib.decDigits n).length, by omega⟩
    rw [hk, List.take_succ_cons, takeWhile_all (dec_dig n) (by decide)]
  · have : (Lib.decDigits n).length = 7 := by omega
    rw [List.take_append_of_le_length (by omega), List.take_of_length_le (by omega)]
    congr 1
    exact takeWhile_self (dec_dig n)
theorem nxt_text {s : List UInt8} (hs : s.length < 10000000) (r : List UInt8) : nxt (text s ++ r) = .ok s r := by
  have e : text s ++ r = Lib.decDigits s.length ++ 58 :: (s ++ 44 :: r) := by simp [text]
  have hk := kd_dec hs (s ++ 44 :: r)
  have hpos : 0 < (Lib.decDigits s.length).length := List.length_pos_iff.2 (dec_ne _)
  have hlen : len (text s ++ r) = .inr (s.length, s ++ 44 :: r) := by
    unfold len
    rw [e]
    simp only [hk]
    rw [if_neg (by simp), if_neg]
    · rw [List.take_left, dval_dec]
      congr 2
      rw [List.drop_append, List.drop_of_length_le (by omega)]
      simp
    · intro h
      rcases h with h | h | ⟨h1, h2⟩
      · apply h
        rw [List.getD_eq_getElem?_getD, List.getElem?_append_right (Nat.le_refl _)]
        simp
      · omega
      · rw [List.getD_eq_getElem?_getD, List.getElem?_append_left (by omega), ← List.getD_eq_getElem?_getD] at h2
        refine dec_head s.length (fun h0 => ?_) h2
        rw [h0, dec_small (by omega)] at h1
        simp at h1
  unfold nxt
  rw [hlen]
  simp only
  rw [if_neg (by simp), if_neg]
  · simp
  · rw [List.getD_eq_getElem?_getD, List.getElem?_append_right (Nat.le_refl _)]
    simp
theorem text_ne (s r : List UInt8) : text s ++ r ≠ [] := by simp [text]
theorem lst_cons {t q l : List UInt8} (h0 : l ≠ []) (h : nxt l = .ok t q) : lst l = (lst q).map (t :: ·) := by
  rw [lst, if_neg h0]
  split
  · rename_i h2; rw [h] at h2; cases h2
  · rename_i h2; rw [h] at h2; injection h2 with h3 h4; rw [h3, h4]
theorem lst_flat : ∀ (l : List (List UInt8)), (∀ t ∈ l, t.length < 10000000) → lst (l.flatMap text) = some l
  | [], _ => by rw [List.flatMap_nil, lst]; rfl
  | t :: l, h => by
    rw [List.flatMap_cons, lst_cons (text_ne _ _) (nxt_text (h t (List.mem_cons_self ..)) _), lst_flat l (fun x hx => h x (List.mem_cons_of_mem _ hx))]
    rfl
theorem mem_flat {l : List (List UInt8)} {t : List UInt8} (h : t ∈ l) : t.length < (l.flatMap text).length := by
  induction l with
  | nil => cases h
  | cons a l ih =>
    rw [List.flatMap_cons, List.length_append]
    rcases List.mem_cons.1 h with rfl | h
    · simp [text]; omega
    · have := ih h; omega
theorem text_read {s : List UInt8} (hs : s.length < 10000000) (r : List UInt8) : Rd.text ⟨text s ++ r, 0⟩ = (s, ⟨r, 0⟩) := by
  unfold Rd.text
  simp [nxt_text hs r]
theorem text_read' {s : List UInt8} (hs : s.length < 10000000) : Rd.text ⟨text s, 0⟩ = (s, ⟨[], 0⟩) := by
  have := text_read hs []
  rwa [List.append_nil] at this
theorem list_read {l : List (List UInt8)} (hs : (l.flatMap text).length < 10000000) (r : List UInt8) : Rd.list ⟨list l ++ r, 0⟩ = (l, ⟨r, 0⟩) := by
  unfold Rd.list list
  rw [text_read hs r, lst_flat l (fun t ht => by have := mem_flat ht; omega)]
theorem list_read' {l : List (List UInt8)} (hs : (l.flatMap text).length < 10000000) : Rd.list ⟨list l, 0⟩ = (l, ⟨[], 0⟩) := by
  have := list_read hs []
  rwa [List.append_nil] at this
theorem fin_done : Rd.fin ⟨[], 0⟩ = 0 := by simp [Rd.fin]
theorem all_back {α : Type} {takes : Rd → α × Rd} {lays : α → List UInt8} {l : List α} (ht : ∀ x ∈ l, takes ⟨lays x, 0⟩ = (x, ⟨[], 0⟩)) (hs : ((l.map lays).flatMap text).length < 10000000) : all takes (list (l.map lays)) = (l, 0) := by
  have he : ∀ m : List α, (∀ x ∈ m, takes ⟨lays x, 0⟩ = (x, ⟨[], 0⟩)) → each takes (m.map lays) = some m := by
    intro m
    induction m with
    | nil => intro _; rfl
    | cons a m ih =>
      intro h
      rw [List.map_cons, each, h a (List.mem_cons_self ..), if_neg (by simp [fin_done]), ih (fun x hx => h x (List.mem_cons_of_mem _ hx))]
      rfl
  unfold all
  rw [list_read' hs]
  simp only [fin_done]
  rw [he l ht]
  rfl
theorem dig_of {c : UInt8} (h : isDig c = true) : ∃ d, d < 10 ∧ c = UInt8.ofNat (48 + d) ∧ c.toNat = 48 + d := by
  simp only [isDig, Bool.and_eq_true, decide_eq_true_eq] at h
  refine ⟨c.toNat - 48, by omega, ?_, by omega⟩
  apply UInt8.toNat_inj.1
  rw [UInt8.toNat_ofNat_of_lt' (by show 48 + (c.toNat - 48) < 256; omega)]
  omega
end Go.Proofs.YtmlaolmaopjhbaaGreatDoor.Pk
