/- Joined by mkmerged.py: PkSpec, PkText, PkList, KgFn, KgFiles, TgMore, PkBack, PkRead, KgFn2. -/
import Derived.Lib.ItoaNum
import Derived.Test.YtifiipmmgnmciaaGreatDoorMi01
import Derived.Test.YtifiipmmgnmciaaGreatDoorMiKt
import Derived.Lib.AppendIntMem
import Derived.Deep.RegionWith
import Derived.Test.YtifiipmmgnmciaaGreatDoorMi02
import Derived.Laws.OwnMore
import Derived.Deep.AppendLies
import Derived.Deep.Draws
import Derived.Test.YtifiipmmgnmciaaGreatDoorMiKm
import Derived.Lib.Atoi
import Derived.Lib.AtoiErrMem
/- PkSpec, what a claim needs of it (prune.py). -/
namespace Go.Proofs.YtifiipmmgnmciaaGreatDoor.Pk
open Go
def text (s : List UInt8) : List UInt8 := Lib.decDigits s.length ++ 58 :: (s ++ [44])
def list (l : List (List UInt8)) : List UInt8 := text (l.flatMap text)
def isDig (c : UInt8) : Bool := decide (48 ≤ c.toNat) && decide (c.toNat ≤ 57)
def kd (s : List UInt8) : Nat := ((s.take 7).takeWhile isDig).length
def dval (l : List UInt8) : Nat := l.foldl (fun n c => 10 * n + (c.toNat - 48)) 0
inductive Nx where
  | bad (e : Nat)
  | ok (t r : List UInt8)
def len (s : List UInt8) : Nat ⊕ (Nat × List UInt8) :=
  let k := kd s
  if k = s.length then .inl 10
  else if s.getD k 0 ≠ 58 ∨ k = 0 ∨ (1 < k ∧ s.getD 0 0 = 48) then .inl 11
  else .inr (dval (s.take k), s.drop (k + 1))
def nxt (s : List UInt8) : Nx :=
  match len s with
  | .inl e => .bad e
  | .inr (n, r) => if r.length ≤ n then .bad 10 else if r.getD n 0 ≠ 44 then .bad 11 else .ok (r.take n) (r.drop (n + 1))
theorem nxt_lt {s t r : List UInt8} (h : nxt s = .ok t r) : r.length < s.length := by
  unfold nxt len at h
  simp only at h
  split at h
  · cases h
  · rename_i n r' h'
    split at h'
    · cases h'
    · split at h'
      · cases h'
      · injection h' with h'
        injection h' with h1 h2
        split at h
        · cases h
        · split at h
          · cases h
          · injection h with h3 h4
            subst h4 h2
            rename_i hk _ _ _
            have : kd s ≤ s.length := by
              have := (List.takeWhile_prefix (p := isDig) (l := s.take 7)).length_le
              unfold kd
              simp at this ⊢
              omega
            simp
            omega
def lst (s : List UInt8) : Option (List (List UInt8)) :=
  if s = [] then some [] else
  match _h : nxt s with
  | .bad _ => none
  | .ok t r => (lst r).map (t :: ·)
termination_by s.length
decreasing_by exact nxt_lt _h
structure Rd where
  rest : List UInt8
  bad : Nat
def Rd.text (r : Rd) : List UInt8 × Rd :=
  if r.bad ≠ 0 then ([], r) else
  match nxt r.rest with
  | .bad e => ([], ⟨r.rest, e⟩)
  | .ok t q => (t, ⟨q, 0⟩)
def Rd.list (r : Rd) : List (List UInt8) × Rd :=
  match lst r.text.1 with
  | none => ([], ⟨r.text.2.rest, 11⟩)
  | some l => (l, r.text.2)
def Rd.fin (r : Rd) : Nat := if r.bad = 0 ∧ r.rest ≠ [] then 12 else r.bad
def each {α : Type} (takes : Rd → α × Rd) : List (List UInt8) → Option (List α)
  | [] => some []
  | s :: l => if (takes ⟨s, 0⟩).2.fin ≠ 0 then none else (each takes l).map ((takes ⟨s, 0⟩).1 :: ·)
def all {α : Type} (takes : Rd → α × Rd) (data : List UInt8) : List α × Nat :=
  let (l, r) := Rd.list ⟨data, 0⟩
  if r.fin ≠ 0 then ([], r.fin) else
  match each takes l with
  | none => ([], 11)
  | some a => (a, 0)
end Go.Proofs.YtifiipmmgnmciaaGreatDoor.Pk
/- PkText, what a claim needs of it (prune.py). -/
namespace Go.Proofs.YtifiipmmgnmciaaGreatDoor
open Go.RowKit
set_option linter.unusedVariables false
set_option maxRecDepth 100000
theorem ret_str {a b : ByteArray} (h : a = b) : Ending.returned (.string a) = .returned (.string b) := by rw [h]
def bs (l : List UInt8) : ByteArray := ⟨l.toArray⟩
theorem bs_of (s : ByteArray) : bs s.data.toList = s := rfl
theorem bs_size (l : List UInt8) : (bs l).size = l.length := by rw [Lib.size_eq]; rfl
theorem bs_append (a b : List UInt8) : bs a ++ bs b = bs (a ++ b) := by
  have : (bs a ++ bs b).data = (bs (a ++ b)).data := by rw [ByteArray.data_append]; simp [bs]
  exact congrArg ByteArray.mk this
def Tab (w : World) : Prop := Lib.TabIs Tryz.prog w "internal/strconv.uint64pow10" .u64 Lib.pow10Tab
theorem Tab.on {w w' : World} (h : Tab w) (hb : Below w.heap.size w w') : Tab w' := Lib.tabBelow_of_tabIs h w' hb
theorem itoa_nat (n : Nat) : Lib.itoa (n : Int) = Lib.decDigits n := by
  unfold Lib.itoa
  rw [if_neg (by omega)]
  rfl
theorem nDigits_le {n : Nat} (h : n < 10 ^ 19) : Lib.nDigits n ≤ 19 := by
  rcases Nat.lt_or_ge 19 (Lib.nDigits n) with h2 | h2
  · exfalso
    have key : ∀ k n, n < 10 ^ (k + 1) → Lib.nDigits n ≤ k + 1 := by
      intro k
      induction k with
      | zero => intro n hn; rw [Lib.nDigits_small (by simpa using hn)]; exact Nat.le_refl _
      | succ k ih =>
        intro n hn
        by_cases h10 : n < 10
        · rw [Lib.nDigits_small h10]; omega
        · rw [Lib.nDigits_big h10]
          have := ih (n / 10) (by rw [Nat.pow_succ] at hn; omega)
          omega
    have := key 18 n h
    omega
  · exact h2
theorem dec_len {n : Nat} (h : n < 10 ^ 19) : (Lib.decDigits n).length ≤ 19 := by rw [Lib.decDigits_length]; exact nDigits_le h
theorem itoa_any (n : Nat) (hn : n ≤ 9223372036854775807) (w : World) (ht : Tab w) :
    Calls Tryz.prog 180 #[.int .i64 n] w fun e w' => e = .returned (.string (bs (Lib.decDigits n))) ∧ Below w.heap.size w w' :=
  (Tryz.strconv_Itoa n (by omega) (by omega) w ht).mono fun e w' ⟨he, k, os, hw⟩ => ⟨by rw [he, itoa_nat]; rfl, by rw [hw]; exact Lib.below_grow _ _ (Nat.le_refl _) _ _⟩
theorem text_eq (s : ByteArray) : bs (Lib.decDigits s.size) ++ ⟨#[58]⟩ ++ s ++ ⟨#[44]⟩ = bs (Pk.text s.data.toList) := by
  have h1 : (⟨#[58]⟩ : ByteArray) = bs [58] := rfl
  have h2 : (⟨#[44]⟩ : ByteArray) = bs [44] := rfl
  rw [h1, h2]
  conv => lhs; rw [← bs_of s]
  rw [bs_append, bs_append, bs_append, Pk.text, bs_of, Lib.size_eq]
  simp
theorem text_any (s : ByteArray) (hs : s.size ≤ 1000000000) (w : World) (ht : Tab w) :
    Calls Tryz.prog 104 #[.string s] w fun e w' => e = .returned (.string (bs (Pk.text s.data.toList))) ∧ Below w.heap.size w w' := by
  have TE := Lib.hid (text_eq s)
  have hd := dec_len (n := s.size) (by omega)
  obtain ⟨D, eD⟩ : ∃ D, D = bs (Lib.decDigits s.size) := ⟨_, rfl⟩
  have hD : D.size ≤ 19 := by rw [eD, bs_size]; exact hd
  have IT : Hid (Calls Tryz.prog 180 #[.int .i64 s.size] w fun e w' => e = .returned (.string D) ∧ Below w.heap.size w w') := Lib.hid (by rw [eD]; exact itoa_any s.size (by omega) w ht)
  rw [← eD] at TE
  clear eD hd
  have c1 : D.size + 1 ≤ 9223372036854775807 := by omega
  have c2 : D.size + 1 + s.size ≤ 9223372036854775807 := by omega
  have c3 : D.size + 1 + s.size + 1 ≤ 9223372036854775807 := by omega
  go_enter Tryz.func104, Tryz.ntmps104
  go_wp2_with (go_at_call 180; ((with_reducible refine (IT.out).mono ?_); rintro e w1 ⟨rfl, hb1⟩))
  go_ret
  exact ⟨ret_str TE.out, hb1⟩
end Go.Proofs.YtifiipmmgnmciaaGreatDoor
/- PkList, what a claim needs of it (prune.py). -/
namespace Go.Proofs.YtifiipmmgnmciaaGreatDoor
open Go.RowKit
set_option linter.unusedVariables false
set_option maxRecDepth 100000
theorem own_later {w w' : World} {B : Nat} {e : TypeId} {size : Nat} {v : Value} {n : Nat} {xs : List Value} (h : w.ownsRow B e size v n xs) (k : Below w.heap.size w w') : w'.ownsRow B e size v n xs := by
  refine ⟨h.1, ?_⟩
  rcases h.2 with h0 | ⟨g, cap, cur, hv, hg, hc, h1, h2, h3, h4⟩
  · exact .inl h0
  · exact .inr ⟨g, cap, cur, hv, hg, heap_below k (lt_heap hc) hc, h1, h2, h3, h4⟩
theorem SbAt.later {w w' : World} {B b : Nat} {l : List UInt8} (h : SbAt B b l w) (k : Below w.heap.size w w') : SbAt B b l w' := by
  rcases h with ⟨hB, v, hb, ho, hn⟩ | ⟨hB, v, hb, ho, hn⟩
  · exact .inl ⟨hB, v, heap_below k (lt_heap hb) hb, own_later ho k, hn⟩
  · exact .inr ⟨hB, v, heap_below k (lt_heap hb) hb, own_later ho k, hn⟩
section
variable {w w' : World} {B B' size n : Nat} {A : Option Addr} {xs : List Value}
theorem Reads.cell (h : Reads w B size A n xs) {j : Nat} (hj : j < n * size) : ∃ ad u, A = some ad ∧ ad.block < B ∧ xs[j]? = some u ∧ w.cell? (ad.add j) = some u := by
  have hn : 0 < n := by
    rcases Nat.eq_zero_or_pos n with h0 | h0
    · subst h0; simp at hj
    · exact h0
  obtain ⟨ad, e, hb, hc⟩ := h.2 hn
  have hl : j < xs.length := by rw [h.1]; exact hj
  exact ⟨ad, xs[j], e, hb, List.getElem?_eq_getElem hl, hc j _ (List.getElem?_eq_getElem hl)⟩
end
def Strs (w : World) (B : Nat) (A : Option Addr) (l : List ByteArray) : Prop := Reads w B 1 A l.length (l.map Value.string)
section
variable {w w' : World} {B B' : Nat} {A : Option Addr} {l : List ByteArray}
theorem Strs.below (h : Strs w B A l) (hb : Below B w w') : Strs w' B A l := Reads.below h hb
theorem Strs.at_ (h : Strs w B A l) {k : Nat} (hk : k < l.length) : ∃ ad, A = some ad ∧ ad.block < B ∧ w.cell? (ad.add k) = some (.string l[k]) := by
  obtain ⟨ad, u, h1, h2, h3, h4⟩ := Reads.cell h (j := k) (by omega)
  refine ⟨ad, h1, h2, ?_⟩
  rw [h4]
  simp [hk] at h3
  rw [← h3]
end
abbrev tl (s : ByteArray) : List UInt8 := s.data.toList
theorem text_len (s : List UInt8) : s.length ≤ (Pk.text s).length := by simp [Pk.text]; omega
theorem flat_take_succ (l : List ByteArray) (k : Nat) (h : k < l.length) : ((l.take (k + 1)).map tl).flatMap Pk.text = ((l.take k).map tl).flatMap Pk.text ++ Pk.text (tl l[k]) := by
  rw [List.take_succ_eq_append_getElem h, List.map_append, List.flatMap_append]; simp
theorem flat_take_le (l : List ByteArray) (k : Nat) (h : k < l.length) : (((l.take k).map tl).flatMap Pk.text).length + (Pk.text (tl l[k])).length ≤ ((l.map tl).flatMap Pk.text).length := by
  have : l = l.take (k + 1) ++ l.drop (k + 1) := (List.take_append_drop _ _).symm
  conv => rhs; rw [this, List.map_append, List.flatMap_append, List.length_append, flat_take_succ l k h, List.length_append]
  omega
theorem bstring_any (B b : Nat) (l : List UInt8) (w : World) (h : SbAt B b l w) (hBw : B ≤ w.heap.size) :
    Calls Tryz.prog 116 #[.pointer (some ⟨b, 0, none⟩)] w fun e w' => e = .returned (.string (bs l)) ∧ Below B w w' := Tryz.Builder_String_any B b l w h hBw
set_option maxHeartbeats 1000000 in
theorem plist_any (A : Option Addr) (l : List ByteArray) (c : Nat) (w : World) (ht : Tab w) (hr : Strs w w.heap.size A l) (hl : ((l.map tl).flatMap Pk.text).length ≤ 500000000) :
    Calls Tryz.prog 117 #[.slice A l.length c] w fun e w' => e = .returned (.string (bs (Pk.list (l.map tl)))) ∧ Below w.heap.size w w' := by
  have hn : l.length ≤ 500000000 := by
    have : ∀ l : List ByteArray, l.length ≤ ((l.map tl).flatMap Pk.text).length := by
      intro l
      induction l with
      | nil => simp
      | cons x l ih => simp [Pk.text] at ih ⊢; omega
    exact Nat.le_trans (this l) hl
  go_enter Tryz.func117, Tryz.ntmps117
  go_wp2_with (fail)
  go_loopw [8] (fun i wx => ∃ k : Nat, i = .int .i64 k ∧ k ≤ l.length ∧ SbAt w.heap.size w.heap.size (((l.take k).map tl).flatMap Pk.text) wx ∧ Below w.heap.size w wx) (fun i _ => l.length - (intOf i).toNat)
  case atStart => exact ⟨0, rfl, by omega, Lib.fresh_isBuilder _ _ w, (Below.refl _ _).alloc (Nat.le_refl _) _⟩
  case round =>
    obtain ⟨k, rfl, hk, hsb, hbx⟩ := hrel
    rename World => wx
    by_cases hlt : k < l.length
    · have hrx := hr.below hbx
      obtain ⟨ad, rfl, had, hc⟩ := hrx.at_ hlt
      have FT := Lib.hid (flat_take_succ l k hlt)
      have FL := flat_take_le l k hlt
      have TX := text_len (tl l[k])
      have hsz : l[k].size = (tl l[k]).length := Lib.size_eq _
      have TXT := Lib.hid (text_any l[k] (by omega) wx (ht.on hbx))
      generalize l[k] = s at *
      generalize ((l.take k).map tl).flatMap Pk.text = acc at *
      have hz : (bs (Pk.text (tl s))).size = (Pk.text (tl s)).length := bs_size _
      have hbl : acc.length + (bs (Pk.text (tl s))).size ≤ 140737488355328 := by omega
      have HZ := Lib.hid hz
      have HSZ := Lib.hid hsz
      clear hz hsz
      have hkI : (k : Int) < (l.length : Int) := by omega
      go_wp2_with (go_at_call 104; ((with_reducible refine (TXT.out).mono ?_); rintro e w1 ⟨rfl, hb1⟩))
      have hsb1 := hsb.later hb1
      have hbx1 := hbx.trans (hb1.mono hbx.size)
      clear hsb
      go_wp2_with (go_at_call 120; ((with_reducible refine (WriteString_any w.heap.size w.heap.size acc _ _ hsb1 hbl hbx1.size).mono ?_); rintro e w2 ⟨rfl, hsb2, hb2⟩))
      go_roundw
      case rel => exact ⟨k + 1, by go_num, by omega, by rw [FT.out]; exact hsb2, hbx1.trans hb2⟩
      case measure => simp [intOf]; omega
    · obtain rfl : k = l.length := by omega
      rw [List.take_length] at hsb
      have LD : Hid (Pk.text ((l.map tl).flatMap Pk.text) = Pk.list (l.map tl)) := Lib.hid rfl
      generalize (l.map tl).flatMap Pk.text = acc at *
      have hz : (bs acc).size = acc.length := bs_size _
      have TXT : Hid (∀ W, Tab W → Calls Tryz.prog 104 #[.string (bs acc)] W fun e w' => e = .returned (.string (bs (Pk.text acc))) ∧ Below W.heap.size W w') := Lib.hid (fun W hW => text_any (bs acc) (by omega) W hW)
      clear hz
      have hB := hbx.size
      go_wp2_with (go_at_call 116; ((with_reducible refine (bstring_any w.heap.size w.heap.size acc _ hsb hB).mono ?_); rintro e w1 ⟨rfl, hb1⟩))
      have hbx1 := hbx.trans hb1
      have ht1 := ht.on hbx1
      go_wp2_with (go_at_call 104; ((with_reducible refine (TXT.out _ ht1).mono ?_); rintro e w2 ⟨rfl, hb2⟩))
      go_ret
      exact ⟨ret_str (by rw [LD.out]), hbx1.trans (hb2.mono hbx1.size)⟩
end Go.Proofs.YtifiipmmgnmciaaGreatDoor
/- KgFn, what a claim needs of it (prune.py). -/
namespace Go.Proofs.YtifiipmmgnmciaaGreatDoor
open Go.RowKit
set_option linter.unusedVariables false
set_option maxRecDepth 100000
def fileB (p d : List UInt8) : List UInt8 := Pk.text p ++ Pk.text d
theorem textlen_le (s : ByteArray) (h : s.size ≤ 1000000000) : (bs (Pk.text (tl s))).size ≤ s.size + 21 := by
  rw [bs_size]
  have h2 : (tl s).length = s.size := (Lib.size_eq s).symm
  have h1 := dec_len (n := (tl s).length) (by omega)
  simp only [Pk.text, List.length_append, List.length_cons, List.length_nil]
  omega
theorem listlen_le (l : List ByteArray) (h : ((l.map tl).flatMap Pk.text).length ≤ 500000000) : (bs (Pk.list (l.map tl))).size ≤ ((l.map tl).flatMap Pk.text).length + 21 := by
  have := textlen_le (bs ((l.map tl).flatMap Pk.text)) (by rw [bs_size]; omega)
  rw [bs_size (((l.map tl).flatMap Pk.text))] at this
  exact this
theorem Strs.more {w : World} {B B' : Nat} {A : Option Addr} {l : List ByteArray} (h : Strs w B A l) (hB : B ≤ B') : Strs w B' A l := Reads.more h hB
def targetB (n c : List UInt8) (ds ss : List (List UInt8)) : List UInt8 := ((Pk.text n ++ Pk.text c) ++ Pk.list ds) ++ Pk.list ss
theorem targetB_eq (n c : List UInt8) (ds ss : List (List UInt8)) : bs (Pk.text n) ++ bs (Pk.text c) ++ bs (Pk.list ds) ++ bs (Pk.list ss) = bs (targetB n c ds ss) := by
  rw [bs_append, bs_append, bs_append]; rfl
end Go.Proofs.YtifiipmmgnmciaaGreatDoor
namespace Go.Proofs.YtifiipmmgnmciaaGreatDoor
open Go.RowKit
set_option linter.unusedVariables false
set_option maxRecDepth 100000
theorem append_one {P : Program} {ops : Array Oper} {rest : List Oper} {o : Oper} {a : Act} {Q : Exit → Act → World → Prop} {wr w0 : World} (hgd : o.guard = none) (s x : Operand) (t : TypeId)
    (ho : o.op = .call { callee := .builtin .append, args := #[s, x], argTypes := #[t, t] }) (B : Nat) (e : TypeId) (z : Value) (by_ : Nat) (ht : P.underlying t = some (.slice e))
    (hi : (P.info? e).map (fun i => (i.zero, i.size, i.bytes)) = some (some z, 1, by_)) (hz : z.cells.size = 1) (hby : by_ ≤ 1000)
    (v : Value) (n : Nat) (xs : List Value) (hs : a.eval s = v) (hown : wr.ownsRow B e 1 v n xs)
    (u : Value) (hu : u.oneCell' = true) (hx : a.eval x = .slice (some ⟨wr.heap.size, 0, none⟩) 1 1) (hn : n + 1 ≤ 1000000000)
    (hB : B ≤ wr.heap.size) (hb : Below B w0 wr)
    (h : ∀ v' w', w'.ownsRow B e 1 v' (n + 1) (xs ++ [u]) → Below B w0 w' → (∀ k, k < wr.heap.size → some k ≠ v.ownBlock → w'.heap[k]? = wr.heap[k]?) → wpList P ops Q rest (a.put o.dst v') w') :
    wpList P ops Q (o :: rest) a (wr.alloc (.cells #[u] e)) := by
  obtain ⟨i0, hi0, hz0, hz1, hz2⟩ := info_parts hi
  have hmul : (n + 1) * by_ ≤ 1000000000 * 1000 := Nat.mul_le_mul hn hby
  refine wpList_append_own _ hgd s x t ho B e i0 z 1 by_ ht hi0 hz0 hz1 hz2 hz (by decide) v n xs hs (hown.alloc _) ⟨wr.heap.size, 0, none⟩ 1 1 [u] hx rfl ?_ ?_ ?_ (by omega) (by simp; omega) ?_
  · intro j y hy
    rw [Addr.add_mid, Nat.zero_add, cell_heap (heap_alloc_new wr _)]
    simpa using hy
  · intro y hy; simp at hy; subst hy; exact hu
  · unfold maxLen; omega
  · intro v' w' h1 h2 _
    refine h v' w' h1 ?_ ?_
    · exact (hb.alloc hB _).grown h2 (by simp; omega) (fun k hk => (hown.lt k hk).1)
    · intro k hk hne
      rw [h2.block k (by simp; omega) hne, Below.heap_alloc _ _ _ hk]
def Tg.b (t : Tg) : List UInt8 := targetB (tl t.n) (tl t.c) (t.ds.map tl) (t.ss.map tl)
structure Tg.Ok (t : Tg) : Prop where
  n : t.n.size ≤ 100
  c : t.c.size ≤ 2000
  dl : t.ds.length ≤ 20
  sl : t.ss.length ≤ 40
  d : ∀ x ∈ t.ds, x.size ≤ 100
  s : ∀ x ∈ t.ss, x.size ≤ 100
theorem flat_le (l : List ByteArray) (m : Nat) (hm : m ≤ 1000000) (h : ∀ x ∈ l, x.size ≤ m) : ((l.map tl).flatMap Pk.text).length ≤ l.length * (m + 21) := by
  induction l with
  | nil => simp
  | cons x l ih =>
    have h1 := h x (List.mem_cons_self ..)
    have h2 := ih (fun y hy => h y (List.mem_cons_of_mem _ hy))
    have h3 := textlen_le x (by omega)
    rw [bs_size] at h3
    simp only [List.map_cons, List.flatMap_cons, List.length_append, List.length_cons]
    have : (l.length + 1) * (m + 21) = l.length * (m + 21) + (m + 21) := Nat.succ_mul _ _
    omega
theorem Tg.Ok.ds_le {t : Tg} (h : t.Ok) : ((t.ds.map tl).flatMap Pk.text).length ≤ 2420 := by
  have h1 := flat_le t.ds 100 (by omega) h.d
  have h2 : t.ds.length * (100 + 21) ≤ 20 * (100 + 21) := Nat.mul_le_mul_right _ h.dl
  omega
theorem Tg.Ok.ss_le {t : Tg} (h : t.Ok) : ((t.ss.map tl).flatMap Pk.text).length ≤ 4840 := by
  have h1 := flat_le t.ss 100 (by omega) h.s
  have h2 : t.ss.length * (100 + 21) ≤ 40 * (100 + 21) := Nat.mul_le_mul_right _ h.sl
  omega
theorem Tg.Ok.b_le {t : Tg} (h : t.Ok) : (bs t.b).size ≤ 10000 := by
  rw [bs_size]
  have h1 := textlen_le t.n (by have := h.n; omega)
  have h2 := textlen_le t.c (by have := h.c; omega)
  have h3 := listlen_le t.ds (by have := h.ds_le; omega)
  have h4 := listlen_le t.ss (by have := h.ss_le; omega)
  rw [bs_size] at h1 h2 h3 h4
  have := h.n; have := h.c; have := h.ds_le; have := h.ss_le
  simp only [Tg.b, targetB, List.length_append]
  omega
def TgAt (w : World) (B : Nat) (ad : Addr) (t : Tg) : Prop := ∃ Ad cd As cs, w.cell? ad = some (.string t.n) ∧ w.cell? (ad.add 1) = some (.string t.c) ∧ w.cell? (ad.add 2) = some (.slice Ad t.ds.length cd) ∧ w.cell? (ad.add 3) = some (.slice As t.ss.length cs) ∧ Strs w B Ad t.ds ∧ Strs w B As t.ss
def Tgs (w : World) (B : Nat) (A : Option Addr) (l : List Tg) : Prop := 0 < l.length → ∃ ad, A = some ad ∧ ad.block < B ∧ ∀ k (h : k < l.length), TgAt w B (ad.add (k * 4)) l[k]
theorem TgAt.keep {w w' : World} {B : Nat} {ad : Addr} {t : Tg} (hB : ad.block < B) (h : TgAt w B ad t) (hb : Below B w w') : TgAt w' B ad t := by
  obtain ⟨Ad, cd, As, cs, h0, h1, h2, h3, h4, h5⟩ := h
  have hk : ∀ j, w'.cell? (ad.add j) = w.cell? (ad.add j) := fun j => hb.cell (by rw [block_of_add]; exact hB)
  exact ⟨Ad, cd, As, cs, (hb.cell hB).trans h0, (hk 1).trans h1, (hk 2).trans h2, (hk 3).trans h3, h4.below hb, h5.below hb⟩
theorem Tgs.below {w w' : World} {B : Nat} {A : Option Addr} {l : List Tg} (h : Tgs w B A l) (hb : Below B w w') : Tgs w' B A l := fun hl => by
  obtain ⟨ad, e, h1, h2⟩ := h hl
  exact ⟨ad, e, h1, fun k hk => (h2 k hk).keep (by rw [block_of_add]; exact h1) hb⟩
theorem str_info : (Tryz.prog.info? 9).map (fun i => (i.zero, i.size, i.bytes)) = some (some (.string .empty), 1, 16) := by kernel_rfl
theorem flat_mem {l : List (List UInt8)} {t : List UInt8} (h : t ∈ l) : t.length < (l.flatMap Pk.text).length := by
  induction l with
  | nil => cases h
  | cons a l ih =>
    rw [List.flatMap_cons, List.length_append]
    rcases List.mem_cons.1 h with rfl | h
    · simp [Pk.text]; omega
    · have := ih h; omega
theorem flat_count (l : List (List UInt8)) : l.length ≤ (l.flatMap Pk.text).length := by
  induction l with
  | nil => simp
  | cons a l ih =>
    have h1 := text_len a
    have h2 : 1 ≤ (Pk.text a).length := by simp [Pk.text]; omega
    rw [List.flatMap_cons, List.length_append, List.length_cons]
    omega
theorem Tg.parts (t : Tg) : t.n.size ≤ t.b.length ∧ t.c.size ≤ t.b.length ∧ ((t.ds.map tl).flatMap Pk.text).length ≤ t.b.length ∧ ((t.ss.map tl).flatMap Pk.text).length ≤ t.b.length := by
  have h1 := text_len (tl t.n)
  have h2 := text_len (tl t.c)
  have h3 := text_len ((t.ds.map tl).flatMap Pk.text)
  have h4 := text_len ((t.ss.map tl).flatMap Pk.text)
  have e1 : t.n.size = (tl t.n).length := Lib.size_eq _
  have e2 : t.c.size = (tl t.c).length := Lib.size_eq _
  simp only [Tg.b, targetB, Pk.list, List.length_append]
  omega
theorem Tg.flat_ok {l : List Tg} (hl : l.length ≤ 20) (hok : ∀ t ∈ l, t.Ok) : ((l.map Tg.b).flatMap Pk.text).length ≤ 200420 := by
  have h1 := flat_le (l.map fun t => bs t.b) 10000 (by omega) (fun x hx => by
    obtain ⟨t, h1, rfl⟩ := List.mem_map.1 hx
    exact (hok t h1).b_le)
  have h2 : (l.map fun t => bs t.b).length * (10000 + 21) ≤ 20 * (10000 + 21) := Nat.mul_le_mul_right _ (by simpa using hl)
  rw [show ((l.map fun t => bs t.b).map tl) = l.map Tg.b by rw [List.map_map]; rfl] at h1
  omega
end Go.Proofs.YtifiipmmgnmciaaGreatDoor
/- KgFiles, what a claim needs of it (prune.py). -/
namespace Go.Proofs.YtifiipmmgnmciaaGreatDoor
open Go.RowKit
set_option linter.unusedVariables false
set_option maxRecDepth 100000
def Fl.b (f : Fl) : List UInt8 := fileB (tl f.p) (tl f.d)
structure Fl.Ok (f : Fl) : Prop where
  p : f.p.size ≤ 200
  d : f.d.size ≤ 3000
structure Fl.Ok60 (f : Fl) : Prop where
  p : f.p.size ≤ 60
  d : f.d.size ≤ 3000
theorem Fl.Ok.b_le {f : Fl} (h : f.Ok) : (bs f.b).size ≤ 4000 := by
  rw [bs_size]
  have h1 := textlen_le f.p (by have := h.p; omega)
  have h2 := textlen_le f.d (by have := h.d; omega)
  rw [bs_size] at h1 h2
  have := h.p; have := h.d
  simp only [Fl.b, fileB, List.length_append]
  omega
def FlAt (w : World) (ad : Addr) (f : Fl) : Prop := w.cell? ad = some (.string f.p) ∧ w.cell? (ad.add 1) = some (.string f.d)
def Fls (w : World) (B : Nat) (A : Option Addr) (l : List Fl) : Prop := 0 < l.length → ∃ ad, A = some ad ∧ ad.block < B ∧ ∀ k (h : k < l.length), FlAt w (ad.add (k * 2)) l[k]
theorem Fls.below {w w' : World} {B : Nat} {A : Option Addr} {l : List Fl} (h : Fls w B A l) (hb : Below B w w') : Fls w' B A l := fun hl => by
  obtain ⟨ad, e, h1, h2⟩ := h hl
  refine ⟨ad, e, h1, fun k hk => ?_⟩
  obtain ⟨c0, c1⟩ := h2 k hk
  have h3 : (ad.add (k * 2)).block < B := by rw [block_of_add]; exact h1
  exact ⟨(hb.cell h3).trans c0, (hb.cell (by rw [block_of_add]; exact h3)).trans c1⟩
theorem Fl.parts (f : Fl) : f.p.size ≤ f.b.length ∧ f.d.size ≤ f.b.length := by
  have h1 := text_len (tl f.p)
  have h2 := text_len (tl f.d)
  have e1 : f.p.size = (tl f.p).length := Lib.size_eq _
  have e2 : f.d.size = (tl f.d).length := Lib.size_eq _
  simp only [Fl.b, fileB, List.length_append]
  omega
theorem Fl.flat_ok {l : List Fl} (hl : l.length ≤ 60) (hok : ∀ t ∈ l, t.Ok) : ((l.map Fl.b).flatMap Pk.text).length ≤ 241260 := by
  have h1 := flat_le (l.map fun t => bs t.b) 4000 (by omega) (fun x hx => by
    obtain ⟨t, h1, rfl⟩ := List.mem_map.1 hx
    exact (hok t h1).b_le)
  have h2 : (l.map fun t => bs t.b).length * (4000 + 21) ≤ 60 * (4000 + 21) := Nat.mul_le_mul_right _ (by simpa using hl)
  rw [show ((l.map fun t => bs t.b).map tl) = l.map Fl.b by rw [List.map_map]; rfl] at h1
  omega
end Go.Proofs.YtifiipmmgnmciaaGreatDoor
/- TgMore, what a claim needs of it (prune.py). -/
namespace Go.Proofs.YtifiipmmgnmciaaGreatDoor
open Go.RowKit
set_option linter.unusedVariables false
set_option maxRecDepth 100000
theorem Tgs.more {w : World} {B B' : Nat} {A : Option Addr} {l : List Tg} (h : Tgs w B A l) (hB : B ≤ B') : Tgs w B' A l := fun hl => by
  obtain ⟨ad, e, h1, h2⟩ := h hl
  refine ⟨ad, e, by omega, fun k hk => ?_⟩
  obtain ⟨Ad, cd, As, cs, c0, c1, c2, c3, c4, c5⟩ := h2 k hk
  exact ⟨Ad, cd, As, cs, c0, c1, c2, c3, c4.more hB, c5.more hB⟩
theorem Tgs.none_ (w : World) (B : Nat) (A : Option Addr) : Tgs w B A [] := fun h => absurd h (by simp)
end Go.Proofs.YtifiipmmgnmciaaGreatDoor
/- PkBack, what a claim needs of it (prune.py). -/
namespace Go.Proofs.YtifiipmmgnmciaaGreatDoor.Pk
open Go
theorem dec_small {n : Nat} (h : n < 10) : Lib.decDigits n = [UInt8.ofNat (48 + n)] := by rw [Lib.decDigits, dif_pos h]
theorem dec_big {n : Nat} (h : ¬ n < 10) : Lib.decDigits n = Lib.decDigits (n / 10) ++ [UInt8.ofNat (48 + n % 10)] := by rw [Lib.decDigits, dif_neg h]
theorem dec_len_le : ∀ (k n : Nat), n < 10 ^ (k + 1) → (Lib.decDigits n).length ≤ k + 1 := by
  intro k
  induction k with
  | zero => intro n h; rw [dec_small (by simpa using h)]; simp
  | succ k ih =>
    intro n h
    by_cases h10 : n < 10
    · rw [dec_small h10]; simp
    · rw [dec_big h10, List.length_append]
      have := ih (n / 10) (by rw [Nat.pow_succ] at h; omega)
      simp; omega
theorem text_ne (s r : List UInt8) : text s ++ r ≠ [] := by simp [text]
end Go.Proofs.YtifiipmmgnmciaaGreatDoor.Pk
/- PkRead, what a claim needs of it (prune.py). -/
namespace Go.Proofs.YtifiipmmgnmciaaGreatDoor
open Go.RowKit
set_option linter.unusedVariables false
set_option maxRecDepth 100000
def RdAt (w : World) (b : Nat) (r : Pk.Rd) : Prop := w.heap[b]? = some (.cells #[.string (bs r.rest), .int .i64 r.bad] 322 (0, 0))
end Go.Proofs.YtifiipmmgnmciaaGreatDoor
namespace Go.Proofs.YtifiipmmgnmciaaGreatDoor
open Go.RowKit
set_option linter.unusedVariables false
set_option maxRecDepth 100000
theorem bs_nil : bs [] = ⟨#[]⟩ := rfl
theorem bs_ne {l : List UInt8} (h : l ≠ []) : (bs l).toList.isEmpty = false := by
  rw [Lib.toList_data]
  cases l with
  | nil => exact absurd rfl h
  | cons a l => rfl
end Go.Proofs.YtifiipmmgnmciaaGreatDoor
/- KgFn2, what a claim needs of it (prune.py). -/
namespace Go.Proofs.YtifiipmmgnmciaaGreatDoor
open Go.RowKit
set_option linter.unusedVariables false
set_option maxRecDepth 100000
set_option maxHeartbeats 1000000 in
theorem filefn_any (p d : ByteArray) (hp : p.size ≤ 100000000) (hd : d.size ≤ 100000000) (w : World) (ht : Tab w) :
    Calls Tryz.prog 292 #[.agg #[.string p, .string d]] w fun e w' => e = .returned (.string (bs (fileB (tl p) (tl d)))) ∧ Below w.heap.size w w' := by
  have FB : Hid (bs (Pk.text (tl p)) ++ bs (Pk.text (tl d)) = bs (fileB (tl p) (tl d))) := Lib.hid (bs_append _ _)
  obtain ⟨X, eX⟩ : ∃ X, X = bs (Pk.text (tl p)) := ⟨_, rfl⟩
  obtain ⟨Y, eY⟩ : ∃ X, X = bs (Pk.text (tl d)) := ⟨_, rfl⟩
  have TP : Hid (∀ W, Tab W → Calls Tryz.prog 104 #[.string p] W fun e w' => e = .returned (.string X) ∧ Below W.heap.size W w') := Lib.hid (by rw [eX]; exact fun W h => text_any p (by omega) W h)
  have TD : Hid (∀ W, Tab W → Calls Tryz.prog 104 #[.string d] W fun e w' => e = .returned (.string Y) ∧ Below W.heap.size W w') := Lib.hid (by rw [eY]; exact fun W h => text_any d (by omega) W h)
  have tlen : ∀ s : ByteArray, s.size ≤ 100000000 → (bs (Pk.text (tl s))).size ≤ 200000000 := fun s hs => by
    rw [bs_size]
    have h2 : (tl s).length = s.size := (Lib.size_eq s).symm
    have h1 := dec_len (n := (tl s).length) (by omega)
    simp only [Pk.text, List.length_append, List.length_cons, List.length_nil]
    omega
  have x1 := tlen p hp
  have x2 := tlen d hd
  rw [← eX, ← eY] at FB
  rw [← eX] at x1
  rw [← eY] at x2
  clear eX eY tlen
  have hXY : X.size + Y.size ≤ 9223372036854775807 := by omega
  obtain ⟨W1, eW⟩ : ∃ W1, W1 = w.alloc (.cells #[.string p, .string d] 203) := ⟨_, rfl⟩
  have hb0 : Below w.heap.size w W1 := by rw [eW]; exact (Below.refl _ _).alloc (Nat.le_refl _) _
  have hblk : W1.heap[w.heap.size]? = some (.cells #[.string p, .string d] 203 (0, 0)) := by rw [eW]; exact heap_alloc_new w _
  have hT1 := ht.on hb0
  have hlt := lt_heap hblk
  have c0 : ∀ w', Below W1.heap.size W1 w' → w'.cell? ⟨w.heap.size, 0, none⟩ = some (.string p) := fun w' h => (cell_heap (heap_below h hlt hblk) 0).trans rfl
  have c1 : ∀ w', Below W1.heap.size W1 w' → w'.cell? ⟨w.heap.size, 1, none⟩ = some (.string d) := fun w' h => (cell_heap (heap_below h hlt hblk) 1).trans rfl
  go_enter Tryz.func292, Tryz.ntmps292
  go_wp2_with (fail)
  rw [← eW]
  clear eW
  refine wp_region_cls (C := fun w' => Below W1.heap.size W1 w') (by kernel_rfl) (by kernel_rfl) (Below.refl _ _).drew ?_
  repeat (quiet_step (first | (intro _; rfl) | (intro _; rw [if_neg (by omega)]; exact ⟨rfl, rfl⟩) | (intro hss; rw [c0 _ hss]; exact ⟨rfl, rfl⟩) | (intro hss; rw [c1 _ hss]; exact ⟨rfl, rfl⟩) | (intro hss; go_at_call 104; first | ((with_reducible refine (TP.out _ (hT1.on hss)).mono ?_); rintro e w' ⟨rfl, hb'⟩; exact ⟨rfl, hss.trans (hb'.mono hss.size)⟩) | ((with_reducible refine (TD.out _ (hT1.on hss)).mono ?_); rintro e w' ⟨rfl, hb'⟩; exact ⟨rfl, hss.trans (hb'.mono hss.size)⟩))))
  refine wpQuiet_nil ?_
  intro w2 hb2
  go_wp2
  go_ret
  exact ⟨ret_str FB.out, hb0.trans (hb2.mono hb0.size)⟩
set_option maxHeartbeats 2000000 in
theorem targetfn_any (n c : ByteArray) (ds ss : List ByteArray) (Ad As : Option Addr) (cd cs : Nat) (hn : n.size ≤ 100000000) (hc : c.size ≤ 100000000) (hds : ((ds.map tl).flatMap Pk.text).length ≤ 100000000) (hss : ((ss.map tl).flatMap Pk.text).length ≤ 100000000)
    (w : World) (ht : Tab w) (hd : Strs w w.heap.size Ad ds) (hs : Strs w w.heap.size As ss) :
    Calls Tryz.prog 178 #[.agg #[.string n, .string c, .slice Ad ds.length cd, .slice As ss.length cs]] w fun e w' => e = .returned (.string (bs (targetB (tl n) (tl c) (ds.map tl) (ss.map tl)))) ∧ Below w.heap.size w w' := by
  have FB := Lib.hid (targetB_eq (tl n) (tl c) (ds.map tl) (ss.map tl))
  have x1 := textlen_le n (by omega)
  have x2 := textlen_le c (by omega)
  have x3 := listlen_le ds (by omega)
  have x4 := listlen_le ss (by omega)
  obtain ⟨X, eX⟩ : ∃ X, X = bs (Pk.text (tl n)) := ⟨_, rfl⟩
  obtain ⟨Y, eY⟩ : ∃ X, X = bs (Pk.text (tl c)) := ⟨_, rfl⟩
  obtain ⟨U, eU⟩ : ∃ X, X = bs (Pk.list (ds.map tl)) := ⟨_, rfl⟩
  obtain ⟨V, eV⟩ : ∃ X, X = bs (Pk.list (ss.map tl)) := ⟨_, rfl⟩
  rw [← eX, ← eY, ← eU, ← eV] at FB
  rw [← eX] at x1
  rw [← eY] at x2
  rw [← eU] at x3
  rw [← eV] at x4
  have TP : Hid (∀ W, Tab W → Calls Tryz.prog 104 #[.string n] W fun e w' => e = .returned (.string X) ∧ Below W.heap.size W w') := Lib.hid (by rw [eX]; exact fun W h => text_any n (by omega) W h)
  have TD : Hid (∀ W, Tab W → Calls Tryz.prog 104 #[.string c] W fun e w' => e = .returned (.string Y) ∧ Below W.heap.size W w') := Lib.hid (by rw [eY]; exact fun W h => text_any c (by omega) W h)
  obtain ⟨W1, eW⟩ : ∃ W1, W1 = w.alloc (.cells #[.string n, .string c, .slice Ad ds.length cd, .slice As ss.length cs] 122) := ⟨_, rfl⟩
  have hb0 : Below w.heap.size w W1 := by rw [eW]; exact (Below.refl _ _).alloc (Nat.le_refl _) _
  have hblk : W1.heap[w.heap.size]? = some (.cells #[.string n, .string c, .slice Ad ds.length cd, .slice As ss.length cs] 122 (0, 0)) := by rw [eW]; exact heap_alloc_new w _
  have hT1 := ht.on hb0
  have hlt := lt_heap hblk
  have hd1 : Strs W1 W1.heap.size Ad ds := (hd.below hb0).more hb0.size
  have hs1 : Strs W1 W1.heap.size As ss := (hs.below hb0).more hb0.size
  have LD : Hid (∀ W, Below W1.heap.size W1 W → Calls Tryz.prog 117 #[.slice Ad ds.length cd] W fun e w' => e = .returned (.string U) ∧ Below W.heap.size W w') := Lib.hid (by rw [eU]; exact fun W h => plist_any Ad ds cd W (hT1.on h) ((hd1.below h).more h.size) (by omega))
  have LS : Hid (∀ W, Below W1.heap.size W1 W → Calls Tryz.prog 117 #[.slice As ss.length cs] W fun e w' => e = .returned (.string V) ∧ Below W.heap.size W w') := Lib.hid (by rw [eV]; exact fun W h => plist_any As ss cs W (hT1.on h) ((hs1.below h).more h.size) (by omega))
  have c0 : ∀ w', Below W1.heap.size W1 w' → w'.cell? ⟨w.heap.size, 0, none⟩ = some (.string n) := fun w' h => (cell_heap (heap_below h hlt hblk) 0).trans rfl
  have c1 : ∀ w', Below W1.heap.size W1 w' → w'.cell? ⟨w.heap.size, 1, none⟩ = some (.string c) := fun w' h => (cell_heap (heap_below h hlt hblk) 1).trans rfl
  have c2 : ∀ w', Below W1.heap.size W1 w' → w'.cell? ⟨w.heap.size, 2, none⟩ = some (.slice Ad ds.length cd) := fun w' h => (cell_heap (heap_below h hlt hblk) 2).trans rfl
  have c3 : ∀ w', Below W1.heap.size W1 w' → w'.cell? ⟨w.heap.size, 3, none⟩ = some (.slice As ss.length cs) := fun w' h => (cell_heap (heap_below h hlt hblk) 3).trans rfl
  have hXY : X.size + Y.size ≤ 9223372036854775807 := by omega
  have hXYU : (X ++ Y).size + U.size ≤ 9223372036854775807 := by rw [ByteArray.size_append]; omega
  have hXYU2 : X.size + Y.size + U.size ≤ 9223372036854775807 := by omega
  have hXYUV2 : X.size + Y.size + U.size + V.size ≤ 9223372036854775807 := by omega
  have hXYUV : (X ++ Y ++ U).size + V.size ≤ 9223372036854775807 := by rw [ByteArray.size_append, ByteArray.size_append]; omega
  clear eX eY eU eV hd hs hd1 hs1 x1 x2 x3 x4
  go_enter Tryz.func178, Tryz.ntmps178
  go_wp2_with (fail)
  rw [← eW]
  clear eW
  refine wp_region_cls (C := fun w' => Below W1.heap.size W1 w') (by kernel_rfl) (by kernel_rfl) (Below.refl _ _).drew ?_
  repeat (quiet_step (first | (intro _; rfl) | (intro _; rw [if_neg (by omega)]; exact ⟨rfl, rfl⟩) | (intro hss; (first | rw [c0 _ hss] | rw [c1 _ hss] | rw [c2 _ hss] | rw [c3 _ hss]); exact ⟨rfl, rfl⟩) | (intro hss; go_at_call 104; first | ((with_reducible refine (TP.out _ (hT1.on hss)).mono ?_); rintro e w' ⟨rfl, hb'⟩; exact ⟨rfl, hss.trans (hb'.mono hss.size)⟩) | ((with_reducible refine (TD.out _ (hT1.on hss)).mono ?_); rintro e w' ⟨rfl, hb'⟩; exact ⟨rfl, hss.trans (hb'.mono hss.size)⟩)) | (intro hss; go_at_call 117; first | ((with_reducible refine (LD.out _ hss).mono ?_); rintro e w' ⟨rfl, hb'⟩; exact ⟨rfl, hss.trans (hb'.mono hss.size)⟩) | ((with_reducible refine (LS.out _ hss).mono ?_); rintro e w' ⟨rfl, hb'⟩; exact ⟨rfl, hss.trans (hb'.mono hss.size)⟩))))
  refine wpQuiet_nil ?_
  intro w2 hb2
  go_wp2
  go_ret
  exact ⟨ret_str FB.out, hb0.trans (hb2.mono hb0.size)⟩
set_option maxHeartbeats 2000000 in
theorem listedT_any (A : Option Addr) (l : List Tg) (c : Nat) (hsz : ((l.map Tg.b).flatMap Pk.text).length ≤ 100000000) (w : World) (ht : Tab w) (hr : Tgs w w.heap.size A l) :
    Calls Tryz.prog 177 #[.slice A l.length c, .func (.func 178) #[] #[]] w fun e w' => e = .returned (.string (bs (Pk.list (l.map Tg.b)))) ∧ Below w.heap.size w w' := by
  have hl : l.length ≤ 100000000 := by have := flat_count (l.map Tg.b); rw [List.length_map] at this; omega
  have HS := Lib.hid hsz
  clear hsz
  go_enter Tryz.func177, Tryz.ntmps177
  go_wp2_with (fail)
  go_loopw [5, 10] (fun v i wx => ∃ k : Nat, i = .int .i64 k ∧ k ≤ l.length ∧ wx.ownsRow w.heap.size 9 1 v k ((l.take k).map fun t => Value.string (bs t.b)) ∧ Below w.heap.size w wx) (fun _ i _ => l.length - (intOf i).toNat)
  case atStart => exact ⟨0, rfl, by omega, by simpa using World.ownsRow_nil _ _ _ _, Below.refl _ _⟩
  case round =>
    obtain ⟨k, rfl, hk, hown, hbx⟩ := hrel
    rename World => wx
    by_cases hlt : k < l.length
    · obtain ⟨ad, rfl, had, hcs⟩ := hr.below hbx (by omega)
      obtain ⟨Ad, cd, As, cs, c0, c1, c2, c3, hd, hs⟩ := hcs k hlt
      have hkI : (k : Int) < (l.length : Int) := by omega
      have e1 : wx.cell? ⟨(ad.add (k * 4)).block, (ad.add (k * 4)).off + 1, none⟩ = some (.string l[k].c) := c1
      have e2 : wx.cell? ⟨(ad.add (k * 4)).block, (ad.add (k * 4)).off + 2, none⟩ = some (.slice Ad l[k].ds.length cd) := c2
      have e3 : wx.cell? ⟨(ad.add (k * 4)).block, (ad.add (k * 4)).off + 3, none⟩ = some (.slice As l[k].ss.length cs) := c3
      clear c1 c2 c3
      have hbx1 : ∀ o, Below w.heap.size w (wx.alloc o) := fun o => hbx.alloc hbx.size o
      have hT := fun o => ht.on (hbx1 o)
      have hbt := flat_mem (List.mem_map.2 ⟨l[k], List.getElem_mem hlt, rfl⟩ : l[k].b ∈ l.map Tg.b)
      have hpp := l[k].parts
      have hsz := HS.out
      have FN := fun (o : Obj) => targetfn_any l[k].n l[k].c l[k].ds l[k].ss Ad As cd cs (by omega) (by omega) (by omega) (by omega) (wx.alloc o) (hT o) ((hd.below ((Below.refl _ _).alloc hbx.size o)).more (hbx1 o).size) ((hs.below ((Below.refl _ _).alloc hbx.size o)).more (hbx1 o).size)
      have FNH := Lib.hid FN
      have TK : Hid (((l.take (k + 1)).map fun t => Value.string (bs t.b)) = ((l.take k).map fun t => Value.string (bs t.b)) ++ [.string (bs l[k].b)]) := Lib.hid (by rw [List.take_succ_eq_append_getElem hlt, List.map_append]; rfl)
      clear FN hd hs hbt hpp hsz hT hcs
      generalize l[k] = t at *
      have hbl : Hid (targetB (tl t.n) (tl t.c) (t.ds.map tl) (t.ss.map tl) = t.b) := Lib.hid rfl
      have hk9 : k + 1 ≤ 1000000000 := by omega
      go_wp2_with (first | (go_at_call 178; ((with_reducible refine (FNH.out _).mono ?_); rintro e w1 ⟨rfl, hb1⟩; have hbx2 := (hbx1 _).trans (hb1.mono (hbx1 _).size); have hown1 := own_later (hown.alloc _) hb1; have hB := hbx2.size; clear hown)) | (at_builtin; refine append_one rfl (.tmp 14) (.tmp 18) 32 rfl w.heap.size 9 _ 16 Tryz.underlying32 str_info rfl (by decide) _ k _ rfl hown1 (.string (bs (targetB (tl t.n) (tl t.c) (t.ds.map tl) (t.ss.map tl)))) rfl rfl hk9 hB hbx2 ?_; intro v' w2 hown2 hb2 _))
      go_roundw
      case rel =>
        refine ⟨k + 1, by go_num, by omega, ?_, hb2⟩
        rw [TK.out, ← hbl.out]
        exact hown2
      case measure => simp [intOf]; omega
    · obtain rfl : k = l.length := by omega
      rw [List.take_length] at hown
      obtain ⟨p, m, c', rfl⟩ := own_form hown
      have hm : m = l.length := by
        rcases hown.2 with ⟨h1, h2⟩ | ⟨g, cap, cur, h1, _⟩
        · injection h1; omega
        · injection h1
      subst hm
      have hst : Strs wx wx.heap.size p (l.map fun t => bs t.b) := by
        have := Reads.of_own hown
        unfold Strs
        rw [List.length_map, List.map_map]
        exact this
      have hfl : (((l.map fun t => bs t.b).map tl).flatMap Pk.text).length ≤ 500000000 := by
        rw [show ((l.map fun t => bs t.b).map tl) = l.map Tg.b by rw [List.map_map]; rfl]
        have := HS.out
        omega
      have LC := plist_any p (l.map fun t => bs t.b) c' wx (ht.on hbx) hst hfl
      rw [List.length_map, show ((l.map fun t => bs t.b).map tl) = l.map Tg.b by rw [List.map_map]; rfl] at LC
      have LCH := Lib.hid LC
      clear LC hst hfl hown
      go_wp2_with (go_at_call 117; ((with_reducible refine (LCH.out).mono ?_); rintro e w1 ⟨rfl, hb1⟩))
      go_ret
      exact ⟨rfl, hbx.trans (hb1.mono hbx.size)⟩
theorem kgraph_sz (A : Option Addr) (l : List Tg) (c : Nat) (hsz : ((l.map Tg.b).flatMap Pk.text).length ≤ 100000000) (w : World) (ht : Tab w) (hr : Tgs w w.heap.size A l) :
    Calls Tryz.prog 98 #[.slice A l.length c] w fun e w' => e = .returned (.string (bs (Pk.list (l.map Tg.b)))) ∧ Below w.heap.size w w' := by
  have LC := Lib.hid (listedT_any A l c hsz w ht hr)
  go_enter Tryz.func98, Tryz.ntmps98
  go_wp2_with (go_at_call 177; ((with_reducible refine (LC.out).mono ?_); rintro e w1 ⟨rfl, hb1⟩))
  go_ret
  exact ⟨rfl, hb1⟩
theorem kgraph_any (A : Option Addr) (l : List Tg) (c : Nat) (hl : l.length ≤ 20) (hok : ∀ t ∈ l, t.Ok) (w : World) (ht : Tab w) (hr : Tgs w w.heap.size A l) :
    Calls Tryz.prog 98 #[.slice A l.length c] w fun e w' => e = .returned (.string (bs (Pk.list (l.map Tg.b)))) ∧ Below w.heap.size w w' :=
  kgraph_sz A l c (by have := Tg.flat_ok hl hok; omega) w ht hr
end Go.Proofs.YtifiipmmgnmciaaGreatDoor
