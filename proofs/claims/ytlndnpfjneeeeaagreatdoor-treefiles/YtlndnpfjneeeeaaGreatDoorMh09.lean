/- Joined by mkmerged.py: TgFl, PkSpec, PkText, PkList, PkNext. -/
import Derived.Lib.Strings
import Derived.Lib.ItoaNum
import Derived.Test.YtlndnpfjneeeeaaGreatDoorMh01
import Derived.Test.YtlndnpfjneeeeaaGreatDoorMhKt
import Derived.Lib.AppendIntMem
import Derived.Deep.RegionWith
import Derived.Test.YtlndnpfjneeeeaaGreatDoorMh02
import Derived.Laws.OwnMore
import Derived.Deep.AppendLies
import Derived.Deep.Draws
import Derived.Lib.Atoi
import Derived.Lib.AtoiErrMem
/- TgFl, what a claim needs of it (prune.py). -/
namespace Go.Proofs.YtlndnpfjneeeeaaGreatDoor
structure Tg where
  n : ByteArray
  c : ByteArray
  ds : List ByteArray
  ss : List ByteArray
structure Fl where
  p : ByteArray
  d : ByteArray
end Go.Proofs.YtlndnpfjneeeeaaGreatDoor
/- PkSpec, what a claim needs of it (prune.py). -/
namespace Go.Proofs.YtlndnpfjneeeeaaGreatDoor.Pk
open Go
def text (s : List UInt8) : List UInt8 := Lib.decDigits s.length ++ 58 :: (s ++ [44])
def list (l : List (List UInt8)) : List UInt8 := text (l.flatMap text)
def isDig (c : UInt8) : Bool := decide (48 ≤ c.toNat) && decide (c.toNat ≤ 57)
def kd (s : List UInt8) : Nat := ((s.take 7).takeWhile isDig).length
def dval (l : List UInt8) : Nat := l.foldl (fun n c => 10 * n + (c.toNat - 48)) 0
inductive Nx where
  | bad (e : Nat)
  | ok (t r : List UInt8)
def len (s : List UInt8) : Nat ⊕ (Nat × List UInt8) :=
  let k := kd s
  if k = s.length then .inl 10
  else if s.getD k 0 ≠ 58 ∨ k = 0 ∨ (1 < k ∧ s.getD 0 0 = 48) then .inl 11
  else .inr (dval (s.take k), s.drop (k + 1))
def nxt (s : List UInt8) : Nx :=
  match len s with
  | .inl e => .bad e
  | .inr (n, r) => if r.length ≤ n then .bad 10 else if r.getD n 0 ≠ 44 then .bad 11 else .ok (r.take n) (r.drop (n + 1))
theorem nxt_lt {s t r : List UInt8} (h : nxt s = .ok t r) : r.length < s.length := by
  unfold nxt len at h
  simp only at h
  split at h
  · cases h
  · rename_i n r' h'
    split at h'
    · cases h'
    · split at h'
      · cases h'
      · injection h' with h'
        injection h' with h1 h2
        split at h
        · cases h
        · split at h
          · cases h
          · injection h with h3 h4
            subst h4 h2
            rename_i hk _ _ _
            have : kd s ≤ s.length := by
              have := (List.takeWhile_prefix (p := isDig) (l := s.take 7)).length_le
              unfold kd
              simp at this ⊢
              omega
            simp
            omega
def lst (s : List UInt8) : Option (List (List UInt8)) :=
  if s = [] then some [] else
  match _h : nxt s with
  | .bad _ => none
  | .ok t r => (lst r).map (t :: ·)
termination_by s.length
decreasing_by exact nxt_lt _h
structure Rd where
  rest : List UInt8
  bad : Nat
def Rd.text (r : Rd) : List UInt8 × Rd :=
  if r.bad ≠ 0 then ([], r) else
  match nxt r.rest with
  | .bad e => ([], ⟨r.rest, e⟩)
  | .ok t q => (t, ⟨q, 0⟩)
def Rd.list (r : Rd) : List (List UInt8) × Rd :=
  match lst r.text.1 with
  | none => ([], ⟨r.text.2.rest, 11⟩)
  | some l => (l, r.text.2)
def Rd.fin (r : Rd) : Nat := if r.bad = 0 ∧ r.rest ≠ [] then 12 else r.bad
def each {α : Type} (takes : Rd → α × Rd) : List (List UInt8) → Option (List α)
  | [] => some []
  | s :: l => if (takes ⟨s, 0⟩).2.fin ≠ 0 then none else (each takes l).map ((takes ⟨s, 0⟩).1 :: ·)
def all {α : Type} (takes : Rd → α × Rd) (data : List UInt8) : List α × Nat :=
  let (l, r) := Rd.list ⟨data, 0⟩
  if r.fin ≠ 0 then ([], r.fin) else
  match each takes l with
  | none => ([], 11)
  | some a => (a, 0)
end Go.Proofs.YtlndnpfjneeeeaaGreatDoor.Pk
/- PkText, what a claim needs of it (prune.py). -/
namespace Go.Proofs.YtlndnpfjneeeeaaGreatDoor
open Go.RowKit
set_option linter.unusedVariables false
set_option maxRecDepth 100000
theorem ret_str {a b : ByteArray} (h : a = b) : Ending.returned (.string a) = .returned (.string b) := by rw [h]
theorem undrawn {B : Nat} {w w' : World} (h : Below B w.drew w') : Below B w w' := ⟨h.os, h.tape, h.output, h.size, h.block⟩
theorem below_behind {w w' : World} {o : Obj} (h : Below (w.alloc o).drew.heap.size (w.alloc o).drew w') : Below w.heap.size w w' :=
  (((Below.refl w.heap.size w).alloc (Nat.le_refl _) o).drew).trans (h.mono (by simp))
def bs (l : List UInt8) : ByteArray := ⟨l.toArray⟩
theorem bs_of (s : ByteArray) : bs s.data.toList = s := rfl
theorem bs_size (l : List UInt8) : (bs l).size = l.length := by rw [Lib.size_eq]; rfl
theorem bs_append (a b : List UInt8) : bs a ++ bs b = bs (a ++ b) := by
  have : (bs a ++ bs b).data = (bs (a ++ b)).data := by rw [ByteArray.data_append]; simp [bs]
  exact congrArg ByteArray.mk this
def Tab (w : World) : Prop := Lib.TabIs Tryz.prog w "internal/strconv.uint64pow10" .u64 Lib.pow10Tab
theorem Tab.on {w w' : World} (h : Tab w) (hb : Below w.heap.size w w') : Tab w' := Lib.tabBelow_of_tabIs h w' hb
theorem itoa_nat (n : Nat) : Lib.itoa (n : Int) = Lib.decDigits n := by
  unfold Lib.itoa
  rw [if_neg (by omega)]
  rfl
theorem nDigits_le {n : Nat} (h : n < 10 ^ 19) : Lib.nDigits n ≤ 19 := by
  rcases Nat.lt_or_ge 19 (Lib.nDigits n) with h2 | h2
  · exfalso
    have key : ∀ k n, n < 10 ^ (k + 1) → Lib.nDigits n ≤ k + 1 := by
      intro k
      induction k with
      | zero => intro n hn; rw [Lib.nDigits_small (by simpa using hn)]; exact Nat.le_refl _
      | succ k ih =>
        intro n hn
        by_cases h10 : n < 10
        · rw [Lib.nDigits_small h10]; omega
        · rw [Lib.nDigits_big h10]
          have := ih (n / 10) (by rw [Nat.pow_succ] at hn; omega)
          omega
    have := key 18 n h
    omega
  · exact h2
theorem dec_len {n : Nat} (h : n < 10 ^ 19) : (Lib.decDigits n).length ≤ 19 := by rw [Lib.decDigits_length]; exact nDigits_le h
theorem itoa_any (n : Nat) (hn : n ≤ 9223372036854775807) (w : World) (ht : Tab w) :
    Calls Tryz.prog 212 #[.int .i64 n] w fun e w' => e = .returned (.string (bs (Lib.decDigits n))) ∧ Below w.heap.size w w' :=
  (Tryz.strconv_Itoa n (by omega) (by omega) w ht).mono fun e w' ⟨he, k, os, hw⟩ => ⟨by rw [he, itoa_nat]; rfl, by rw [hw]; exact Lib.below_grow _ _ (Nat.le_refl _) _ _⟩
theorem text_eq (s : ByteArray) : bs (Lib.decDigits s.size) ++ ⟨#[58]⟩ ++ s ++ ⟨#[44]⟩ = bs (Pk.text s.data.toList) := by
  have h1 : (⟨#[58]⟩ : ByteArray) = bs [58] := rfl
  have h2 : (⟨#[44]⟩ : ByteArray) = bs [44] := rfl
  rw [h1, h2]
  conv => lhs; rw [← bs_of s]
  rw [bs_append, bs_append, bs_append, Pk.text, bs_of, Lib.size_eq]
  simp
theorem text_any (s : ByteArray) (hs : s.size ≤ 1000000000) (w : World) (ht : Tab w) :
    Calls Tryz.prog 127 #[.string s] w fun e w' => e = .returned (.string (bs (Pk.text s.data.toList))) ∧ Below w.heap.size w w' := by
  have TE := Lib.hid (text_eq s)
  have hd := dec_len (n := s.size) (by omega)
  obtain ⟨D, eD⟩ : ∃ D, D = bs (Lib.decDigits s.size) := ⟨_, rfl⟩
  have hD : D.size ≤ 19 := by rw [eD, bs_size]; exact hd
  have IT : Hid (Calls Tryz.prog 212 #[.int .i64 s.size] w fun e w' => e = .returned (.string D) ∧ Below w.heap.size w w') := Lib.hid (by rw [eD]; exact itoa_any s.size (by omega) w ht)
  rw [← eD] at TE
  clear eD hd
  have c1 : D.size + 1 ≤ 9223372036854775807 := by omega
  have c2 : D.size + 1 + s.size ≤ 9223372036854775807 := by omega
  have c3 : D.size + 1 + s.size + 1 ≤ 9223372036854775807 := by omega
  go_enter Tryz.func127, Tryz.ntmps127
  go_wp2_with (go_at_call 212; ((with_reducible refine (IT.out).mono ?_); rintro e w1 ⟨rfl, hb1⟩))
  go_ret
  exact ⟨ret_str TE.out, hb1⟩
theorem conv_byte (C : UInt8) (w : World) : (convert 71 9 (.slice (some ⟨w.heap.size, 0, none⟩) 1 1)).run Tryz.prog (w.alloc (.cells #[.int .u8 C.toNat] 5)) = .ok (.string (bs [C])) (w.alloc (.cells #[.int .u8 C.toNat] 5)) :=
  conv_own (B := 0) (n := 1) (l := [C]) Tryz.underlying71 Tryz.underlying5 Tryz.underlying9
    ⟨rfl, .inr ⟨w.heap.size, 1, #[.int .u8 C.toNat], rfl, Nat.zero_le _, heap_alloc_new w _, Nat.le_refl _, by unfold maxLen; decide, rfl, rfl⟩⟩
theorem conv_byte_at (C : UInt8) (w : World) (b : Nat) (h : w.heap[b]? = some (.cells #[.int .u8 C.toNat] 5 (0, 0))) : (convert 71 9 (.slice (some ⟨b, 0, none⟩) 1 1)).run Tryz.prog w = .ok (.string (bs [C])) w :=
  conv_own (B := 0) (n := 1) (l := [C]) Tryz.underlying71 Tryz.underlying5 Tryz.underlying9
    ⟨rfl, .inr ⟨b, 1, #[.int .u8 C.toNat], rfl, Nat.zero_le _, h, Nat.le_refl _, by unfold maxLen; decide, rfl, rfl⟩⟩
theorem digits_any : ∀ (n : Nat), n ≤ 9223372036854775807 → ∀ (w : World),
    Calls Tryz.prog 164 #[.int .i64 n] w fun e w' => e = .returned (.string (bs (Lib.decDigits n))) ∧ Below w.heap.size w w' := by
  intro n
  induction n using Nat.strongRecOn with
  | _ n ih =>
    intro hn w
    by_cases h : n < 10
    · have i0 : (n : Int) < 10 := by omega
      have i1 : (0 : Int) ≤ (n : Int) := by omega
      have d1 : decide ((n : Int) < 10) = true := decide_eq_true i0
      obtain ⟨C, eC⟩ : ∃ C : UInt8, C = UInt8.ofNat (48 + n) := ⟨_, rfl⟩
      have hC : (C.toNat : Int) = 48 + n := by rw [eC, UInt8.toNat_ofNat_of_lt' (by show 48 + n < 256; omega)]; omega
      have hcv := conv_byte C w
      rw [hC] at hcv
      have HD : Hid (bs [C] = bs (Lib.decDigits n)) := Lib.hid (by rw [Lib.decDigits, dif_pos h, eC])
      clear eC hC
      have d2 : decide ((0 : Int) ≤ (n : Int)) = true := decide_eq_true i1
      go_enter Tryz.func164, Tryz.ntmps164
      go_wp2_with (fail)
      go_ret
      exact ⟨ret_str HD.out, (Below.refl _ _).alloc (Nat.le_refl _) _⟩
    · have i0 : ¬ (n : Int) < 10 := by omega
      have i1 : (0 : Int) ≤ (n : Int) := by omega
      have d1 : decide ((n : Int) < 10) = false := decide_eq_false i0
      have d2 : decide ((0 : Int) ≤ (n : Int)) = true := decide_eq_true i1
      have i2 : ¬ (n : Int) < 0 := by omega
      have IH := ih (n / 10) (by omega) (by omega)
      have hd := dec_len (n := n / 10) (by omega)
      obtain ⟨D, eD⟩ : ∃ D, D = bs (Lib.decDigits (n / 10)) := ⟨_, rfl⟩
      have hD : D.size ≤ 19 := by rw [eD, bs_size]; exact hd
      rw [← eD] at IH
      have IHH := Lib.hid IH
      obtain ⟨q, eq⟩ : ∃ q, q = n / 10 := ⟨_, rfl⟩
      obtain ⟨r, er⟩ : ∃ r, r = n % 10 := ⟨_, rfl⟩
      obtain ⟨C, eC⟩ : ∃ C : UInt8, C = UInt8.ofNat (48 + r) := ⟨_, rfl⟩
      have hC : (C.toNat : Int) = 48 + r := by rw [eC, UInt8.toNat_ofNat_of_lt' (by show 48 + r < 256; omega)]; omega
      have hcv := conv_byte C
      have HD : Hid (D ++ bs [C] = bs (Lib.decDigits n)) := Lib.hid (by rw [eD, bs_append]; conv => rhs; rw [Lib.decDigits, dif_neg h, ← er, ← eC])
      have r1 : (n : Int).tdiv 10 = (q : Int) := by rw [Int.tdiv_eq_ediv_of_nonneg (by omega)]; omega
      have r1' : (n : Int) / 10 = (q : Int) := by omega
      have r2 : (n : Int).tmod 10 = (r : Int) := by rw [Int.tmod_eq_emod_of_nonneg (by omega)]; omega
      have r2' : (n : Int) % 10 = (r : Int) := by omega
      have hr : (r : Int) < 10 := by omega
      have r3 : IntKind.i64.wrap (48 + (r : Int)) = (C.toNat : Int) := by rw [IntWalk.i64_in _ (by omega)]; omega
      have r4 : IntKind.u8.wrap (C.toNat : Int) = (C.toNat : Int) := by rw [IntKind.wrap_u8']; omega
      have r5 : (48 + (r : Int)) = (C.toNat : Int) := by omega
      have hl : D.size + (bs [C]).size ≤ 9223372036854775807 := by rw [bs_size]; simp; omega
      rw [← eq] at IHH
      have w1 : IntKind.i64.wrap (q : Int) = (q : Int) := IntWalk.i64_in _ (by omega)
      have w2 : IntKind.i64.wrap (C.toNat : Int) = (C.toNat : Int) := IntWalk.i64_in _ (by omega)
      have hcw := conv_byte_at C
      have hcd : ∀ w : World, (convert 71 9 (.slice (some ⟨w.heap.size, 0, none⟩) 1 1)).run Tryz.prog (w.alloc (.cells #[.int .u8 C.toNat] 5)).drew = .ok (.string (bs [C])) (w.alloc (.cells #[.int .u8 C.toNat] 5)).drew := fun w => conv_byte_at C _ _ (heap_alloc_new w _)
      clear eC hC eD hd eq er IH ih
      go_enter Tryz.func164, Tryz.ntmps164
      go_wp2_with (fail)
      go_region_with (go_at_call 164; ((with_reducible refine (IHH.out _).mono ?_); rintro e w1 ⟨rfl, hb1⟩); try (have hbk1 := heap_below hb1 (by simp) (heap_alloc_new _ _)))
      all_goals
        go_wp2
        go_ret
        refine ⟨ret_str HD.out, ?_⟩
        first
          | exact undrawn hb1
          | exact (undrawn hb1).alloc hb1.size _
          | exact below_behind hb1
theorem reftext_any (s : ByteArray) (hs : s.size ≤ 1000000000) (w : World) :
    Calls Tryz.prog 66 #[.string s] w fun e w' => e = .returned (.string (bs (Pk.text s.data.toList))) ∧ Below w.heap.size w w' := by
  have TE := Lib.hid (text_eq s)
  have hd := dec_len (n := s.size) (by omega)
  obtain ⟨D, eD⟩ : ∃ D, D = bs (Lib.decDigits s.size) := ⟨_, rfl⟩
  have hD : D.size ≤ 19 := by rw [eD, bs_size]; exact hd
  have IT : Hid (Calls Tryz.prog 164 #[.int .i64 s.size] w fun e w' => e = .returned (.string D) ∧ Below w.heap.size w w') := Lib.hid (by rw [eD]; exact digits_any s.size (by omega) w)
  rw [← eD] at TE
  clear eD hd
  have c1 : D.size + 1 ≤ 9223372036854775807 := by omega
  have c2 : D.size + 1 + s.size ≤ 9223372036854775807 := by omega
  have c3 : D.size + 1 + s.size + 1 ≤ 9223372036854775807 := by omega
  go_enter Tryz.func66, Tryz.ntmps66
  go_wp2_with (go_at_call 164; ((with_reducible refine (IT.out).mono ?_); rintro e w1 ⟨rfl, hb1⟩))
  go_ret
  exact ⟨ret_str TE.out, hb1⟩
end Go.Proofs.YtlndnpfjneeeeaaGreatDoor
/- PkList, what a claim needs of it (prune.py). -/
namespace Go.Proofs.YtlndnpfjneeeeaaGreatDoor
open Go.RowKit
set_option linter.unusedVariables false
set_option maxRecDepth 100000
theorem own_later {w w' : World} {B : Nat} {e : TypeId} {size : Nat} {v : Value} {n : Nat} {xs : List Value} (h : w.ownsRow B e size v n xs) (k : Below w.heap.size w w') : w'.ownsRow B e size v n xs := by
  refine ⟨h.1, ?_⟩
  rcases h.2 with h0 | ⟨g, cap, cur, hv, hg, hc, h1, h2, h3, h4⟩
  · exact .inl h0
  · exact .inr ⟨g, cap, cur, hv, hg, heap_below k (lt_heap hc) hc, h1, h2, h3, h4⟩
theorem SbAt.later {w w' : World} {B b : Nat} {l : List UInt8} (h : SbAt B b l w) (k : Below w.heap.size w w') : SbAt B b l w' := by
  rcases h with ⟨hB, v, hb, ho, hn⟩ | ⟨hB, v, hb, ho, hn⟩
  · exact .inl ⟨hB, v, heap_below k (lt_heap hb) hb, own_later ho k, hn⟩
  · exact .inr ⟨hB, v, heap_below k (lt_heap hb) hb, own_later ho k, hn⟩
section
variable {w w' : World} {B B' size n : Nat} {A : Option Addr} {xs : List Value}
theorem Reads.cell (h : Reads w B size A n xs) {j : Nat} (hj : j < n * size) : ∃ ad u, A = some ad ∧ ad.block < B ∧ xs[j]? = some u ∧ w.cell? (ad.add j) = some u := by
  have hn : 0 < n := by
    rcases Nat.eq_zero_or_pos n with h0 | h0
    · subst h0; simp at hj
    · exact h0
  obtain ⟨ad, e, hb, hc⟩ := h.2 hn
  have hl : j < xs.length := by rw [h.1]; exact hj
  exact ⟨ad, xs[j], e, hb, List.getElem?_eq_getElem hl, hc j _ (List.getElem?_eq_getElem hl)⟩
end
def Strs (w : World) (B : Nat) (A : Option Addr) (l : List ByteArray) : Prop := Reads w B 1 A l.length (l.map Value.string)
section
variable {w w' : World} {B B' : Nat} {A : Option Addr} {l : List ByteArray}
theorem Strs.below (h : Strs w B A l) (hb : Below B w w') : Strs w' B A l := Reads.below h hb
theorem Strs.at_ (h : Strs w B A l) {k : Nat} (hk : k < l.length) : ∃ ad, A = some ad ∧ ad.block < B ∧ w.cell? (ad.add k) = some (.string l[k]) := by
  obtain ⟨ad, u, h1, h2, h3, h4⟩ := Reads.cell h (j := k) (by omega)
  refine ⟨ad, h1, h2, ?_⟩
  rw [h4]
  simp [hk] at h3
  rw [← h3]
end
abbrev tl (s : ByteArray) : List UInt8 := s.data.toList
theorem text_len (s : List UInt8) : s.length ≤ (Pk.text s).length := by simp [Pk.text]; omega
theorem flat_take_succ (l : List ByteArray) (k : Nat) (h : k < l.length) : ((l.take (k + 1)).map tl).flatMap Pk.text = ((l.take k).map tl).flatMap Pk.text ++ Pk.text (tl l[k]) := by
  rw [List.take_succ_eq_append_getElem h, List.map_append, List.flatMap_append]; simp
theorem flat_take_le (l : List ByteArray) (k : Nat) (h : k < l.length) : (((l.take k).map tl).flatMap Pk.text).length + (Pk.text (tl l[k])).length ≤ ((l.map tl).flatMap Pk.text).length := by
  have : l = l.take (k + 1) ++ l.drop (k + 1) := (List.take_append_drop _ _).symm
  conv => rhs; rw [this, List.map_append, List.flatMap_append, List.length_append, flat_take_succ l k h, List.length_append]
  omega
theorem bstring_any (B b : Nat) (l : List UInt8) (w : World) (h : SbAt B b l w) (hBw : B ≤ w.heap.size) :
    Calls Tryz.prog 136 #[.pointer (some ⟨b, 0, none⟩)] w fun e w' => e = .returned (.string (bs l)) ∧ Below B w w' := Tryz.Builder_String_any B b l w h hBw
set_option maxHeartbeats 1000000 in
theorem plist_any (A : Option Addr) (l : List ByteArray) (c : Nat) (w : World) (ht : Tab w) (hr : Strs w w.heap.size A l) (hl : ((l.map tl).flatMap Pk.text).length ≤ 500000000) :
    Calls Tryz.prog 137 #[.slice A l.length c] w fun e w' => e = .returned (.string (bs (Pk.list (l.map tl)))) ∧ Below w.heap.size w w' := by
  have hn : l.length ≤ 500000000 := by
    have : ∀ l : List ByteArray, l.length ≤ ((l.map tl).flatMap Pk.text).length := by
      intro l
      induction l with
      | nil => simp
      | cons x l ih => simp [Pk.text] at ih ⊢; omega
    exact Nat.le_trans (this l) hl
  go_enter Tryz.func137, Tryz.ntmps137
  go_wp2_with (fail)
  go_loopw [8] (fun i wx => ∃ k : Nat, i = .int .i64 k ∧ k ≤ l.length ∧ SbAt w.heap.size w.heap.size (((l.take k).map tl).flatMap Pk.text) wx ∧ Below w.heap.size w wx) (fun i _ => l.length - (intOf i).toNat)
  case atStart => exact ⟨0, rfl, by omega, Lib.fresh_isBuilder _ _ w, (Below.refl _ _).alloc (Nat.le_refl _) _⟩
  case round =>
    obtain ⟨k, rfl, hk, hsb, hbx⟩ := hrel
    rename World => wx
    by_cases hlt : k < l.length
    · have hrx := hr.below hbx
      obtain ⟨ad, rfl, had, hc⟩ := hrx.at_ hlt
      have FT := Lib.hid (flat_take_succ l k hlt)
      have FL := flat_take_le l k hlt
      have TX := text_len (tl l[k])
      have hsz : l[k].size = (tl l[k]).length := Lib.size_eq _
      have TXT := Lib.hid (text_any l[k] (by omega) wx (ht.on hbx))
      generalize l[k] = s at *
      generalize ((l.take k).map tl).flatMap Pk.text = acc at *
      have hz : (bs (Pk.text (tl s))).size = (Pk.text (tl s)).length := bs_size _
      have hbl : acc.length + (bs (Pk.text (tl s))).size ≤ 140737488355328 := by omega
      have HZ := Lib.hid hz
      have HSZ := Lib.hid hsz
      clear hz hsz
      have hkI : (k : Int) < (l.length : Int) := by omega
      go_wp2_with (go_at_call 127; ((with_reducible refine (TXT.out).mono ?_); rintro e w1 ⟨rfl, hb1⟩))
      have hsb1 := hsb.later hb1
      have hbx1 := hbx.trans (hb1.mono hbx.size)
      clear hsb
      go_wp2_with (go_at_call 140; ((with_reducible refine (WriteString_any w.heap.size w.heap.size acc _ _ hsb1 hbl hbx1.size).mono ?_); rintro e w2 ⟨rfl, hsb2, hb2⟩))
      go_roundw
      case rel => exact ⟨k + 1, by go_num, by omega, by rw [FT.out]; exact hsb2, hbx1.trans hb2⟩
      case measure => simp [intOf]; omega
    · obtain rfl : k = l.length := by omega
      rw [List.take_length] at hsb
      have LD : Hid (Pk.text ((l.map tl).flatMap Pk.text) = Pk.list (l.map tl)) := Lib.hid rfl
      generalize (l.map tl).flatMap Pk.text = acc at *
      have hz : (bs acc).size = acc.length := bs_size _
      have TXT : Hid (∀ W, Tab W → Calls Tryz.prog 127 #[.string (bs acc)] W fun e w' => e = .returned (.string (bs (Pk.text acc))) ∧ Below W.heap.size W w') := Lib.hid (fun W hW => text_any (bs acc) (by omega) W hW)
      clear hz
      have hB := hbx.size
      go_wp2_with (go_at_call 136; ((with_reducible refine (bstring_any w.heap.size w.heap.size acc _ hsb hB).mono ?_); rintro e w1 ⟨rfl, hb1⟩))
      have hbx1 := hbx.trans hb1
      have ht1 := ht.on hbx1
      go_wp2_with (go_at_call 127; ((with_reducible refine (TXT.out _ ht1).mono ?_); rintro e w2 ⟨rfl, hb2⟩))
      go_ret
      exact ⟨ret_str (by rw [LD.out]), hbx1.trans (hb2.mono hbx1.size)⟩
set_option maxHeartbeats 1000000 in
theorem reflist_any (A : Option Addr) (l : List ByteArray) (c : Nat) (w : World) (hr : Strs w w.heap.size A l) (hl : ((l.map tl).flatMap Pk.text).length ≤ 500000000) :
    Calls Tryz.prog 171 #[.slice A l.length c] w fun e w' => e = .returned (.string (bs (Pk.list (l.map tl)))) ∧ Below w.heap.size w w' := by
  have hn : l.length ≤ 500000000 := by
    have : ∀ l : List ByteArray, l.length ≤ ((l.map tl).flatMap Pk.text).length := by
      intro l
      induction l with
      | nil => simp
      | cons x l ih => simp [Pk.text] at ih ⊢; omega
    exact Nat.le_trans (this l) hl
  go_enter Tryz.func171, Tryz.ntmps171
  go_wp2_with (fail)
  go_loopw [3, 4] (fun v i wx => ∃ k : Nat, i = .int .i64 k ∧ k ≤ l.length ∧ wx.ownsRow w.heap.size 5 1 v (((l.take k).map tl).flatMap Pk.text).length (Lib.byteCells (((l.take k).map tl).flatMap Pk.text)) ∧ Below w.heap.size w wx) (fun _ i _ => l.length - (intOf i).toNat)
  case atStart => exact ⟨0, rfl, by omega, by simpa [Lib.byteCells] using World.ownsRow_nil _ _ _ _, Below.refl _ _⟩
  case round =>
    obtain ⟨k, rfl, hk, hown, hbx⟩ := hrel
    rename World => wx
    by_cases hlt : k < l.length
    · have hrx := hr.below hbx
      obtain ⟨ad, rfl, had, hc⟩ := hrx.at_ hlt
      have FT := Lib.hid (flat_take_succ l k hlt)
      have FL := flat_take_le l k hlt
      have TX := text_len (tl l[k])
      have hsz : l[k].size = (tl l[k]).length := Lib.size_eq _
      have TXT := Lib.hid (reftext_any l[k] (by omega) wx)
      generalize l[k] = s at *
      generalize ((l.take k).map tl).flatMap Pk.text = acc at *
      obtain ⟨S, eS⟩ : ∃ S, S = bs (Pk.text (tl s)) := ⟨_, rfl⟩
      have hz : S.size = (Pk.text (tl s)).length := by rw [eS]; exact bs_size _
      have hS : Hid (tl S = Pk.text (tl s)) := Lib.hid (by rw [eS]; rfl)
      rw [← eS] at TXT
      have hbl : acc.length + S.size ≤ 140737488355328 := by omega
      have HZ := Lib.hid hz
      clear hz hsz eS
      have hkI : (k : Int) < (l.length : Int) := by omega
      go_wp2_with (first | (go_at_call 66; ((with_reducible refine (TXT.out).mono ?_); rintro e w1 ⟨rfl, hb1⟩; have hown1 := own_later hown hb1; have hbx1 := hbx.trans (hb1.mono hbx.size); have hB := hbx1.size; clear hown)) | (at_builtin; refine append_text rfl (.tmp 11) (.tmp 16) 71 9 rfl w.heap.size 5 Tryz.underlying71 Tryz.underlying9 (by kernel_rfl) _ acc.length acc rfl hown1 S rfl hbl hB hbx1 ?_; intro v' w2 hown2 hb2 _))
      go_roundw
      case rel =>
        refine ⟨k + 1, by go_num, by omega, ?_, hb2⟩
        rw [FT.out, List.length_append, ← hS.out]
        rw [show (tl S).length = S.size from (Lib.size_eq _).symm]
        exact hown2
      case measure => simp [intOf]; omega
    · obtain rfl : k = l.length := by omega
      rw [List.take_length] at hown
      have LD : Hid (Pk.text ((l.map tl).flatMap Pk.text) = Pk.list (l.map tl)) := Lib.hid rfl
      generalize (l.map tl).flatMap Pk.text = acc at *
      have hz : (bs acc).size = acc.length := bs_size _
      have hcv : (convert 71 9 _).run Tryz.prog _ = .ok (.string (bs acc)) _ := conv_own (P := Tryz.prog) Tryz.underlying71 Tryz.underlying5 Tryz.underlying9 hown
      have TXT : Hid (∀ W, Calls Tryz.prog 66 #[.string (bs acc)] W fun e w' => e = .returned (.string (bs (Pk.text acc))) ∧ Below W.heap.size W w') := Lib.hid (fun W => reftext_any (bs acc) (by omega) W)
      clear hz hown
      go_wp2_with (go_at_call 66; ((with_reducible refine (TXT.out _).mono ?_); rintro e w2 ⟨rfl, hb2⟩))
      go_ret
      exact ⟨ret_str (by rw [LD.out]), hbx.trans (hb2.mono hbx.size)⟩
end Go.Proofs.YtlndnpfjneeeeaaGreatDoor
/- PkNext, what a claim needs of it (prune.py). -/
namespace Go.Proofs.YtlndnpfjneeeeaaGreatDoor
open Go.RowKit
set_option linter.unusedVariables false
set_option maxRecDepth 100000
def lenV : Nat ⊕ (Nat × List UInt8) → Value
  | .inl c => .tuple #[.int .i64 0, .string ⟨#[]⟩, .int .i64 c]
  | .inr (n, r) => .tuple #[.int .i64 n, .string (bs r), .int .i64 0]
theorem kd_le (s : List UInt8) : Pk.kd s ≤ s.length ∧ Pk.kd s ≤ 7 := by
  have := (List.takeWhile_prefix (p := Pk.isDig) (l := s.take 7)).length_le
  unfold Pk.kd
  simp at this ⊢
  omega
theorem takeWhile_at {p : UInt8 → Bool} : ∀ (l : List UInt8) (j : Nat), j < (l.takeWhile p).length → ∃ c, l[j]? = some c ∧ p c = true
  | [], j, h => by simp at h
  | a :: l, j, h => by
    rw [List.takeWhile_cons] at h
    by_cases ha : p a = true
    · rw [if_pos ha] at h
      cases j with
      | zero => exact ⟨a, rfl, ha⟩
      | succ j => exact takeWhile_at l j (by simpa using h)
    · rw [if_neg ha] at h; simp at h
theorem takeWhile_end {p : UInt8 → Bool} : ∀ (l : List UInt8) (c : UInt8), l[(l.takeWhile p).length]? = some c → p c = false
  | [], c, h => by simp at h
  | a :: l, c, h => by
    rw [List.takeWhile_cons] at h
    by_cases ha : p a = true
    · rw [if_pos ha] at h
      exact takeWhile_end l c (by simpa using h)
    · rw [if_neg ha] at h
      simp at h
      subst h
      simpa using ha
theorem kd_dig {s : List UInt8} {j : Nat} (h : j < Pk.kd s) : ∃ c, s[j]? = some c ∧ 48 ≤ c.toNat ∧ c.toNat ≤ 57 := by
  obtain ⟨c, hc, hp⟩ := takeWhile_at (s.take 7) j h
  rw [List.getElem?_take] at hc
  split at hc
  · exact ⟨c, hc, by simpa [Pk.isDig] using hp⟩
  · cases hc
theorem kd_end {s : List UInt8} (h : Pk.kd s < s.length) : Pk.kd s = 7 ∨ ∃ c, s[Pk.kd s]? = some c ∧ ¬ (48 ≤ c.toNat ∧ c.toNat ≤ 57) := by
  have h7 := (kd_le s).2
  rcases Nat.lt_or_ge (Pk.kd s) 7 with h1 | h1
  · refine .inr ⟨s[Pk.kd s], List.getElem?_eq_getElem h, ?_⟩
    have := takeWhile_end (p := Pk.isDig) (s.take 7) s[Pk.kd s] (by
      rw [List.getElem?_take, if_pos (by unfold Pk.kd at h1; exact h1)]
      exact List.getElem?_eq_getElem h)
    simpa [Pk.isDig] using this
  · exact .inl (by omega)
theorem decFrom_digs : ∀ (l : List UInt8) (acc : Nat), (∀ c ∈ l, 48 ≤ c.toNat ∧ c.toNat ≤ 57) → Lib.decFrom acc l = some (l.foldl (fun n c => 10 * n + (c.toNat - 48)) acc)
  | [], acc, _ => rfl
  | a :: l, acc, h => by
    have ha := h a (List.mem_cons_self ..)
    have h1 : Lib.digitVal a = some (a.toNat - 48) := by simp [Lib.digitVal, ha]
    simp only [Lib.decFrom, h1, List.foldl_cons]
    rw [show acc * 10 + (a.toNat - 48) = 10 * acc + (a.toNat - 48) by omega]
    exact decFrom_digs l _ (fun c hc => h c (List.mem_cons_of_mem _ hc))
theorem atoi_digs (l : List UInt8) (h0 : l ≠ []) (h : ∀ c ∈ l, 48 ≤ c.toNat ∧ c.toNat ≤ 57) : Lib.atoi l = some (Pk.dval l : Int) := by
  cases l with
  | nil => exact absurd rfl h0
  | cons a l =>
    have ha := h a (List.mem_cons_self ..)
    have n1 : (a == 45) = false := by simp; intro e; subst e; simp at ha
    have n2 : (a == 43) = false := by simp; intro e; subst e; simp at ha
    simp only [Lib.atoi, n1, n2, Bool.false_eq_true, if_false, Lib.decNat, decFrom_digs _ _ h]
    rfl
theorem ret_val {a b : Value} (h : b = a) : Ending.returned a = .returned b := by rw [h]
theorem dval_go : ∀ (l : List UInt8) (a : Nat), (∀ c ∈ l, 48 ≤ c.toNat ∧ c.toNat ≤ 57) → l.foldl (fun n c => 10 * n + (c.toNat - 48)) a < (a + 1) * 10 ^ l.length
  | [], a, _ => by simp
  | x :: l, a, h => by
    have hx := h x (List.mem_cons_self ..)
    have := dval_go l (10 * a + (x.toNat - 48)) (fun c hc => h c (List.mem_cons_of_mem _ hc))
    simp only [List.foldl_cons, List.length_cons]
    refine Nat.lt_of_lt_of_le this ?_
    rw [Nat.pow_succ, Nat.mul_comm (10 ^ l.length) 10, ← Nat.mul_assoc]
    exact Nat.mul_le_mul_right _ (by omega)
theorem dval_lt (l : List UInt8) (h : ∀ c ∈ l, 48 ≤ c.toNat ∧ c.toNat ≤ 57) (h7 : l.length ≤ 7) : Pk.dval l < 100000000 := by
  have h1 := dval_go l 0 h
  have h2 : 10 ^ l.length ≤ 10 ^ 7 := Nat.pow_le_pow_right (by omega) h7
  unfold Pk.dval
  omega
theorem byte_at {s : ByteArray} {k : Nat} {c : UInt8} (h : (tl s)[k]? = some c) : ∃ hk : k < s.size, s[k]'hk = c := by
  obtain ⟨h1, h2⟩ := List.getElem?_eq_some_iff.1 h
  exact ⟨by rw [Lib.size_eq]; exact h1, h2⟩
theorem getD_byte {s : ByteArray} {k : Nat} (hk : k < s.size) : (tl s).getD k 0 = s[k]'hk := by
  rw [List.getD_eq_getElem?_getD, List.getElem?_eq_getElem (by rw [← Lib.size_eq]; exact hk)]
  rfl
theorem length_end {s : ByteArray} (h : Pk.kd (tl s) < s.size) : Pk.kd (tl s) = 7 ∨ (Pk.kd (tl s) < 7 ∧ (s[Pk.kd (tl s)]'h).toNat < 48) ∨ (Pk.kd (tl s) < 7 ∧ 57 < (s[Pk.kd (tl s)]'h).toNat) := by
  have h7 := (kd_le (tl s)).2
  rcases Nat.lt_or_ge (Pk.kd (tl s)) 7 with hl | hl
  · rcases kd_end (s := tl s) (by rw [← Lib.size_eq]; exact h) with h1 | ⟨c, h1, h2⟩
    · exact .inl h1
    · obtain ⟨_, h3⟩ := byte_at h1
      rw [h3]
      omega
  · exact .inl (by omega)
set_option maxHeartbeats 4000000 in
theorem length_any (s : ByteArray) (hs : s.size ≤ 1000000000) (w : World) :
    Calls Tryz.prog 257 #[.string s] w fun e w' => e = .returned (lenV (Pk.len (tl s))) ∧ Below w.heap.size w w' := by
  have hsz : (tl s).length = s.size := (Lib.size_eq s).symm
  have hK := kd_le (tl s)
  have DG : Hid (∀ j, j < Pk.kd (tl s) → ∃ hk : j < s.size, 48 ≤ (s[j]'hk).toNat ∧ (s[j]'hk).toNat ≤ 57) := Lib.hid (fun j hj => by
    obtain ⟨c, h1, h2, h3⟩ := kd_dig hj
    obtain ⟨hk, e⟩ := byte_at h1
    exact ⟨hk, by rw [e]; exact h2, by rw [e]; exact h3⟩)
  have EN := Lib.hid (length_end (s := s))
  have LN : Hid (∀ V, lenV (Pk.len (tl s)) = V → lenV (Pk.len (tl s)) = V) := Lib.hid (fun _ h => h)
  obtain ⟨K, eK⟩ : ∃ K, K = Pk.kd (tl s) := ⟨_, rfl⟩
  have EK := Lib.hid eK
  rw [← eK] at hK DG EN
  have HSZ := Lib.hid hsz
  have hK1 : K ≤ s.size := by omega
  have hK7 : K ≤ 7 := hK.2
  clear hK eK hsz
  go_enter Tryz.func257, Tryz.ntmps257
  go_wp2_with (fail)
  go_loop [5] (fun i => ∃ k : Nat, i = .int .i64 k ∧ k ≤ K) (fun i => K - (intOf i).toNat)
  case atStart => exact ⟨0, rfl, by omega⟩
  case round =>
    obtain ⟨k, rfl, hk⟩ := hrel
    by_cases hlt : k < K
    · obtain ⟨hks, d1, d2⟩ := DG.out k hlt
      have e1 : (k : Int) < (s.size : Int) := by omega
      have e2 : (k : Int) < 7 := by omega
      have e3 : (48 : Int) ≤ (s[k].toNat : Int) := by omega
      have e4 : (s[k].toNat : Int) ≤ 57 := by omega
      go_wp2_with (fail)
      go_round
      case rel => exact ⟨k + 1, by go_num, by omega⟩
      case measure => simp [intOf]; omega
    · obtain rfl : k = K := by omega
      have DD : Hid (∀ c ∈ (tl s).take k, 48 ≤ c.toNat ∧ c.toNat ≤ 57) := Lib.hid (fun c hc => by
        obtain ⟨j, hj, rfl⟩ := List.mem_iff_getElem.1 hc
        rw [List.length_take] at hj
        obtain ⟨hk, h1, h2⟩ := DG.out j (by omega)
        rw [List.getElem_take]
        exact ⟨h1, h2⟩)
      clear DG hlt hk
      rcases Nat.lt_or_ge k s.size with hks | hks
      · have e1 : (k : Int) < (s.size : Int) := by omega
        have n1 : ((k : Int) == (s.size : Int)) = false := by simp; omega
        have hend := EN.out hks
        have OUT : Hid ((s[k].toNat ≠ 58 ∨ k = 0 ∨ (1 < k ∧ (tl s).getD 0 0 = 48)) ∧ lenV (Pk.len (tl s)) = .tuple #[.int .i64 0, .string ⟨#[]⟩, .int .i64 11] ∨ ¬ (s[k].toNat ≠ 58 ∨ k = 0 ∨ (1 < k ∧ (tl s).getD 0 0 = 48)) ∧ lenV (Pk.len (tl s)) = .tuple #[.int .i64 (Pk.dval ((tl s).take k)), .string (bs ((tl s).drop (k + 1))), .int .i64 0]) := Lib.hid (by
          have hg : (tl s).getD k 0 = s[k] := getD_byte hks
          unfold Pk.len
          rw [← EK.out]
          simp only
          rw [if_neg (by rw [HSZ.out]; omega), hg]
          have hn : (s[k] ≠ 58) ↔ (s[k].toNat ≠ 58) := by rw [ne_eq, ne_eq, ← UInt8.toNat_inj]; rfl
          by_cases hc : s[k].toNat ≠ 58 ∨ k = 0 ∨ (1 < k ∧ (tl s).getD 0 0 = 48)
          · exact .inl ⟨hc, by rw [if_pos (by rw [hn]; exact hc)]; rfl⟩
          · exact .inr ⟨hc, by rw [if_neg (by rw [hn]; exact hc)]; rfl⟩)
        clear EK LN
        have AT : Hid (0 < k → ∀ W, Calls Tryz.prog 294 #[.string (s.extract 0 k)] W fun e w' => e = .returned (.tuple #[.int .i64 (Pk.dval ((tl s).take k)), .nilIface]) ∧ Below W.heap.size W w') := Lib.hid (fun h0 W => by
          have hx : (s.extract 0 k).data.toList = (tl s).take k := by rw [Lib.extract_data]; simp
          have hz : (s.extract 0 k).size = k := by rw [ByteArray.size_extract]; omega
          refine (Tryz.strconv_Atoi (s.extract 0 k) _ (by omega) (by rw [hx]; exact atoi_digs _ (by intro h; have := congrArg List.length h; rw [List.length_take] at this; simp only [List.length_nil] at this; have := HSZ.out; omega) DD.out) W).mono ?_
          rintro e w' ⟨h1, t, h2⟩
          exact ⟨h1, by rw [h2]; exact Lib.bytesWorld_below _ _ _⟩)
        have HV2 : Hid (lenV (Pk.len (tl s)) = .tuple #[.int .i64 (Pk.dval ((tl s).take k)), .string (bs ((tl s).drop (k + 1))), .int .i64 0] → lenV (Pk.len (tl s)) = .tuple #[.int .i64 (Pk.dval ((tl s).take k)), .string (s.extract (k + 1) s.size), .int .i64 0]) := Lib.hid (fun h => by
          rw [h, show bs ((tl s).drop (k + 1)) = s.extract (k + 1) s.size by rw [← bs_of (s.extract (k + 1) s.size), Lib.extract_to_end]])
        have hdv : Pk.dval ((tl s).take k) < 100000000 := dval_lt _ DD.out (by rw [List.length_take]; omega)
        clear EN DD
        generalize Pk.dval ((tl s).take k) = nv at *
        rcases hend with h7 | ⟨hl7, h8⟩ | ⟨hl7, h9⟩
        · have e2 : ¬ (k : Int) < 7 := by omega
          have h7' : 7 ≤ k := by omega
          clear h7
          by_cases g58 : s[k].toNat = 58
          · have a5 : (s[k].toNat : Int) = 58 := by omega
            have a6 : ((k : Int) == 0) = false := by simp; omega
            by_cases g1 : 1 < k
            · have s0 : 0 < s.size := by omega
              have a9 : (1 : Int) < (k : Int) := by omega
              by_cases gz : s[0].toNat = 48
              · have hV := OUT.out.resolve_right (fun h => h.1 (.inr (.inr ⟨g1, by rw [getD_byte s0]; exact UInt8.toNat_inj.1 gz⟩))) |>.2
                have a10 : ((s[0].toNat : Int) == 48) = true := by simp; omega
                have HV := Lib.hid hV
                clear OUT AT HV2 hV
                try clear g58
                try clear g0
                try clear gz
                go_wp2_with (fail)
                go_ret3
                exact ⟨ret_val HV.out, Below.refl _ _⟩
              · have HW := Lib.hid <| HV2.out (OUT.out.resolve_left (fun h => by
                  rcases h.1 with h | h | h
                  · exact h g58
                  · omega
                  · rw [getD_byte s0] at h; exact gz (by rw [h.2]; rfl))).2
                have a10 : ((s[0].toNat : Int) == 48) = false := by simp; omega
                have a7 : (k : Int) ≤ (s.size : Int) := by omega
                have a8 : (k : Int) + 1 ≤ (s.size : Int) := by omega
                have AT1 := Lib.hid (AT.out (by omega))
                clear OUT AT HV2
                try clear g58
                try clear gz
                go_wp2_with (go_at_call 294; ((with_reducible refine (AT1.out _).mono ?_); rintro e w1 ⟨rfl, hb1⟩))
                go_quiet (fail)
                go_wp2
                go_ret3
                exact ⟨ret_val HW.out, hb1.trans (belowDN (Below.refl _ _) _)⟩
            · omega
          · have hV := OUT.out.resolve_right (fun h => h.1 (.inl g58)) |>.2
            have a5 : (s[k].toNat : Int) ≠ 58 := by omega
            have HV := Lib.hid hV
            clear OUT AT HV2 hV
            try clear g58
            try clear g0
            try clear gz
            go_wp2_with (fail)
            go_ret3
            exact ⟨ret_val HV.out, Below.refl _ _⟩
        · have e2 : (k : Int) < 7 := by omega
          have e3 : ¬ (48 : Int) ≤ (s[k].toNat : Int) := by omega
          by_cases g58 : s[k].toNat = 58
          · omega
          · have hV := OUT.out.resolve_right (fun h => h.1 (.inl g58)) |>.2
            have a5 : (s[k].toNat : Int) ≠ 58 := by omega
            have HV := Lib.hid hV
            clear OUT AT HV2 hV
            try clear g58
            try clear g0
            try clear gz
            go_wp2_with (fail)
            go_ret3
            exact ⟨ret_val HV.out, Below.refl _ _⟩
        · have e2 : (k : Int) < 7 := by omega
          have e3 : ¬ (s[k].toNat : Int) ≤ 57 := by omega
          have e4 : (48 : Int) ≤ (s[k].toNat : Int) := by omega
          by_cases g58 : s[k].toNat = 58
          · have a5 : (s[k].toNat : Int) = 58 := by omega
            by_cases g0 : k = 0
            · have hV := OUT.out.resolve_right (fun h => h.1 (.inr (.inl g0))) |>.2
              have a6 : ((k : Int) == 0) = true := by simp; omega
              have HV := Lib.hid hV
              clear OUT AT HV2 hV
              try clear g58
              try clear g0
              try clear gz
              go_wp2_with (fail)
              go_ret3
              exact ⟨ret_val HV.out, Below.refl _ _⟩
            · have a6 : ((k : Int) == 0) = false := by simp; omega
              by_cases g1 : 1 < k
              · have s0 : 0 < s.size := by omega
                have a9 : (1 : Int) < (k : Int) := by omega
                by_cases gz : s[0].toNat = 48
                · have hV := OUT.out.resolve_right (fun h => h.1 (.inr (.inr ⟨g1, by rw [getD_byte s0]; exact UInt8.toNat_inj.1 gz⟩))) |>.2
                  have a10 : ((s[0].toNat : Int) == 48) = true := by simp; omega
                  have HV := Lib.hid hV
                  clear OUT AT HV2 hV
                  try clear g58
                  try clear g0
                  try clear gz
                  go_wp2_with (fail)
                  go_ret3
                  exact ⟨ret_val HV.out, Below.refl _ _⟩
                · have HW := Lib.hid <| HV2.out (OUT.out.resolve_left (fun h => by
                    rcases h.1 with h | h | h
                    · exact h g58
                    · omega
                    · rw [getD_byte s0] at h; exact gz (by rw [h.2]; rfl))).2
                  have a10 : ((s[0].toNat : Int) == 48) = false := by simp; omega
                  have a7 : (k : Int) ≤ (s.size : Int) := by omega
                  have a8 : (k : Int) + 1 ≤ (s.size : Int) := by omega
                  have AT1 := Lib.hid (AT.out (by omega))
                  clear OUT AT HV2
                  try clear g58
                  try clear gz
                  go_wp2_with (go_at_call 294; ((with_reducible refine (AT1.out _).mono ?_); rintro e w1 ⟨rfl, hb1⟩))
                  go_quiet (fail)
                  go_wp2
                  go_ret3
                  exact ⟨ret_val HW.out, hb1.trans (belowDN (Below.refl _ _) _)⟩
              · have HW := Lib.hid <| HV2.out (OUT.out.resolve_left (fun h => by
                  rcases h.1 with h | h | h
                  · exact h g58
                  · omega
                  · omega)).2
                have a9 : ¬ (1 : Int) < (k : Int) := by omega
                have a7 : (k : Int) ≤ (s.size : Int) := by omega
                have a8 : (k : Int) + 1 ≤ (s.size : Int) := by omega
                have AT1 := Lib.hid (AT.out (by omega))
                clear OUT AT HV2
                try clear g58
                try clear gz
                go_wp2_with (go_at_call 294; ((with_reducible refine (AT1.out _).mono ?_); rintro e w1 ⟨rfl, hb1⟩))
                go_quiet (fail)
                go_wp2
                go_ret3
                exact ⟨ret_val HW.out, hb1.trans (belowDN (Below.refl _ _) _)⟩
          · have hV := OUT.out.resolve_right (fun h => h.1 (.inl g58)) |>.2
            have a5 : (s[k].toNat : Int) ≠ 58 := by omega
            have HV := Lib.hid hV
            clear OUT AT HV2 hV
            try clear g58
            try clear g0
            try clear gz
            go_wp2_with (fail)
            go_ret3
            exact ⟨ret_val HV.out, Below.refl _ _⟩
      · obtain rfl : k = s.size := by omega
        have hV : lenV (Pk.len (tl s)) = .tuple #[.int .i64 0, .string ⟨#[]⟩, .int .i64 10] := by
          unfold Pk.len
          rw [← EK.out]
          simp only
          rw [if_pos HSZ.out.symm]
          rfl
        have HV := Lib.hid hV
        clear hV
        clear EK LN EN
        go_wp2_with (fail)
        go_ret3
        exact ⟨ret_val HV.out, Below.refl _ _⟩
end Go.Proofs.YtlndnpfjneeeeaaGreatDoor
