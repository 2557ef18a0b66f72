/- Joined by mkmerged.py: LgRow, LgDigits, LgSw, LgText. -/
import Derived.Test.YtdidnlkilleljaaGreatDoorMg03
import Derived.Test.YtdidnlkilleljaaGreatDoorMg04
import Derived.Test.YtdidnlkilleljaaGreatDoorMgKt
import Derived.Test.YtdidnlkilleljaaGreatDoorMg01
/- LgRow, what a claim needs of it (prune.py). -/
namespace Go.Proofs.YtdidnlkilleljaaGreatDoor.Lg
open Go.RowKit
set_option linter.unusedVariables false
structure BelowX (B x : Nat) (w w' : World) : Prop where
  os : w'.os = w.os
  tape : w'.tape = w.tape
  output : w'.output = w.output
  size : w.heap.size ≤ w'.heap.size
  block : ∀ k, k < B → k ≠ x → w'.heap[k]? = w.heap[k]?
theorem BelowX.of {B x : Nat} {w w' : World} (h : Below B w w') : BelowX B x w w' := ⟨h.os, h.tape, h.output, h.size, fun k hk _ => h.block k hk⟩
theorem BelowX.refl (B x : Nat) (w : World) : BelowX B x w w := .of (Below.refl B w)
theorem BelowX.trans {B x : Nat} {a b c : World} (h : BelowX B x a b) (k : BelowX B x b c) : BelowX B x a c :=
  ⟨k.os.trans h.os, k.tape.trans h.tape, k.output.trans h.output, Nat.le_trans h.size k.size, fun i hi hx => (k.block i hi hx).trans (h.block i hi hx)⟩
theorem BelowX.mono {B B' x : Nat} {w w' : World} (h : BelowX B x w w') (hB : B' ≤ B) : BelowX B' x w w' := ⟨h.os, h.tape, h.output, h.size, fun k hk hx => h.block k (by omega) hx⟩
theorem BelowX.below {B B' x : Nat} {w w' : World} (h : BelowX B x w w') (hB : B' ≤ B) (hx : B' ≤ x) : Below B' w w' := ⟨h.os, h.tape, h.output, h.size, fun k hk => h.block k (by omega) (by omega)⟩
theorem BelowX.drew {B x : Nat} {a w : World} (h : BelowX B x a w) : BelowX B x a w.drew := ⟨h.os, h.tape, h.output, h.size, h.block⟩
theorem BelowX.drewN {B x : Nat} {a w : World} (h : BelowX B x a w) (n : Nat) : BelowX B x a (w.drewN n) := ⟨h.os, h.tape, h.output, h.size, h.block⟩
theorem BelowX.alloc {B x : Nat} {a w : World} (h : BelowX B x a w) (hB : B ≤ w.heap.size) (o : Obj) : BelowX B x a (w.alloc o) := h.trans (.of ((Below.refl _ _).alloc hB o))
theorem BelowX.setCell {B x : Nat} {a w : World} (h : BelowX B x a w) {p : Addr} (hp : B ≤ p.block) (u : Value) : BelowX B x a (w.setCell p u) := h.trans (.of ((Below.refl _ _).setCell hp u))
theorem BelowX.setX {B x : Nat} {a w : World} (h : BelowX B x a w) {p : Addr} (hp : p.block = x) (u : Value) : BelowX B x a (w.setCell p u) :=
  h.trans ⟨rfl, rfl, rfl, by simp [World.setCell], fun k hk hx => Below.heap_setCell _ _ _ _ (by omega)⟩
theorem BelowX.grown {B x : Nat} {a w w' : World} {row : Option Nat} (h : BelowX B x a w) (hg : w.grownBy w' row) (hB : B ≤ w.heap.size) (hr : ∀ k, row = some k → B ≤ k ∨ k = x) : BelowX B x a w' :=
  h.trans ⟨hg.os, hg.tape, hg.output, hg.size, fun k hk hx => hg.block k (by omega) (fun e => by rcases hr k e.symm with h | h <;> omega)⟩
theorem BelowX.cell {B x : Nat} {w w' : World} (h : BelowX B x w w') {p : Addr} (hp : p.block < B) (hx : p.block ≠ x) : w'.cell? p = w.cell? p := World.cell?_of_block (w := w) (h.block p.block hp hx)
def Lies (w : World) (ok : Nat → Prop) (size : Nat) (A : Option Addr) (n : Nat) (xs : List Value) : Prop :=
  xs.length = n * size ∧ (0 < n → ∃ ad, A = some ad ∧ ok ad.block ∧ ∀ j u, xs[j]? = some u → w.cell? (ad.add j) = some u)
theorem Lies.none_ {w : World} {ok : Nat → Prop} {size : Nat} {A : Option Addr} : Lies w ok size A 0 [] := ⟨by simp, fun h => absurd h (by omega)⟩
theorem Lies.mono {w w' : World} {ok ok' : Nat → Prop} {size n : Nat} {A : Option Addr} {xs : List Value} (h : Lies w ok size A n xs) (hs : 0 < size)
    (hk : ∀ b, ok b → b < w.heap.size → ok' b ∧ w'.heap[b]? = w.heap[b]?) : Lies w' ok' size A n xs := by
  refine ⟨h.1, fun hn => ?_⟩
  obtain ⟨ad, rfl, ho, hc⟩ := h.2 hn
  have hl : 0 < xs.length := by rw [h.1]; exact Nat.mul_pos hn hs
  have hb : ad.block < w.heap.size := by
    have := hc 0 _ (List.getElem?_eq_getElem hl)
    have h2 : (ad.add 0).block < w.heap.size := by
      unfold World.cell? at this
      rcases Nat.lt_or_ge (ad.add 0).block w.heap.size with h1 | h1
      · exact h1
      · rw [Array.getElem?_eq_none h1] at this; cases this
    rwa [block_of_add] at h2
  obtain ⟨h1, h2⟩ := hk _ ho hb
  refine ⟨ad, rfl, h1, fun j u hu => ?_⟩
  rw [World.cell?_of_block (w := w) (by rw [block_of_add]; exact h2)]
  exact hc j u hu
theorem Lies.reads {w : World} {ok : Nat → Prop} {size n : Nat} {A : Option Addr} {xs : List Value} (h : Lies w ok size A n xs) (hs : 0 < size) : Reads w w.heap.size size A n xs := by
  have h2 := Lies.mono (w' := w) (ok' := fun b => b < w.heap.size) h hs (fun b _ hb => ⟨hb, rfl⟩)
  exact h2
theorem Lies.of_reads {w : World} {B size n : Nat} {A : Option Addr} {xs : List Value} (h : Reads w B size A n xs) : Lies w (fun b => b < B) size A n xs := h
abbrev strV (l : List B) : List Value := l.map fun s => .string (bs s)
theorem strV_map (l : List B) : strV l = (l.map bs).map Value.string := by simp [strV]
inductive RowAt (w : World) (ok : Nat → Prop) : List Value → List Stp → Prop
  | nil : RowAt w ok [] []
  | cons {op n : Int} {args : List B} {block rest : List Stp} {A B : Option Addr} {k c kb cb : Nat} {bcells cells : List Value} :
      k = args.length → k ≤ c → Lies w ok 1 A k (strV args) → kb = block.length → kb ≤ cb → Lies w ok 4 B kb bcells → RowAt w ok bcells block → RowAt w ok cells rest →
      RowAt w ok (.int .i64 op :: .slice A k c :: .int .i64 n :: .slice B kb cb :: cells) (⟨op, args, n, block⟩ :: rest)
theorem RowAt.mono {w w' : World} {ok ok' : Nat → Prop} {cells : List Value} {l : List Stp} (h : RowAt w ok cells l) (hk : ∀ b, ok b → b < w.heap.size → ok' b ∧ w'.heap[b]? = w.heap[b]?) : RowAt w' ok' cells l := by
  induction h with
  | nil => exact .nil
  | cons h1 h2 h3 h4 h5 h6 _ _ ih1 ih2 => exact .cons h1 h2 (h3.mono (by omega) hk) h4 h5 (h6.mono (by omega) hk) ih1 ih2
theorem RowAt.append {w : World} {ok : Nat → Prop} {c1 c2 : List Value} {l1 l2 : List Stp} (h1 : RowAt w ok c1 l1) (h2 : RowAt w ok c2 l2) : RowAt w ok (c1 ++ c2) (l1 ++ l2) := by
  induction h1 with
  | nil => exact h2
  | cons a1 a2 a3 a4 a5 a6 a7 _ _ ih => exact .cons a1 a2 a3 a4 a5 a6 a7 ih
theorem RowAt.len {w : World} {ok : Nat → Prop} {c : List Value} {l : List Stp} (h : RowAt w ok c l) : c.length = l.length * 4 := by
  induction h with
  | nil => rfl
  | cons a1 a2 a3 a4 a5 a6 a7 _ _ ih => simp only [List.length_cons, ih]; omega
theorem RowAt.one {w : World} {ok : Nat → Prop} {c : List Value} {l : List Stp} (h : RowAt w ok c l) : ∀ u ∈ c, u.oneCell' = true := by
  induction h with
  | nil => simp
  | cons a1 a2 a3 a4 a5 a6 a7 _ _ ih =>
    intro u hu
    simp only [List.mem_cons] at hu
    rcases hu with rfl | rfl | rfl | rfl | hu
    · rfl
    · rfl
    · rfl
    · rfl
    · exact ih u hu
theorem RowAt.at_ {w : World} {ok : Nat → Prop} {cells : List Value} {l : List Stp} (h : RowAt w ok cells l) : ∀ {k : Nat} (hk : k < l.length),
    ∃ A ka ca B kb cb bcells, cells[k * 4]? = some (.int .i64 l[k].op) ∧ cells[k * 4 + 1]? = some (.slice A ka ca) ∧ cells[k * 4 + 2]? = some (.int .i64 l[k].n) ∧ cells[k * 4 + 3]? = some (.slice B kb cb) ∧
      ka = l[k].args.length ∧ ka ≤ ca ∧ Lies w ok 1 A ka (strV l[k].args) ∧ kb = l[k].block.length ∧ kb ≤ cb ∧ Lies w ok 4 B kb bcells ∧ RowAt w ok bcells l[k].block := by
  induction h with
  | nil => intro k hk; simp at hk
  | @cons op n args block rest A B k0 c kb cb bcells cells a1 a2 a3 a4 a5 a6 a7 a8 ih1 ih2 =>
    intro k hk
    cases k with
    | zero => exact ⟨A, k0, c, B, kb, cb, bcells, rfl, rfl, rfl, rfl, a1, a2, a3, a4, a5, a6, a7⟩
    | succ k =>
      obtain ⟨A', ka, ca, B', kb', cb', bc, h1, h2, h3, h4, h5⟩ := ih2 (k := k) (by simpa using hk)
      refine ⟨A', ka, ca, B', kb', cb', bc, ?_, ?_, ?_, ?_, h5⟩
      · rw [show (k + 1) * 4 = k * 4 + 4 by omega]; exact h1
      · rw [show (k + 1) * 4 + 1 = k * 4 + 1 + 4 by omega]; exact h2
      · rw [show (k + 1) * 4 + 2 = k * 4 + 2 + 4 by omega]; exact h3
      · rw [show (k + 1) * 4 + 3 = k * 4 + 3 + 4 by omega]; exact h4
def StepsAt (w : World) (ok : Nat → Prop) (A : Option Addr) (k : Nat) (l : List Stp) : Prop := k = l.length ∧ ∃ cells, Lies w ok 4 A k cells ∧ RowAt w ok cells l
theorem StepsAt.mono {w w' : World} {ok ok' : Nat → Prop} {A : Option Addr} {k : Nat} {l : List Stp} (h : StepsAt w ok A k l) (hk : ∀ b, ok b → b < w.heap.size → ok' b ∧ w'.heap[b]? = w.heap[b]?) : StepsAt w' ok' A k l := by
  obtain ⟨h1, cells, h2, h3⟩ := h
  exact ⟨h1, cells, h2.mono (by omega) hk, h3.mono hk⟩
theorem StepsAt.below {w w' : World} {ok : Nat → Prop} {A : Option Addr} {k : Nat} {l : List Stp} (h : StepsAt w ok A k l) (hb : Below w.heap.size w w') : StepsAt w' ok A k l :=
  h.mono fun b hk hs => ⟨hk, hb.block b hs⟩
theorem StepsAt.at_ {w : World} {ok : Nat → Prop} {A : Option Addr} {l : List Stp} {n : Nat} (h : StepsAt w ok A n l) {k : Nat} (hk : k < l.length) :
    ∃ ad A' ka ca B' kb cb, A = some ad ∧ w.cell? (ad.add (k * 4)) = some (.int .i64 l[k].op) ∧ w.cell? (ad.add (k * 4 + 1)) = some (.slice A' ka ca) ∧ w.cell? (ad.add (k * 4 + 2)) = some (.int .i64 l[k].n) ∧ w.cell? (ad.add (k * 4 + 3)) = some (.slice B' kb cb) ∧
      ka = l[k].args.length ∧ ka ≤ ca ∧ Lies w ok 1 A' ka (strV l[k].args) ∧ kb ≤ cb ∧ StepsAt w ok B' kb l[k].block := by
  obtain ⟨h1, cells, h2, h3⟩ := h
  obtain ⟨ad, rfl, ho, hc⟩ := h2.2 (by omega)
  obtain ⟨A', ka, ca, B', kb, cb, bc, g1, g2, g3, g4, g5, g6, g7, g8, g9, g10, g11⟩ := h3.at_ hk
  exact ⟨ad, A', ka, ca, B', kb, cb, rfl, hc _ _ g1, hc _ _ g2, hc _ _ g3, hc _ _ g4, g5, g6, g7, g9, g8, bc, g10, g11⟩
end Go.Proofs.YtdidnlkilleljaaGreatDoor.Lg
/- LgDigits, what a claim needs of it (prune.py). -/
namespace Go.Proofs.YtdidnlkilleljaaGreatDoor.Lg
open Go.RowKit
set_option linter.unusedVariables false
set_option maxRecDepth 100000
theorem ret_str {a b : ByteArray} (h : a = b) : Ending.returned (.string a) = .returned (.string b) := by rw [h]
theorem undrawn {B : Nat} {w w' : World} (h : Below B w.drew w') : Below B w w' := ⟨h.os, h.tape, h.output, h.size, h.block⟩
theorem below_behind {w w' : World} {o : Obj} (h : Below (w.alloc o).drew.heap.size (w.alloc o).drew w') : Below w.heap.size w w' :=
  ((Below.refl w.heap.size w).alloc (Nat.le_refl _) o).trans ((undrawn h).mono (by show w.heap.size ≤ (w.alloc o).heap.size; simp))
theorem bs_size (l : List UInt8) : (bs l).size = l.length := by rw [Lib.size_eq]; rfl
theorem bs_append (a b : List UInt8) : bs a ++ bs b = bs (a ++ b) := by
  apply tl_inj
  simp [tl]
  rfl
theorem nDigits_le {n : Nat} (h : n < 10 ^ 19) : Lib.nDigits n ≤ 19 := by
  rcases Nat.lt_or_ge 19 (Lib.nDigits n) with h2 | h2
  · exfalso
    have key : ∀ k n, n < 10 ^ (k + 1) → Lib.nDigits n ≤ k + 1 := by
      intro k
      induction k with
      | zero => intro n hn; rw [Lib.nDigits_small (by simpa using hn)]; exact Nat.le_refl _
      | succ k ih =>
        intro n hn
        by_cases h10 : n < 10
        · rw [Lib.nDigits_small h10]; omega
        · rw [Lib.nDigits_big h10]
          have := ih (n / 10) (by rw [Nat.pow_succ] at hn; omega)
          omega
    have := key 18 n h
    omega
  · exact h2
theorem dec_len {n : Nat} (h : n < 10 ^ 19) : (Lib.decDigits n).length ≤ 19 := by rw [Lib.decDigits_length]; exact nDigits_le h
theorem conv_byte (C : UInt8) (w : World) : (convert 94 9 (.slice (some ⟨w.heap.size, 0, none⟩) 1 1)).run Tryz.prog (w.alloc (.cells #[.int .u8 C.toNat] 5)) = .ok (.string (bs [C])) (w.alloc (.cells #[.int .u8 C.toNat] 5)) :=
  conv_own (B := 0) (n := 1) (l := [C]) Tryz.underlying94 Tryz.underlying5 Tryz.underlying9
    ⟨rfl, .inr ⟨w.heap.size, 1, #[.int .u8 C.toNat], rfl, Nat.zero_le _, heap_alloc_new w _, Nat.le_refl _, by unfold maxLen; decide, rfl, rfl⟩⟩
theorem conv_byte_at (C : UInt8) (w : World) (b : Nat) (h : w.heap[b]? = some (.cells #[.int .u8 C.toNat] 5 (0, 0))) : (convert 94 9 (.slice (some ⟨b, 0, none⟩) 1 1)).run Tryz.prog w = .ok (.string (bs [C])) w :=
  conv_own (B := 0) (n := 1) (l := [C]) Tryz.underlying94 Tryz.underlying5 Tryz.underlying9
    ⟨rfl, .inr ⟨b, 1, #[.int .u8 C.toNat], rfl, Nat.zero_le _, h, Nat.le_refl _, by unfold maxLen; decide, rfl, rfl⟩⟩
theorem digits_nat : ∀ (n : Nat), n ≤ 9223372036854775807 → ∀ (w : World),
    Calls Tryz.prog 126 #[.int .i64 n] w fun e w' => e = .returned (.string (bs (Lib.decDigits n))) ∧ Below w.heap.size w w' := by
  intro n
  induction n using Nat.strongRecOn with
  | _ n ih =>
    intro hn w
    by_cases h : n < 10
    · have i0 : (n : Int) < 10 := by omega
      have i1 : (0 : Int) ≤ (n : Int) := by omega
      have i2 : ¬ (n : Int) < 0 := by omega
      have d1 : decide ((n : Int) < 10) = true := decide_eq_true i0
      obtain ⟨C, eC⟩ : ∃ C : UInt8, C = UInt8.ofNat (48 + n) := ⟨_, rfl⟩
      have hC : (C.toNat : Int) = 48 + n := by rw [eC, UInt8.toNat_ofNat_of_lt' (by show 48 + n < 256; omega)]; omega
      have hcv := conv_byte C w
      rw [hC] at hcv
      have HD : Hid (bs [C] = bs (Lib.decDigits n)) := Lib.hid (by rw [Lib.decDigits, dif_pos h, eC])
      clear eC hC
      have d2 : decide ((0 : Int) ≤ (n : Int)) = true := decide_eq_true i1
      go_enter Tryz.func126, Tryz.ntmps126
      go_wp2_with (fail)
      go_ret
      exact ⟨ret_str HD.out, (Below.refl _ _).alloc (Nat.le_refl _) _⟩
    · have i0 : ¬ (n : Int) < 10 := by omega
      have i1 : (0 : Int) ≤ (n : Int) := by omega
      have d1 : decide ((n : Int) < 10) = false := decide_eq_false i0
      have d2 : decide ((0 : Int) ≤ (n : Int)) = true := decide_eq_true i1
      have i2 : ¬ (n : Int) < 0 := by omega
      have IH := ih (n / 10) (by omega) (by omega)
      have hd := dec_len (n := n / 10) (by omega)
      obtain ⟨D, eD⟩ : ∃ D, D = bs (Lib.decDigits (n / 10)) := ⟨_, rfl⟩
      have hD : D.size ≤ 19 := by rw [eD, bs_size]; exact hd
      rw [← eD] at IH
      have IHH := Lib.hid IH
      obtain ⟨q, eq⟩ : ∃ q, q = n / 10 := ⟨_, rfl⟩
      obtain ⟨r, er⟩ : ∃ r, r = n % 10 := ⟨_, rfl⟩
      obtain ⟨C, eC⟩ : ∃ C : UInt8, C = UInt8.ofNat (48 + r) := ⟨_, rfl⟩
      have hC : (C.toNat : Int) = 48 + r := by rw [eC, UInt8.toNat_ofNat_of_lt' (by show 48 + r < 256; omega)]; omega
      have hcv := conv_byte C
      have HD : Hid (D ++ bs [C] = bs (Lib.decDigits n)) := Lib.hid (by rw [eD, bs_append]; conv => rhs; rw [Lib.decDigits, dif_neg h, ← er, ← eC])
      have r1 : (n : Int).tdiv 10 = (q : Int) := by rw [Int.tdiv_eq_ediv_of_nonneg (by omega)]; omega
      have r1' : (n : Int) / 10 = (q : Int) := by omega
      have r2 : (n : Int).tmod 10 = (r : Int) := by rw [Int.tmod_eq_emod_of_nonneg (by omega)]; omega
      have r2' : (n : Int) % 10 = (r : Int) := by omega
      have hr : (r : Int) < 10 := by omega
      have r3 : IntKind.i64.wrap (48 + (r : Int)) = (C.toNat : Int) := by rw [IntWalk.i64_in _ (by omega)]; omega
      have r4 : IntKind.u8.wrap (C.toNat : Int) = (C.toNat : Int) := by rw [IntKind.wrap_u8']; omega
      have r5 : (48 + (r : Int)) = (C.toNat : Int) := by omega
      have hl : D.size + (bs [C]).size ≤ 9223372036854775807 := by rw [bs_size]; simp; omega
      rw [← eq] at IHH
      have w1 : IntKind.i64.wrap (q : Int) = (q : Int) := IntWalk.i64_in _ (by omega)
      have w2 : IntKind.i64.wrap (C.toNat : Int) = (C.toNat : Int) := IntWalk.i64_in _ (by omega)
      have hcw := conv_byte_at C
      have hcd : ∀ w : World, (convert 94 9 (.slice (some ⟨w.heap.size, 0, none⟩) 1 1)).run Tryz.prog (w.alloc (.cells #[.int .u8 C.toNat] 5)).drew = .ok (.string (bs [C])) (w.alloc (.cells #[.int .u8 C.toNat] 5)).drew := fun w => conv_byte_at C _ _ (heap_alloc_new w _)
      clear eC hC eD hd eq er IH ih
      go_enter Tryz.func126, Tryz.ntmps126
      go_wp2_with (fail)
      go_region_with (go_at_call 126; ((with_reducible refine (IHH.out _).mono ?_); rintro e w1 ⟨rfl, hb1⟩); try (have hbk1 := heap_below hb1 (by simp) (heap_alloc_new _ _)))
      all_goals
        go_wp2
        go_ret
        refine ⟨ret_str HD.out, ?_⟩
        first
          | exact undrawn hb1
          | exact (undrawn hb1).alloc hb1.size _
          | exact below_behind hb1
def dig (k : Nat) : B := if k = 0 then [] else Lib.decDigits k
theorem dig_step {k : Nat} (h : k ≠ 0) : dig k = dig (k / 10) ++ [UInt8.ofNat (48 + k % 10)] := by
  rw [dig, if_neg h, Lib.decDigits]
  by_cases h10 : k < 10
  · rw [dif_pos h10, dig, if_pos (by omega), Nat.mod_eq_of_lt h10]; rfl
  · rw [dif_neg h10, dig, if_neg (by omega)]
set_option maxHeartbeats 1000000 in
theorem digits_neg (m : Nat) (hm : 0 < m) (hm2 : m ≤ 9223372036854775808) (w : World) :
    Calls Tryz.prog 126 #[.int .i64 (-(m : Int))] w fun e w' => e = .returned (.string (bs (45 :: Lib.decDigits m))) ∧ Below w.heap.size w w' := by
  have hlen : (Lib.decDigits m).length ≤ 19 := dec_len (by omega)
  have hdm : dig m = Lib.decDigits m := by rw [dig, if_neg (by omega)]
  have HLEN := Lib.hid hlen
  have i0 : -(m : Int) < 0 := by omega
  have i1 : ¬ (0 : Int) ≤ -(m : Int) := by omega
  clear hlen
  go_enter Tryz.func126, Tryz.ntmps126
  go_wp2_with (fail)
  go_loopw [0, 3] (fun x s wr => ∃ (k : Nat) (D : B), x = .int .i64 (-(k : Int)) ∧ s = .string (bs D) ∧ dig k ++ D = Lib.decDigits m ∧ k ≤ m ∧ Below w.heap.size w wr) (fun x _ _ => (intOf x).natAbs)
  case atStart => exact ⟨m, [], rfl, rfl, by rw [hdm, List.append_nil], Nat.le_refl _, Below.refl _ _⟩
  case round =>
    obtain ⟨k, D, rfl, rfl, hD, hk, hb⟩ := hrel
    rename World => wr
    by_cases h0 : k = 0
    · subst h0
      have R : Hid (D = Lib.decDigits m) := Lib.hid (by simpa [dig] using hD)
      have hl : (⟨#[45]⟩ : ByteArray).size + (bs D).size ≤ 9223372036854775807 := by
        have := HLEN.out
        rw [R.out, bs_size]; show 1 + _ ≤ _; omega
      clear hD hdm
      go_wp2_with (fail)
      go_ret
      refine ⟨ret_str ?_, hb⟩
      rw [R.out]
      exact bs_append [45] _
    · have hD2 := hD
      rw [dig_step h0, List.append_assoc] at hD2
      obtain ⟨q, eq⟩ : ∃ q, q = k / 10 := ⟨_, rfl⟩
      obtain ⟨r, er⟩ : ∃ r, r = k % 10 := ⟨_, rfl⟩
      obtain ⟨C, eC⟩ : ∃ C : UInt8, C = UInt8.ofNat (48 + r) := ⟨_, rfl⟩
      have hC : (C.toNat : Int) = 48 + r := by rw [eC, UInt8.toNat_ofNat_of_lt' (by show 48 + r < 256; omega)]; omega
      have hcv := conv_byte C wr
      have HD : Hid (dig q ++ ([C] ++ D) = Lib.decDigits m) := Lib.hid (by rw [← hD2, eq, eC, er])
      have HE : Hid (bs [C] ++ bs D = bs ([C] ++ D)) := Lib.hid (bs_append _ _)
      have r1 : (-(k : Int)).tdiv 10 = -(q : Int) := by rw [Int.neg_tdiv, Int.tdiv_eq_ediv_of_nonneg (by omega)]; omega
      have r2 : (-(k : Int)).tmod 10 = -(r : Int) := by rw [Int.neg_tmod, Int.tmod_eq_emod_of_nonneg (by omega)]; omega
      have hr : (r : Int) < 10 := by omega
      have r5 : (48 + (r : Int)) = (C.toNat : Int) := by omega
      have r6 : (48 - -(r : Int)) = (C.toNat : Int) := by omega
      have r3 : IntKind.i64.wrap (48 - -(r : Int)) = (C.toNat : Int) := by rw [IntWalk.i64_in _ (by omega)]; omega
      have r4 : IntKind.u8.wrap (C.toNat : Int) = (C.toNat : Int) := by rw [IntKind.wrap_u8']; omega
      have w1 : IntKind.i64.wrap (-(q : Int)) = -(q : Int) := IntWalk.i64_in _ (by omega)
      have w2 : IntKind.i64.wrap (C.toNat : Int) = (C.toNat : Int) := IntWalk.i64_in _ (by omega)
      have w3 : IntKind.i64.wrap (-(r : Int)) = -(r : Int) := IntWalk.i64_in _ (by omega)
      have hne : ¬ (-(k : Int)) = 0 := by omega
      have hne2 : ((-(k : Int)) != 0) = true := by simp; omega
      have hDl : D.length ≤ 19 := by
        have := congrArg List.length hD
        have := HLEN.out
        simp at *
        omega
      have hl : (bs [C]).size + (bs D).size ≤ 9223372036854775807 := by rw [bs_size, bs_size]; simp; omega
      have hql : q < k := by omega
      clear eC hC eq er hD hD2 hdm hDl
      go_wp2_with (fail)
      go_roundw
      case rel => exact ⟨q, [C] ++ D, by go_num, congrArg Value.string HE.out, HD.out, by omega, hb.alloc hb.size _⟩
      case measure => simp [intOf]; omega
theorem digits_any (n : Int) (h1 : -9223372036854775808 ≤ n) (h2 : n ≤ 9223372036854775807) (w : World) :
    Calls Tryz.prog 126 #[.int .i64 n] w fun e w' => e = .returned (.string (bs (Lib.itoa n))) ∧ Below w.heap.size w w' := by
  by_cases h : n < 0
  · obtain ⟨m, rfl⟩ : ∃ m : Nat, n = -(m : Int) := ⟨n.natAbs, by omega⟩
    rw [Lib.itoa, if_pos h, Int.natAbs_neg, Int.natAbs_natCast]
    exact digits_neg m (by omega) (by omega) w
  · obtain ⟨m, rfl⟩ : ∃ m : Nat, n = (m : Int) := ⟨n.toNat, by omega⟩
    rw [Lib.itoa, if_neg h, Int.toNat_natCast]
    exact digits_nat m (by omega) w
end Go.Proofs.YtdidnlkilleljaaGreatDoor.Lg
/- LgSw, what a claim needs of it (prune.py). -/
namespace Go.Proofs.YtdidnlkilleljaaGreatDoor.Lg
open Go.RowKit
set_option linter.unusedVariables false
set_option maxRecDepth 100000
theorem copyCheck_keep (B b : Nat) (bs : List Value) (w : World) (h : Lib.IsBuilder 160 5 B b bs w) :
    Calls Tryz.prog 168 #[.pointer (some ⟨b, 0, none⟩)] w fun e w' => e = .returned (.tuple #[]) ∧ (Lib.BuilderAt 160 5 B b (.pointer (some ⟨b, 0, none⟩)) bs w' ∧ Below B w w') ∧ ∀ k, k ≠ b → w'.heap[k]? = w.heap[k]? := by
  rcases h with h | h
  · refine (copyCheck_fresh b w h.cell0 h.shape h.frozen0).mono ?_
    rintro e w' ⟨rfl, rfl⟩
    exact ⟨rfl, ⟨h.used _, (Below.refl B w).setCell (p := ⟨b, 0, none⟩) h.1 _⟩, fun k hk => Below.heap_setCell w ⟨b, 0, none⟩ _ k hk⟩
  · refine (copyCheck_used b w h.cell0).mono ?_
    rintro e w' ⟨rfl, rfl⟩
    exact ⟨rfl, ⟨h, Below.refl B _⟩, fun _ _ => rfl⟩
set_option maxHeartbeats 2000000 in
theorem WriteString_keep (B b : Nat) (l : List UInt8) (S : ByteArray) (w : World) (h : SbAt B b l w) (hlen : l.length + S.size ≤ 140737488355328) (hBw : B ≤ w.heap.size) :
    Calls Tryz.prog 108 #[.pointer (some ⟨b, 0, none⟩), .string S] w fun e w' => e = .returned (.tuple #[.int .i64 S.size, .nilIface]) ∧ SbAt B b (l ++ S.data.toList) w' ∧ Below B w w' ∧
      ∀ k, k < w.heap.size → k ≠ b → (∀ cs fr, w.heap[k]? ≠ some (.cells cs 5 fr)) → w'.heap[k]? = w.heap[k]? := by
  have hS : (S.size : Int) ≤ 140737488355328 := by omega
  have CK := Lib.hid (copyCheck_keep B b _ _ h)
  clear h
  go_enter Tryz.func108, Tryz.ntmps108
  go_upto_region 2 with (go_at_call 168; ((with_reducible refine (CK.out).mono ?_); rintro e w1 ⟨rfl, ⟨h1, hb1⟩, hk1⟩))
  obtain ⟨hB, v, hbk, hown, hne⟩ := h1
  rw [show (Lib.byteCells l).length = l.length by simp [Lib.byteCells]] at hown
  have c0 : w1.cell? ⟨b, 0, none⟩ = some (.pointer (some ⟨b, 0, none⟩)) := by rw [Lib.cell_of_heap hbk]; rfl
  have c1 : w1.cell? ⟨b, 1, none⟩ = some v := by rw [Lib.cell_of_heap hbk]; rfl
  have hs1 : B ≤ w1.heap.size := Nat.le_trans hBw hb1.size
  have hlt : b < w1.heap.size := lt_heap hbk
  have HK := Lib.hid hk1
  clear hk1
  go_wp2_with (at_builtin; refine append_text rfl (.tmp 12) (.tmp 13) 94 9 rfl B 5 Tryz.underlying94 Tryz.underlying9 (by kernel_rfl) v l.length l rfl hown S rfl hlen hs1 hb1 ?_; intro v' w2 hown2 hb2 hoth; have hbk2 := (hoth b hlt (fun e => hne e.symm)).trans hbk; have d1 : w2.cell? ⟨b, 1, none⟩ = some v := (cell_heap hbk2 1).trans rfl; have f1 : w2.frozen? ⟨b, 1, none⟩ = false := frozen_heap hbk2 1; obtain ⟨p, m, c, rfl⟩ := own_form hown2; have HO := Lib.hid hoth; clear hoth)
  go_ret2
  refine ⟨rfl, Or.inr ?_, ?_, fun k hks hkb hku => ?_⟩
  · refine Lib.BuilderAt.put hB hbk2 ?_ (by decide)
    rw [show (Lib.byteCells (l ++ S.data.toList)).length = l.length + S.size by simp [Lib.byteCells]]
    exact hown2
  · exact hb2.setCell (p := ⟨b, 1, none⟩) hB _
  · rw [Below.heap_setCell _ ⟨b, 1, none⟩ _ k hkb]
    have hk1 := HK.out k hkb
    refine (HO.out k (Nat.lt_of_lt_of_le hks hb1.size) (fun e => ?_)).trans hk1
    rcases hown.2 with ⟨hv, _⟩ | ⟨g, cc, cur, hv, _, hh, _⟩
    · rw [hv] at e; cases e
    · rw [hv] at e
      injection e with e
      simp only at e
      subst e
      exact hku _ _ (hk1.symm.trans hh)
theorem own_later {w w' : World} {B : Nat} {e : TypeId} {size : Nat} {v : Value} {n : Nat} {xs : List Value} (h : w.ownsRow B e size v n xs) (k : Below w.heap.size w w') : w'.ownsRow B e size v n xs := by
  refine ⟨h.1, ?_⟩
  rcases h.2 with h0 | ⟨g, cap, cur, hv, hg, hc, h1, h2, h3, h4⟩
  · exact .inl h0
  · exact .inr ⟨g, cap, cur, hv, hg, heap_below k (lt_heap hc) hc, h1, h2, h3, h4⟩
theorem SbAt.later {w w' : World} {B b : Nat} {l : List UInt8} (h : SbAt B b l w) (k : Below w.heap.size w w') : SbAt B b l w' := by
  rcases h with ⟨hB, v, hb, ho, hn⟩ | ⟨hB, v, hb, ho, hn⟩
  · exact .inl ⟨hB, v, heap_below k (lt_heap hb) hb, own_later ho k, hn⟩
  · exact .inr ⟨hB, v, heap_below k (lt_heap hb) hb, own_later ho k, hn⟩
theorem bstring_any (B b : Nat) (l : List UInt8) (w : World) (h : SbAt B b l w) (hBw : B ≤ w.heap.size) :
    Calls Tryz.prog 111 #[.pointer (some ⟨b, 0, none⟩)] w fun e w' => e = .returned (.string (bs l)) ∧ Below B w w' := Tryz.Builder_String_any B b l w h hBw
def LpAt (w W : World) (bb gw : Nat) (wc : Array Value) (s : List UInt8) : Prop :=
  SbAt w.heap.size bb s W ∧ W.heap[gw]? = some (.cells wc 9 (0, 0)) ∧ Below w.heap.size w W ∧ bb ≠ gw
theorem LpAt.on {w W W' : World} {bb gw : Nat} {wc : Array Value} {s : List UInt8} (h : LpAt w W bb gw wc s) (hb : Below W.heap.size W W') : LpAt w W' bb gw wc s :=
  ⟨SbAt.later h.1 hb, heap_below hb (lt_heap h.2.1) h.2.1, h.2.2.1.trans (hb.mono h.2.2.1.size), h.2.2.2⟩
theorem LpAt.below {w W : World} {bb gw : Nat} {wc : Array Value} {s : List UInt8} (h : LpAt w W bb gw wc s) : Below w.heap.size w W := h.2.2.1
theorem LpAt.write {w W : World} {bb gw : Nat} {wc : Array Value} {s : List UInt8} (h : LpAt w W bb gw wc s) (S : ByteArray) (hl : s.length + S.size ≤ 140737488355328) :
    Calls Tryz.prog 108 #[.pointer (some ⟨bb, 0, none⟩), .string S] W fun e w' => e = .returned (.tuple #[.int .i64 S.size, .nilIface]) ∧ LpAt w w' bb gw wc (s ++ S.data.toList) ∧
      ∀ k cs, k ≠ bb → W.heap[k]? = some (.cells cs 61 (0, 0)) → w'.heap[k]? = some (.cells cs 61 (0, 0)) := by
  refine (WriteString_keep w.heap.size bb s S W h.1 hl h.2.2.1.size).mono ?_
  rintro e w' ⟨rfl, h1, h2, h3⟩
  refine ⟨rfl, ⟨h1, (h3 gw (lt_heap h.2.1) (fun e => h.2.2.2 e.symm) (fun cs fr e => ?_)).trans h.2.1, h.2.2.1.trans h2, h.2.2.2⟩, fun k cs hk hc => (h3 k (lt_heap hc) hk (fun cs fr e => ?_)).trans hc⟩
  · rw [h.2.1] at e
    injection e with e
    injection e with _ e
    exact absurd e (by decide)
  · rw [hc] at e
    injection e with e
    injection e with _ e
    exact absurd e (by decide)
end Go.Proofs.YtdidnlkilleljaaGreatDoor.Lg
/- LgText, what a claim needs of it (prune.py). -/
namespace Go.Proofs.YtdidnlkilleljaaGreatDoor.Lg
open Go.RowKit
set_option linter.unusedVariables false
set_option maxRecDepth 100000
def okTo (s : ByteArray) (k : Nat) : Bool := decide (1 ≤ s.size) && decide (s.size ≤ 32) && ((tl s).take k).all printable
theorem okTo_zero (s : ByteArray) : okTo s 0 = (decide (1 ≤ s.size) && decide (s.size ≤ 32)) := by simp [okTo]
theorem okTo_next {s : ByteArray} {k : Nat} (hk : k < s.size) : okTo s (k + 1) = (okTo s k && printable (s[k]'hk)) := by simp [okTo, all_next hk, Bool.and_assoc]
theorem okTo_end (s : ByteArray) : okTo s s.size = textOk (tl s) := by simp only [okTo, textOk, take_all, tl_len]
set_option maxHeartbeats 1000000 in
theorem text_any (s : ByteArray) (hs : s.size ≤ 1000000000) (w : World) :
    Calls Tryz.prog 143 #[.string s] w fun e w' => e = .returned (.bool (textOk (tl s))) ∧ w = w' := by
  have FIN := Lib.hid (okTo_end s)
  have NX : Hid (∀ k (hk : k < s.size), okTo s (k + 1) = (okTo s k && printable (s[k]'hk))) := Lib.hid (fun k hk => okTo_next hk)
  by_cases h0 : s.size = 0
  · obtain rfl := empty_of h0
    have : textOk (tl ⟨#[]⟩) = false := rfl
    go_enter Tryz.func143, Tryz.ntmps143
    go_wp2_with (fail)
    go_loop [3, 14] (fun v i => v = .bool false ∧ i = .int .i64 0) (fun _ i => 0)
    case atStart => exact ⟨rfl, rfl⟩
    case round =>
      obtain ⟨rfl, rfl⟩ := hrel
      go_wp2_with (fail)
      go_ret
      exact ⟨ret_bool this, rfl⟩
  · have hne := some_ne h0
    have h1 : 0 < s.size := by omega
    have HZ := Lib.hid (okTo_zero s)
    by_cases h32 : s.size ≤ 32
    · have hle : (s.size : Int) ≤ 32 := by omega
      have Z1 : Hid (okTo s 0 = true) := Lib.hid (by rw [HZ.out]; simp; omega)
      clear h32
      go_enter Tryz.func143, Tryz.ntmps143
      go_wp2_with (fail)
      go_loop [3, 14] (fun v i => ∃ k : Nat, v = .bool (okTo s k) ∧ i = .int .i64 k ∧ k ≤ s.size) (fun _ i => s.size - (intOf i).toNat)
      case atStart => exact ⟨0, by rw [Z1.out], rfl, by omega⟩
      case round =>
        obtain ⟨k, rfl, rfl, hk⟩ := hrel
        by_cases hlt : k < s.size
        · have hkI : (k : Int) < (s.size : Int) := by omega
          have N1 := Lib.hid (NX.out k hlt)
          cases e : okTo s k
          · go_wp2_with (fail)
            go_round
            case rel => exact ⟨k + 1, by rw [N1.out, e]; rfl, by go_num, by omega⟩
            case measure => simp [intOf]; omega
          · by_cases c1 : 33 ≤ (s[k]'hlt).toNat
            · have c2 : (32 : Int) < ((s[k]'hlt).toNat : Int) := by omega
              by_cases c3 : (s[k]'hlt).toNat ≤ 126
              · have c4 : ((s[k]'hlt).toNat : Int) ≤ 126 := by omega
                go_wp2_with (fail)
                go_round
                case rel => exact ⟨k + 1, by rw [N1.out, e]; simp [printable, c1, c3], by go_num, by omega⟩
                case measure => simp [intOf]; omega
              · have c4 : ¬ ((s[k]'hlt).toNat : Int) ≤ 126 := by omega
                go_wp2_with (fail)
                go_round
                case rel => exact ⟨k + 1, by rw [N1.out, e]; simp [printable, c3], by go_num, by omega⟩
                case measure => simp [intOf]; omega
            · have c2 : ¬ (32 : Int) < ((s[k]'hlt).toNat : Int) := by omega
              go_wp2_with (fail)
              go_round
              case rel => exact ⟨k + 1, by rw [N1.out, e]; simp [printable, c1], by go_num, by omega⟩
              case measure => simp [intOf]; omega
        · obtain rfl : k = s.size := by omega
          go_wp2_with (fail)
          go_ret
          exact ⟨ret_bool FIN.out.symm, rfl⟩
    · have hle : ¬ (s.size : Int) ≤ 32 := by omega
      have Z1 : Hid (∀ k, okTo s k = false) := Lib.hid (fun k => by simp [okTo, h32])
      clear h32
      go_enter Tryz.func143, Tryz.ntmps143
      go_wp2_with (fail)
      go_loop [3, 14] (fun v i => ∃ k : Nat, v = .bool false ∧ i = .int .i64 k ∧ k ≤ s.size) (fun _ i => s.size - (intOf i).toNat)
      case atStart => exact ⟨0, rfl, rfl, by omega⟩
      case round =>
        obtain ⟨k, rfl, rfl, hk⟩ := hrel
        by_cases hlt : k < s.size
        · have hkI : (k : Int) < (s.size : Int) := by omega
          go_wp2_with (fail)
          go_round
          case rel => exact ⟨k + 1, rfl, by go_num, by omega⟩
          case measure => simp [intOf]; omega
        · obtain rfl : k = s.size := by omega
          go_wp2_with (fail)
          go_ret
          exact ⟨ret_bool (by rw [← FIN.out, Z1.out]), rfl⟩
end Go.Proofs.YtdidnlkilleljaaGreatDoor.Lg
