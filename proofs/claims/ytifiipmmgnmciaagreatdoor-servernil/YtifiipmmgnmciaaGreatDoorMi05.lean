/- Joined by mkmerged.py: LgMach, LgRow, LgAll, LgEq, LgStepW, LgStepB. -/
import Derived.Test.YtifiipmmgnmciaaGreatDoorMi04
import Derived.Test.YtifiipmmgnmciaaGreatDoorMi03
import Derived.Laws.ResultCell
import Derived.Laws.Rows
import Derived.Laws.NewBlocks
/- LgMach, what a claim needs of it (prune.py). -/
namespace Go.Proofs.YtifiipmmgnmciaaGreatDoor.Lg
set_option linter.unusedVariables false
structure Frame where
  op : Int
  args : List B
  n : Int
  out : List Stp
def mach : List Frame → List Stp → List B → Res
  | fs, cur, [] => (match fs with
    | [] => .ok cur []
    | _ :: _ => .err 21)
  | fs, cur, line :: rest =>
    if line = endW then (match fs with
      | [] => .err 21
      | f :: fs => mach fs (f.out ++ [⟨f.op, f.args, f.n, cur⟩]) rest) else
    match stepOf line with
    | none => .err 20
    | some (op, args, n) =>
      if op = 9 ∨ op = 10 then
        if 4 ≤ fs.length then .err 22 else mach (⟨op, args, n, cur⟩ :: fs) [] rest
      else mach fs (cur ++ [⟨op, args, n, []⟩]) rest
def fin : List Frame → Res → Res
  | [], r => r
  | _ :: _, .err e => .err e
  | f :: fs, .ok inn rest => mach fs (f.out ++ [⟨f.op, f.args, f.n, inn⟩]) rest
theorem fin_err (fs : List Frame) (e : Nat) : fin fs (.err e) = .err e := by cases fs <;> rfl
theorem mach_nil (fs : List Frame) (cur : List Stp) : mach fs cur [] = (match fs with
    | [] => .ok cur []
    | _ :: _ => .err 21) := by rw [mach.eq_def]
theorem mach_cons (fs : List Frame) (cur : List Stp) (line : B) (rest : List B) : mach fs cur (line :: rest) =
    if line = endW then (match fs with
      | [] => .err 21
      | f :: fs => mach fs (f.out ++ [⟨f.op, f.args, f.n, cur⟩]) rest) else
    match stepOf line with
    | none => .err 20
    | some (op, args, n) =>
      if op = 9 ∨ op = 10 then
        if 4 ≤ fs.length then .err 22 else mach (⟨op, args, n, cur⟩ :: fs) [] rest
      else mach fs (cur ++ [⟨op, args, n, []⟩]) rest := by rw [mach.eq_def]
theorem mach_fin : ∀ (k : Nat) (fs : List Frame) (cur : List Stp) (lines : List B), lines.length ≤ k → mach fs cur lines = fin fs (bk fs.length cur lines)
  | k, [], cur, [], _ => by rw [bk_nil, mach_nil]; rfl
  | k, f :: fs, cur, [], _ => by rw [bk_nil, mach_nil, if_pos (by simp)]; rfl
  | 0, fs, cur, line :: rest, h => absurd h (by simp)
  | k + 1, fs, cur, line :: rest, h => by
    simp only [List.length_cons] at h
    rw [bk_cons, mach_cons]
    by_cases he : line = endW
    · rw [if_pos he, if_pos he]
      cases fs with
      | nil => simp [fin]
      | cons f fs => simp [fin]
    · rw [if_neg he, if_neg he]
      cases e : stepOf line with
      | none => simp only [fin_err]
      | some x =>
        obtain ⟨op, args, n⟩ := x
        simp only
        by_cases hb : op = 9 ∨ op = 10
        · rw [if_pos hb, if_pos hb]
          by_cases hd : 4 ≤ fs.length
          · rw [if_pos hd, if_pos hd, fin_err]
          · rw [if_neg hd, if_neg hd, mach_fin k _ _ rest (by omega), List.length_cons]
            cases e2 : bk (fs.length + 1) [] rest with
            | err e => rw [fin_err]; simp only [fin_err]
            | ok inn rest' =>
              have hle := bk_le e2
              rw [fin, mach_fin k fs _ rest' (by omega)]
        · rw [if_neg hb, if_neg hb]
          exact mach_fin k fs _ rest (by omega)
theorem mach_bk (lines : List B) : mach [] [] lines = bk 0 [] lines := mach_fin lines.length [] [] lines (Nat.le_refl _)
end Go.Proofs.YtifiipmmgnmciaaGreatDoor.Lg
/- LgRow, what a claim needs of it (prune.py). -/
namespace Go.Proofs.YtifiipmmgnmciaaGreatDoor.Lg
open Go.RowKit
set_option linter.unusedVariables false
structure BelowX (B x : Nat) (w w' : World) : Prop where
  os : w'.os = w.os
  tape : w'.tape = w.tape
  output : w'.output = w.output
  size : w.heap.size ≤ w'.heap.size
  block : ∀ k, k < B → k ≠ x → w'.heap[k]? = w.heap[k]?
theorem BelowX.of {B x : Nat} {w w' : World} (h : Below B w w') : BelowX B x w w' := ⟨h.os, h.tape, h.output, h.size, fun k hk _ => h.block k hk⟩
theorem BelowX.refl (B x : Nat) (w : World) : BelowX B x w w := .of (Below.refl B w)
theorem BelowX.trans {B x : Nat} {a b c : World} (h : BelowX B x a b) (k : BelowX B x b c) : BelowX B x a c :=
  ⟨k.os.trans h.os, k.tape.trans h.tape, k.output.trans h.output, Nat.le_trans h.size k.size, fun i hi hx => (k.block i hi hx).trans (h.block i hi hx)⟩
theorem BelowX.mono {B B' x : Nat} {w w' : World} (h : BelowX B x w w') (hB : B' ≤ B) : BelowX B' x w w' := ⟨h.os, h.tape, h.output, h.size, fun k hk hx => h.block k (by omega) hx⟩
theorem BelowX.below {B B' x : Nat} {w w' : World} (h : BelowX B x w w') (hB : B' ≤ B) (hx : B' ≤ x) : Below B' w w' := ⟨h.os, h.tape, h.output, h.size, fun k hk => h.block k (by omega) (by omega)⟩
theorem BelowX.drewN {B x : Nat} {a w : World} (h : BelowX B x a w) (n : Nat) : BelowX B x a (w.drewN n) := ⟨h.os, h.tape, h.output, h.size, h.block⟩
theorem BelowX.alloc {B x : Nat} {a w : World} (h : BelowX B x a w) (hB : B ≤ w.heap.size) (o : Obj) : BelowX B x a (w.alloc o) := h.trans (.of ((Below.refl _ _).alloc hB o))
theorem BelowX.setCell {B x : Nat} {a w : World} (h : BelowX B x a w) {p : Addr} (hp : B ≤ p.block) (u : Value) : BelowX B x a (w.setCell p u) := h.trans (.of ((Below.refl _ _).setCell hp u))
theorem BelowX.setX {B x : Nat} {a w : World} (h : BelowX B x a w) {p : Addr} (hp : p.block = x) (u : Value) : BelowX B x a (w.setCell p u) :=
  h.trans ⟨rfl, rfl, rfl, by simp [World.setCell], fun k hk hx => Below.heap_setCell _ _ _ _ (by omega)⟩
theorem BelowX.grown {B x : Nat} {a w w' : World} {row : Option Nat} (h : BelowX B x a w) (hg : w.grownBy w' row) (hB : B ≤ w.heap.size) (hr : ∀ k, row = some k → B ≤ k ∨ k = x) : BelowX B x a w' :=
  h.trans ⟨hg.os, hg.tape, hg.output, hg.size, fun k hk hx => hg.block k (by omega) (fun e => by rcases hr k e.symm with h | h <;> omega)⟩
theorem BelowX.cell {B x : Nat} {w w' : World} (h : BelowX B x w w') {p : Addr} (hp : p.block < B) (hx : p.block ≠ x) : w'.cell? p = w.cell? p := World.cell?_of_block (w := w) (h.block p.block hp hx)
def Lies (w : World) (ok : Nat → Prop) (size : Nat) (A : Option Addr) (n : Nat) (xs : List Value) : Prop :=
  xs.length = n * size ∧ (0 < n → ∃ ad, A = some ad ∧ ok ad.block ∧ ∀ j u, xs[j]? = some u → w.cell? (ad.add j) = some u)
theorem Lies.none_ {w : World} {ok : Nat → Prop} {size : Nat} {A : Option Addr} : Lies w ok size A 0 [] := ⟨by simp, fun h => absurd h (by omega)⟩
theorem Lies.mono {w w' : World} {ok ok' : Nat → Prop} {size n : Nat} {A : Option Addr} {xs : List Value} (h : Lies w ok size A n xs) (hs : 0 < size)
    (hk : ∀ b, ok b → b < w.heap.size → ok' b ∧ w'.heap[b]? = w.heap[b]?) : Lies w' ok' size A n xs := by
  refine ⟨h.1, fun hn => ?_⟩
  obtain ⟨ad, rfl, ho, hc⟩ := h.2 hn
  have hl : 0 < xs.length := by rw [h.1]; exact Nat.mul_pos hn hs
  have hb : ad.block < w.heap.size := by
    have := hc 0 _ (List.getElem?_eq_getElem hl)
    have h2 : (ad.add 0).block < w.heap.size := by
      unfold World.cell? at this
      rcases Nat.lt_or_ge (ad.add 0).block w.heap.size with h1 | h1
      · exact h1
      · rw [Array.getElem?_eq_none h1] at this; cases this
    rwa [block_of_add] at h2
  obtain ⟨h1, h2⟩ := hk _ ho hb
  refine ⟨ad, rfl, h1, fun j u hu => ?_⟩
  rw [World.cell?_of_block (w := w) (by rw [block_of_add]; exact h2)]
  exact hc j u hu
theorem Lies.reads {w : World} {ok : Nat → Prop} {size n : Nat} {A : Option Addr} {xs : List Value} (h : Lies w ok size A n xs) (hs : 0 < size) : Reads w w.heap.size size A n xs := by
  have h2 := Lies.mono (w' := w) (ok' := fun b => b < w.heap.size) h hs (fun b _ hb => ⟨hb, rfl⟩)
  exact h2
abbrev strV (l : List B) : List Value := l.map fun s => .string (bs s)
theorem strV_map (l : List B) : strV l = (l.map bs).map Value.string := by simp [strV]
inductive RowAt (w : World) (ok : Nat → Prop) : List Value → List Stp → Prop
  | nil : RowAt w ok [] []
  | cons {op n : Int} {args : List B} {block rest : List Stp} {A B : Option Addr} {k c kb cb : Nat} {bcells cells : List Value} :
      k = args.length → k ≤ c → Lies w ok 1 A k (strV args) → kb = block.length → kb ≤ cb → Lies w ok 4 B kb bcells → RowAt w ok bcells block → RowAt w ok cells rest →
      RowAt w ok (.int .i64 op :: .slice A k c :: .int .i64 n :: .slice B kb cb :: cells) (⟨op, args, n, block⟩ :: rest)
theorem RowAt.mono {w w' : World} {ok ok' : Nat → Prop} {cells : List Value} {l : List Stp} (h : RowAt w ok cells l) (hk : ∀ b, ok b → b < w.heap.size → ok' b ∧ w'.heap[b]? = w.heap[b]?) : RowAt w' ok' cells l := by
  induction h with
  | nil => exact .nil
  | cons h1 h2 h3 h4 h5 h6 _ _ ih1 ih2 => exact .cons h1 h2 (h3.mono (by omega) hk) h4 h5 (h6.mono (by omega) hk) ih1 ih2
theorem RowAt.append {w : World} {ok : Nat → Prop} {c1 c2 : List Value} {l1 l2 : List Stp} (h1 : RowAt w ok c1 l1) (h2 : RowAt w ok c2 l2) : RowAt w ok (c1 ++ c2) (l1 ++ l2) := by
  induction h1 with
  | nil => exact h2
  | cons a1 a2 a3 a4 a5 a6 a7 _ _ ih => exact .cons a1 a2 a3 a4 a5 a6 a7 ih
theorem RowAt.at_ {w : World} {ok : Nat → Prop} {cells : List Value} {l : List Stp} (h : RowAt w ok cells l) : ∀ {k : Nat} (hk : k < l.length),
    ∃ A ka ca B kb cb bcells, cells[k * 4]? = some (.int .i64 l[k].op) ∧ cells[k * 4 + 1]? = some (.slice A ka ca) ∧ cells[k * 4 + 2]? = some (.int .i64 l[k].n) ∧ cells[k * 4 + 3]? = some (.slice B kb cb) ∧
      ka = l[k].args.length ∧ ka ≤ ca ∧ Lies w ok 1 A ka (strV l[k].args) ∧ kb = l[k].block.length ∧ kb ≤ cb ∧ Lies w ok 4 B kb bcells ∧ RowAt w ok bcells l[k].block := by
  induction h with
  | nil => intro k hk; simp at hk
  | @cons op n args block rest A B k0 c kb cb bcells cells a1 a2 a3 a4 a5 a6 a7 a8 ih1 ih2 =>
    intro k hk
    cases k with
    | zero => exact ⟨A, k0, c, B, kb, cb, bcells, rfl, rfl, rfl, rfl, a1, a2, a3, a4, a5, a6, a7⟩
    | succ k =>
      obtain ⟨A', ka, ca, B', kb', cb', bc, h1, h2, h3, h4, h5⟩ := ih2 (k := k) (by simpa using hk)
      refine ⟨A', ka, ca, B', kb', cb', bc, ?_, ?_, ?_, ?_, h5⟩
      · rw [show (k + 1) * 4 = k * 4 + 4 by omega]; exact h1
      · rw [show (k + 1) * 4 + 1 = k * 4 + 1 + 4 by omega]; exact h2
      · rw [show (k + 1) * 4 + 2 = k * 4 + 2 + 4 by omega]; exact h3
      · rw [show (k + 1) * 4 + 3 = k * 4 + 3 + 4 by omega]; exact h4
def StepsAt (w : World) (ok : Nat → Prop) (A : Option Addr) (k : Nat) (l : List Stp) : Prop := k = l.length ∧ ∃ cells, Lies w ok 4 A k cells ∧ RowAt w ok cells l
theorem StepsAt.mono {w w' : World} {ok ok' : Nat → Prop} {A : Option Addr} {k : Nat} {l : List Stp} (h : StepsAt w ok A k l) (hk : ∀ b, ok b → b < w.heap.size → ok' b ∧ w'.heap[b]? = w.heap[b]?) : StepsAt w' ok' A k l := by
  obtain ⟨h1, cells, h2, h3⟩ := h
  exact ⟨h1, cells, h2.mono (by omega) hk, h3.mono hk⟩
theorem StepsAt.below {w w' : World} {ok : Nat → Prop} {A : Option Addr} {k : Nat} {l : List Stp} (h : StepsAt w ok A k l) (hb : Below w.heap.size w w') : StepsAt w' ok A k l :=
  h.mono fun b hk hs => ⟨hk, hb.block b hs⟩
theorem StepsAt.at_ {w : World} {ok : Nat → Prop} {A : Option Addr} {l : List Stp} {n : Nat} (h : StepsAt w ok A n l) {k : Nat} (hk : k < l.length) :
    ∃ ad A' ka ca B' kb cb, A = some ad ∧ w.cell? (ad.add (k * 4)) = some (.int .i64 l[k].op) ∧ w.cell? (ad.add (k * 4 + 1)) = some (.slice A' ka ca) ∧ w.cell? (ad.add (k * 4 + 2)) = some (.int .i64 l[k].n) ∧ w.cell? (ad.add (k * 4 + 3)) = some (.slice B' kb cb) ∧
      ka = l[k].args.length ∧ ka ≤ ca ∧ Lies w ok 1 A' ka (strV l[k].args) ∧ kb ≤ cb ∧ StepsAt w ok B' kb l[k].block := by
  obtain ⟨h1, cells, h2, h3⟩ := h
  obtain ⟨ad, rfl, ho, hc⟩ := h2.2 (by omega)
  obtain ⟨A', ka, ca, B', kb, cb, bc, g1, g2, g3, g4, g5, g6, g7, g8, g9, g10, g11⟩ := h3.at_ hk
  exact ⟨ad, A', ka, ca, B', kb, cb, rfl, hc _ _ g1, hc _ _ g2, hc _ _ g3, hc _ _ g4, g5, g6, g7, g9, g8, bc, g10, g11⟩
end Go.Proofs.YtifiipmmgnmciaaGreatDoor.Lg
/- LgAll, what a claim needs of it (prune.py). -/
namespace Go.Proofs.YtifiipmmgnmciaaGreatDoor.Lg
open Go.RowKit
set_option linter.unusedVariables false
set_option maxRecDepth 100000
def allP (l : List ByteArray) : Bool := l.all fun p => pathOk (tl p)
theorem pathE_ne (s : List UInt8) : (pathE s != 0) = !pathOk s := by
  rw [pathE]; cases pathOk s <;> rfl
theorem allP_bad {l : List ByteArray} {k : Nat} (hk : k < l.length) (h : pathOk (tl (l[k]'hk)) = false) : allP l = false := by
  cases e : allP l with
  | false => rfl
  | true =>
    have := List.all_eq_true.1 e _ (List.getElem_mem hk)
    rw [h] at this; cases this
theorem allP_ok {l : List ByteArray} (h : ∀ j (hj : j < l.length), j < l.length → pathOk (tl (l[j]'hj)) = true) : allP l = true := by
  refine List.all_eq_true.2 fun x hx => ?_
  obtain ⟨j, hj, rfl⟩ := List.mem_iff_getElem.1 hx
  exact h j hj hj
theorem allf_any (p : ByteArray) (w : World) (hs : p.size ≤ 1000000000) (hE : Env w) :
    Calls Tryz.prog 224 #[.string p] w fun e w' => e = .returned (.bool (!pathOk (tl p))) ∧ Below w.heap.size w w' := by
  obtain ⟨⟨m, hm⟩, _⟩ := hE
  have PP := Lib.hid (ppath_any p m w hs hm)
  have NE := Lib.hid (pathE_ne (tl p))
  clear hm
  go_enter Tryz.func224, Tryz.ntmps224
  go_wp2_with (go_at_call 132; ((with_reducible refine (PP.out).mono ?_); rintro e w1 ⟨rfl, hb⟩))
  go_ret
  exact ⟨ret_bool NE.out.symm, hb⟩
theorem indexf_any (A : Option Addr) (l : List ByteArray) (c : Nat) (w : World) (hE : Env w) (hr : Strs w A l) (hl : l.length ≤ 1000000000) (hs : ∀ p ∈ l, p.size ≤ 1000000000) :
    Calls Tryz.prog 43 #[.slice A l.length c, .func (.func 224) #[] #[]] w fun e w' => (∃ r : Int, e = .returned (.int .i64 r) ∧ decide (0 ≤ r) = !allP l) ∧ Below w.heap.size w w' := by
  have EV : Hid (∀ W, Below w.heap.size w W → Env W) := Lib.hid fun W hW => hE.below hW
  have RD : Hid (∀ W, Below w.heap.size w W → Strs W A l) := Lib.hid fun W hW => hr.below hW
  have SZ := Lib.hid hs
  clear hE hr hs
  go_enter Tryz.func43, Tryz.ntmps43
  go_wp2_with (fail)
  go_loopw [8] (fun i W => ∃ k : Nat, i = .int .i64 k ∧ k ≤ l.length ∧ (∀ j (hj : j < l.length), j < k → pathOk (tl l[j]) = true) ∧ Below w.heap.size w W) (fun i _ => l.length - (intOf i).toNat)
  case atStart => exact ⟨0, rfl, by omega, fun j _ h => by omega, Below.refl _ _⟩
  case round =>
    obtain ⟨k, rfl, hk, ha, hb⟩ := hrel
    have HA := Lib.hid ha
    clear ha
    by_cases hlt : k < l.length
    · have hkI : (k : Int) < (l.length : Int) := by omega
      obtain ⟨ad, rfl, _, hc⟩ := (RD.out _ hb).at_ hlt
      have AF := Lib.hid (allf_any l[k] wr (SZ.out _ (List.getElem_mem hlt)) (EV.out _ hb))
      have NXT := Lib.hid (upto_next (p := fun p => pathOk (tl p)) hlt HA.out)
      have BAD := Lib.hid (allP_bad (l := l) hlt)
      generalize l[k] = p at *
      cases hp : pathOk (tl p)
      · rw [hp] at AF
        have F := Lib.hid (BAD.out hp)
        clear hp BAD
        go_wp2_with (go_at_call 224; ((with_reducible refine (AF.out).mono ?_); rintro e w1 ⟨rfl, hb1⟩))
        go_ret
        exact ⟨⟨k, rfl, by rw [F.out]; simp⟩, hb.trans (hb1.mono hb.size)⟩
      · rw [hp] at AF
        have F := Lib.hid (NXT.out hp)
        clear hp BAD
        go_wp2_with (go_at_call 224; ((with_reducible refine (AF.out).mono ?_); rintro e w1 ⟨rfl, hb1⟩))
        go_roundw
        case rel => exact ⟨k + 1, by go_num, by omega, F.out, hb.trans (hb1.mono hb.size)⟩
        case measure => simp [intOf]; omega
    · obtain rfl : k = l.length := by omega
      have F := Lib.hid (allP_ok (l := l) (fun j hj h => HA.out j hj h))
      go_wp2_with (fail)
      go_ret
      exact ⟨⟨-1, rfl, by rw [F.out]; rfl⟩, hb⟩
theorem containsf_any (A : Option Addr) (l : List ByteArray) (c : Nat) (w : World) (hE : Env w) (hr : Strs w A l) (hl : l.length ≤ 1000000000) (hs : ∀ p ∈ l, p.size ≤ 1000000000) :
    Calls Tryz.prog 118 #[.slice A l.length c, .func (.func 224) #[] #[]] w fun e w' => e = .returned (.bool (!allP l)) ∧ Below w.heap.size w w' := by
  have IX := Lib.hid (indexf_any A l c w hE hr hl hs)
  clear hE hr hs
  go_enter Tryz.func118, Tryz.ntmps118
  go_wp2_with (go_at_call 43; ((with_reducible refine (IX.out).mono ?_); rintro e w1 ⟨⟨r, rfl, hd⟩, hb⟩; have HD := Lib.hid hd; clear hd))
  go_ret
  exact ⟨ret_bool HD.out.symm, hb⟩
theorem lall_any (A : Option Addr) (l : List ByteArray) (c a b : Nat) (w : World) (hE : Env w) (hr : Strs w A l) (hl : l.length ≤ 1000000000) (hs : ∀ p ∈ l, p.size ≤ 1000000000) (ha : a ≤ 100) (hb : b ≤ 100) :
    Calls Tryz.prog 166 #[.slice A l.length c, .int .i64 a, .int .i64 b] w fun e w' => e = .returned (.bool (decide (a ≤ l.length) && decide (l.length ≤ b) && allP l)) ∧ Below w.heap.size w w' := by
  have CT := Lib.hid (containsf_any A l c w hE hr hl hs)
  clear hE hr hs
  by_cases h1 : a ≤ l.length
  · have e1 : (a : Int) ≤ (l.length : Int) := by omega
    by_cases h2 : l.length ≤ b
    · have e2 : (l.length : Int) ≤ (b : Int) := by omega
      have F : Hid ((decide (a ≤ l.length) && decide (l.length ≤ b) && allP l) = allP l) := Lib.hid (by rw [decide_eq_true h1, decide_eq_true h2]; rfl)
      generalize allP l = q at *
      clear h1 h2
      go_enter Tryz.func166, Tryz.ntmps166
      go_wp2_with (go_at_call 118; ((with_reducible refine (CT.out).mono ?_); rintro e w1 ⟨rfl, hb1⟩))
      go_ret
      exact ⟨ret_bool (by rw [F.out]; try (cases q <;> rfl)), hb1⟩
    · have e2 : ¬ (l.length : Int) ≤ (b : Int) := by omega
      have F : Hid ((decide (a ≤ l.length) && decide (l.length ≤ b) && allP l) = false) := Lib.hid (by rw [decide_eq_false h2]; simp)
      clear h1 h2
      go_enter Tryz.func166, Tryz.ntmps166
      go_wp2_with (fail)
      go_ret
      exact ⟨ret_bool F.out, Below.refl _ _⟩
  · have e1 : ¬ (a : Int) ≤ (l.length : Int) := by omega
    have F : Hid ((decide (a ≤ l.length) && decide (l.length ≤ b) && allP l) = false) := Lib.hid (by rw [decide_eq_false h1]; rfl)
    clear h1
    go_enter Tryz.func166, Tryz.ntmps166
    go_wp2_with (fail)
    go_ret
    exact ⟨ret_bool F.out, Below.refl _ _⟩
end Go.Proofs.YtifiipmmgnmciaaGreatDoor.Lg
/- LgEq, what a claim needs of it (prune.py). -/
namespace Go.Proofs.YtifiipmmgnmciaaGreatDoor.Lg
set_option linter.unusedVariables false
def sameL : List Stp → List Stp → Bool
  | [], [] => true
  | ⟨o, a, n, b⟩ :: r, ⟨o', a', n', b'⟩ :: r' => decide (o = o') && decide (n = n') && decide (a = a') && sameL b b' && sameL r r'
  | [], _ :: _ => false
  | _ :: _, [] => false
theorem sameL_refl : ∀ l, sameL l l = true
  | [] => by rw [sameL]
  | ⟨o, a, n, b⟩ :: r => by rw [sameL, sameL_refl b, sameL_refl r]; simp
theorem sameL_eq : ∀ {l m}, sameL l m = true → l = m
  | [], [], _ => rfl
  | [], _ :: _, h => by rw [sameL] at h; cases h
  | _ :: _, [], h => by rw [sameL] at h; cases h
  | ⟨o, a, n, b⟩ :: r, ⟨o', a', n', b'⟩ :: r', h => by
    rw [sameL] at h
    simp only [Bool.and_eq_true, decide_eq_true_eq] at h
    obtain ⟨⟨⟨⟨rfl, rfl⟩, rfl⟩, h1⟩, h2⟩ := h
    rw [sameL_eq h1, sameL_eq h2]
theorem sameL_len : ∀ {l m}, l.length ≠ m.length → sameL l m = false := by
  intro l m h
  cases e : sameL l m with
  | false => rfl
  | true => exact absurd (by rw [sameL_eq e]) h
def weight : List Stp → Nat
  | [] => 0
  | ⟨_, _, _, b⟩ :: r => 1 + weight b + weight r
def wide : List Stp → Nat
  | [] => 0
  | ⟨_, a, _, b⟩ :: r => a.length + wide b + wide r
theorem len_weight : ∀ l : List Stp, l.length ≤ weight l
  | [] => by simp
  | ⟨_, a, _, b⟩ :: r => by
    have := len_weight r
    simp only [List.length_cons, weight]; omega
theorem wide_at : ∀ {l : List Stp} {k : Nat} (hk : k < l.length), wide (l[k]).block + (l[k]).args.length ≤ wide l
  | ⟨_, a, _, b⟩ :: r, 0, hk => by simp only [wide, List.getElem_cons_zero, Stp.block, Stp.args]; omega
  | ⟨_, a, _, b⟩ :: r, k + 1, hk => by
    have := wide_at (l := r) (k := k) (by simpa using hk)
    simp only [List.getElem_cons_succ, wide]
    omega
theorem join_len (c : UInt8) : ∀ (x : B) (l : List B), l.length ≤ (joinB c (x :: l)).length
  | x, [] => by simp
  | x, y :: r => by
    have := join_len c y r
    rw [joinB]
    simp only [List.length_cons, List.length_append]
    omega
theorem flat_len : ∀ l : List B, (l.flatMap fun s => s ++ [10]).length = (l.map List.length).sum + l.length
  | [] => rfl
  | x :: r => by
    rw [List.flatMap_cons, List.length_append, flat_len r]
    simp; omega
theorem head_len (op : Int) (args : List B) (n : Int) : args.length ≤ (headW op args n).length := by
  have := join_len 32 (wordOf op) args
  rw [headW, List.length_append]
  omega
def plainL : List Stp → Prop
  | [] => True
  | ⟨o, _, _, b⟩ :: r => ((o = 9 ∨ o = 10) ∨ b = []) ∧ plainL b ∧ plainL r
theorem print_len : ∀ {l : List Stp}, plainL l → weight l + wide l ≤ ((linesOf l).map List.length).sum + (linesOf l).length
  | [], _ => by simp [weight, wide]
  | ⟨o, a, n, b⟩ :: r, h => by
    rw [plainL] at h
    have h1 := print_len h.2.1
    have h2 := print_len h.2.2
    have h3 := head_len o a n
    rw [linesOf, weight, wide]
    by_cases ho : o = 9 ∨ o = 10
    · rw [if_pos ho]
      simp only [List.cons_append, List.map_cons, List.sum_cons, List.length_cons, List.map_append, List.sum_append, List.length_append, List.map_nil, List.sum_nil, List.length_nil, Nat.add_zero]
      omega
    · rw [if_neg ho]
      have hb : b = [] := h.1.resolve_left ho
      subst hb
      simp only [weight, wide, List.cons_append, List.nil_append, List.map_cons, List.sum_cons, List.length_cons]
      omega
theorem plain_app : ∀ {a b : List Stp}, plainL a → plainL b → plainL (a ++ b)
  | [], b, _, h => h
  | ⟨o, x, n, k⟩ :: r, b, h, h2 => by
    rw [plainL] at h
    rw [List.cons_append, plainL]
    exact ⟨h.1, h.2.1, plain_app h.2.2 h2⟩
theorem bk_plain : ∀ (k deep : Nat) (out o : List Stp) (lines r : List B), lines.length ≤ k → plainL out → bk deep out lines = .ok o r → plainL o
  | k, deep, out, o, [], r, hk, hp, h => by
    rw [bk_nil] at h
    split at h
    · cases h
    · cases h; exact hp
  | 0, deep, out, o, line :: rest, r, hk, hp, h => absurd hk (by simp)
  | k + 1, deep, out, o, line :: rest, r, hk, hp, h => by
    simp only [List.length_cons] at hk
    rw [bk_cons] at h
    split at h
    · split at h
      · cases h; exact hp
      · cases h
    · split at h
      · cases h
      · next op args n e =>
        split at h
        · next hb =>
          split at h
          · cases h
          · split at h
            · cases h
            · next inn rest' e2 =>
              have hle := bk_le e2
              have h1 := bk_plain k (deep + 1) [] _ rest _ (by omega) (by simp [plainL]) e2
              exact bk_plain k deep _ _ rest' _ (by omega) (plain_app hp (by simp only [plainL]; exact ⟨.inl hb, h1, trivial⟩)) h
        · exact bk_plain k deep _ _ rest _ (by omega) (plain_app hp (by simp only [plainL]; exact ⟨.inr trivial, trivial, trivial⟩)) h
theorem parse_size {cmd : B} {m : List Stp} {e : Nat} (h : parse cmd = (m, e)) : weight m + wide m ≤ cmd.length := by
  by_cases he : e = 0
  · subst he
    have hp : plainL m := by
      rcases parse_ok h with ⟨_, rfl⟩ | ⟨_, _, _, r, hb⟩
      · simp [plainL]
      · exact bk_plain _ _ _ _ _ _ (Nat.le_refl _) (by simp [plainL]) hb
    have h1 := print_len hp
    have h2 := parse_print h
    rw [← flat_len] at h1
    rw [print] at h2
    rw [h2] at h1
    exact h1
  · have := parse_no (cmd := cmd) (by rw [h]; exact he)
    rw [h] at this
    simp only at this
    subst this
    simp [weight, wide]
def sameS (x y : Stp) : Bool := decide (x.op = y.op) && decide (x.n = y.n) && decide (x.args = y.args) && sameL x.block y.block
theorem weight_at : ∀ {l : List Stp} {k : Nat} (hk : k < l.length), weight (l[k]).block < weight l
  | ⟨_, _, _, b⟩ :: r, 0, hk => by simp only [weight, List.getElem_cons_zero, Stp.block]; omega
  | ⟨_, _, _, b⟩ :: r, k + 1, hk => by
    have := weight_at (l := r) (k := k) (by simpa using hk)
    simp only [List.getElem_cons_succ, weight]
    omega
theorem same_iff : ∀ {l m : List Stp}, l.length = m.length → (sameL l m = true ↔ ∀ k (h1 : k < l.length) (h2 : k < m.length), sameS l[k] m[k] = true)
  | [], [], _ => by simp [sameL]
  | [], _ :: _, h => by simp at h
  | _ :: _, [], h => by simp at h
  | ⟨o, a, n, b⟩ :: r, ⟨o', a', n', b'⟩ :: r', h => by
    rw [sameL]
    have ih := same_iff (l := r) (m := r') (by simpa using h)
    constructor
    · intro h1 k h2 h3
      rw [Bool.and_eq_true] at h1
      cases k with
      | zero => exact h1.1
      | succ k => exact ih.1 h1.2 k (by simpa using h2) (by simpa using h3)
    · intro h1
      rw [Bool.and_eq_true]
      exact ⟨h1 0 (by simp) (by simp), ih.2 fun k h2 h3 => h1 (k + 1) (by simp; omega) (by simp; omega)⟩
theorem same_all {l m : List Stp} (hl : l.length = m.length) (h : ∀ k (h1 : k < l.length) (h2 : k < m.length), k < l.length → sameS l[k] m[k] = true) : sameL l m = true :=
  (same_iff hl).2 fun k h1 h2 => h k h1 h2 h1
theorem same_bad {l m : List Stp} {k : Nat} (h1 : k < l.length) (h2 : k < m.length) (h : sameS l[k] m[k] = false) : sameL l m = false := by
  cases e : sameL l m with
  | false => rfl
  | true =>
    have hl : l.length = m.length := by rw [sameL_eq e]
    have := (same_iff hl).1 e k h1 h2
    rw [h] at this; cases this
end Go.Proofs.YtifiipmmgnmciaaGreatDoor.Lg
/- LgStepW, what a claim needs of it (prune.py). -/
namespace Go.Proofs.YtifiipmmgnmciaaGreatDoor.Lg
set_option linter.unusedVariables false
theorem stepW_cons (x : B) (a : List B) : stepW (x :: a) =
    if x = [112, 117, 116] then (if a.length = 2 ∧ (a.take 1).all pathOk = true ∧ (a.drop 1).all textOk = true then some ((1 : Int), a, (0 : Int)) else none) else
    if x = [99, 111, 112, 121] then (if a.length = 2 ∧ a.all pathOk = true then some ((2 : Int), a, (0 : Int)) else none) else
    if x = [99, 97, 116] then (if 2 ≤ a.length ∧ a.length ≤ 8 ∧ a.all pathOk = true then some ((3 : Int), a, (0 : Int)) else none) else
    if x = [117, 112, 112, 101, 114] then (if a.length = 1 ∧ a.all pathOk = true then some ((4 : Int), a, (0 : Int)) else none) else
    if x = [115, 111, 114, 116] then (if a.length = 1 ∧ a.all pathOk = true then some ((5 : Int), a, (0 : Int)) else none) else
    if x = [100, 114, 111, 112] then (if a.length = 1 ∧ a.all pathOk = true then some ((6 : Int), a, (0 : Int)) else none) else
    if x = [110, 101, 101, 100] then (if a.length = 1 ∧ a.all nameOk = true then some ((7 : Int), a, (0 : Int)) else none) else
    if x = [102, 97, 105, 108] then (if a.length = 1 ∧ a.all textOk = true then some ((8 : Int), a, (0 : Int)) else none) else
    if x = [108, 111, 111, 112] then (match a with | [x] => (match number x with | some k => some ((9 : Int), [], (k : Int)) | none => none) | _ => none) else
    if x = [105, 102] then (if a.length = 1 ∧ a.all pathOk = true then some ((10 : Int), a, (0 : Int)) else none) else
    none := by
  rcases a with _ | ⟨y, _ | ⟨z, t⟩⟩
  · rfl
  · unfold stepW; cases number y <;> rfl
  · rfl
theorem stepW_put (a : List B) : stepW ([112, 117, 116] :: a) = (if a.length = 2 ∧ (a.take 1).all pathOk = true ∧ (a.drop 1).all textOk = true then some ((1 : Int), a, (0 : Int)) else none) := by
  rw [stepW_cons]
  rw [if_pos rfl]
theorem stepW_copy (a : List B) : stepW ([99, 111, 112, 121] :: a) = (if a.length = 2 ∧ a.all pathOk = true then some ((2 : Int), a, (0 : Int)) else none) := by
  rw [stepW_cons]
  rw [if_neg (by decide), if_pos rfl]
theorem stepW_cat (a : List B) : stepW ([99, 97, 116] :: a) = (if 2 ≤ a.length ∧ a.length ≤ 8 ∧ a.all pathOk = true then some ((3 : Int), a, (0 : Int)) else none) := by
  rw [stepW_cons]
  rw [if_neg (by decide), if_neg (by decide), if_pos rfl]
theorem stepW_upper (a : List B) : stepW ([117, 112, 112, 101, 114] :: a) = (if a.length = 1 ∧ a.all pathOk = true then some ((4 : Int), a, (0 : Int)) else none) := by
  rw [stepW_cons]
  rw [if_neg (by decide), if_neg (by decide), if_neg (by decide), if_pos rfl]
theorem stepW_sort (a : List B) : stepW ([115, 111, 114, 116] :: a) = (if a.length = 1 ∧ a.all pathOk = true then some ((5 : Int), a, (0 : Int)) else none) := by
  rw [stepW_cons]
  rw [if_neg (by decide), if_neg (by decide), if_neg (by decide), if_neg (by decide), if_pos rfl]
theorem stepW_drop (a : List B) : stepW ([100, 114, 111, 112] :: a) = (if a.length = 1 ∧ a.all pathOk = true then some ((6 : Int), a, (0 : Int)) else none) := by
  rw [stepW_cons]
  rw [if_neg (by decide), if_neg (by decide), if_neg (by decide), if_neg (by decide), if_neg (by decide), if_pos rfl]
theorem stepW_need (a : List B) : stepW ([110, 101, 101, 100] :: a) = (if a.length = 1 ∧ a.all nameOk = true then some ((7 : Int), a, (0 : Int)) else none) := by
  rw [stepW_cons]
  rw [if_neg (by decide), if_neg (by decide), if_neg (by decide), if_neg (by decide), if_neg (by decide), if_neg (by decide), if_pos rfl]
theorem stepW_fail (a : List B) : stepW ([102, 97, 105, 108] :: a) = (if a.length = 1 ∧ a.all textOk = true then some ((8 : Int), a, (0 : Int)) else none) := by
  rw [stepW_cons]
  rw [if_neg (by decide), if_neg (by decide), if_neg (by decide), if_neg (by decide), if_neg (by decide), if_neg (by decide), if_neg (by decide), if_pos rfl]
theorem stepW_loop (a : List B) : stepW ([108, 111, 111, 112] :: a) = (match a with | [x] => (match number x with | some k => some ((9 : Int), [], (k : Int)) | none => none) | _ => none) := by
  rw [stepW_cons]
  rw [if_neg (by decide), if_neg (by decide), if_neg (by decide), if_neg (by decide), if_neg (by decide), if_neg (by decide), if_neg (by decide), if_neg (by decide), if_pos rfl]
theorem stepW_if (a : List B) : stepW ([105, 102] :: a) = (if a.length = 1 ∧ a.all pathOk = true then some ((10 : Int), a, (0 : Int)) else none) := by
  rw [stepW_cons]
  rw [if_neg (by decide), if_neg (by decide), if_neg (by decide), if_neg (by decide), if_neg (by decide), if_neg (by decide), if_neg (by decide), if_neg (by decide), if_neg (by decide), if_pos rfl]
theorem stepW_no {x : B} (a : List B) (h1 : x ≠ [112, 117, 116]) (h2 : x ≠ [99, 111, 112, 121]) (h3 : x ≠ [99, 97, 116]) (h4 : x ≠ [117, 112, 112, 101, 114]) (h5 : x ≠ [115, 111, 114, 116]) (h6 : x ≠ [100, 114, 111, 112]) (h7 : x ≠ [110, 101, 101, 100]) (h8 : x ≠ [102, 97, 105, 108]) (h9 : x ≠ [108, 111, 111, 112]) (h10 : x ≠ [105, 102]) : stepW (x :: a) = none := by
  rw [stepW_cons]
  rw [if_neg h1, if_neg h2, if_neg h3, if_neg h4, if_neg h5, if_neg h6, if_neg h7, if_neg h8, if_neg h9, if_neg h10]
end Go.Proofs.YtifiipmmgnmciaaGreatDoor.Lg
/- LgStepB, what a claim needs of it (prune.py). -/
namespace Go.Proofs.YtifiipmmgnmciaaGreatDoor.Lg
open Go.RowKit
set_option linter.unusedVariables false
def StepSays (w' : World) (ok : Nat → Prop) (ws : List B) (e : Ending) : Prop :=
  ∃ (op : Int) (A : Option Addr) (k c : Nat) (n : Int) (g : Bool), e = .returned (.tuple #[.agg #[.int .i64 op, .slice A k c, .int .i64 n, .slice none 0 0], .bool g]) ∧ k ≤ c ∧
    match stepW ws with
    | none => g = false
    | some (o, xs, m) => g = true ∧ op = o ∧ n = m ∧ k = xs.length ∧ Lies w' ok 1 A k (strV xs)
theorem StepSays.bad {w' : World} {ok : Nat → Prop} {ws : List B} (h : stepW ws = none) {op n : Int} {A : Option Addr} {k c : Nat} (hk : k ≤ c) :
    StepSays w' ok ws (.returned (.tuple #[.agg #[.int .i64 op, .slice A k c, .int .i64 n, .slice none 0 0], .bool false])) :=
  ⟨op, A, k, c, n, false, rfl, hk, by rw [h]⟩
theorem StepSays.good {w' : World} {ok : Nat → Prop} {ws : List B} {op n : Int} {xs : List B} (h : stepW ws = some (op, xs, n)) {A : Option Addr} {k c : Nat} (hk : k ≤ c) (hx : k = xs.length) (hl : Lies w' ok 1 A k (strV xs)) :
    StepSays w' ok ws (.returned (.tuple #[.agg #[.int .i64 op, .slice A k c, .int .i64 n, .slice none 0 0], .bool true])) :=
  ⟨op, A, k, c, n, true, rfl, hk, by rw [h]; exact ⟨rfl, rfl, rfl, hx, hl⟩⟩
theorem StepSays.paths {w' : World} {ok : Nat → Prop} {ws : List B} {op : Int} {xs : List B} {lo hi N : Nat} {p : Bool} (h : stepW ws = if lo ≤ N ∧ N ≤ hi ∧ p = true then some (op, xs, 0) else none) {A : Option Addr} (hx : N = xs.length) (hl : Lies w' ok 1 A N (strV xs)) :
    StepSays w' ok ws (.returned (.tuple #[.agg #[.int .i64 op, .slice A N N, .int .i64 0, .slice none 0 0], .bool (decide (lo ≤ N) && decide (N ≤ hi) && p)])) := by
  by_cases hc : lo ≤ N ∧ N ≤ hi ∧ p = true
  · rw [if_pos hc] at h
    rw [decide_eq_true hc.1, decide_eq_true hc.2.1, hc.2.2]
    exact .good h (Nat.le_refl _) hx hl
  · rw [if_neg hc] at h
    have e : (decide (lo ≤ N) && decide (N ≤ hi) && p) = false := by
      by_cases h1 : lo ≤ N
      · by_cases h2 : N ≤ hi
        · cases p with
          | false => simp
          | true => exact absurd ⟨h1, h2, rfl⟩ hc
        · simp [h2]
      · simp [h1]
    rw [e]
    exact .bad h (Nat.le_refl _)
theorem if_one {N K : Nat} {p : Bool} {α : Type} {x y : α} : (if N = K ∧ p = true then x else y) = if K ≤ N ∧ N ≤ K ∧ p = true then x else y := by
  by_cases h : N = K
  · subst h; simp
  · rw [if_neg (fun e => h e.1), if_neg (fun e => h (by omega))]
theorem allP_map (l : List ByteArray) : (l.map tl).all pathOk = allP l := by rw [List.all_map]; rfl
theorem len_map (l : List ByteArray) : (l.map tl).length = l.length := List.length_map ..
theorem strV_tl (l : List ByteArray) : strV (l.map tl) = l.map Value.string := by simp [strV, bs_tl, Function.comp_def]
theorem Strs.tail {w : World} {ad : Addr} {x y : ByteArray} {l : List ByteArray} (h : Strs w (some ad) (x :: y :: l)) : Strs w (some ⟨ad.block, ad.off + 1, none⟩) (y :: l) := by
  have h2 := Reads.cut (k := 1) (cap := (x :: y :: l).length) h (by simp) (Nat.le_refl _)
  rw [if_neg (by simp)] at h2
  exact h2
theorem Strs.head {w : World} {A : Option Addr} {x : ByteArray} {l : List ByteArray} (h : Strs w A (x :: l)) : Strs w A [x] := by
  refine ⟨by simp, fun _ => ?_⟩
  obtain ⟨ad, e, hb, hc⟩ := h.2 (by simp)
  refine ⟨ad, e, hb, fun j u hj => hc j u ?_⟩
  cases j with
  | zero => simpa using hj
  | succ j => simp at hj
theorem Strs.lies {w w' : World} {ad : Addr} {l : List ByteArray} (h : Strs w (some ad) l) (hb : Below w.heap.size w w') : Lies w' (fun b => b = ad.block) 1 (some ad) l.length (strV (l.map tl)) := by
  rw [strV_tl]
  have h2 : Lies w (fun b => b = ad.block) 1 (some ad) l.length (l.map Value.string) := by
    refine ⟨h.1, fun hn => ?_⟩
    obtain ⟨ad', e, _, hc⟩ := h.2 hn
    injection e with e
    subst e
    exact ⟨ad, rfl, rfl, hc⟩
  exact h2.mono (by omega) fun b ho hs => ⟨ho, hb.block b hs⟩
end Go.Proofs.YtifiipmmgnmciaaGreatDoor.Lg
