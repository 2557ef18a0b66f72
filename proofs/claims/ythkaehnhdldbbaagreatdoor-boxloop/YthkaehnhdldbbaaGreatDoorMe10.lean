/- Joined by mkmerged.py: LgBlockB, LgPrP, LgSameB, LgRprint, LgRmem. -/
import Derived.Test.YthkaehnhdldbbaaGreatDoorMe09
import Derived.Test.YthkaehnhdldbbaaGreatDoorMe04
import Derived.Test.YthkaehnhdldbbaaGreatDoorMe06
import Derived.Test.YthkaehnhdldbbaaGreatDoorMe05
import Derived.Test.YthkaehnhdldbbaaGreatDoorMeKm
import Derived.Deep.QuietTactic
import Derived.BigQuiet
import Derived.Test.YthkaehnhdldbbaaGreatDoorMeKt
import Derived.Deep.RegionWith
import Derived.Deep.CutRange
/- LgBlockB, what a claim needs of it (prune.py). -/
namespace Go.Proofs.YthkaehnhdldbbaaGreatDoor.Lg
open Go.RowKit
set_option linter.unusedVariables false
set_option maxRecDepth 100000
def opens (op : Int) : Bool := decide (op = 9) || decide (op = 10)
theorem begins_any (op n : Int) (A B : Option Addr) (k c kb cb : Nat) (w : World) :
    Calls Tryz.prog 90 #[.agg #[.int .i64 op, .slice A k c, .int .i64 n, .slice B kb cb]] w fun e w' => e = .returned (.bool (opens op)) ∧ Below w.heap.size w w' := by
  by_cases h9 : op = 9
  · subst h9
    go_enter Tryz.func90, Tryz.ntmps90
    go_wp2_with (fail)
    go_ret
    exact ⟨rfl, (Below.refl _ _).alloc (Nat.le_refl _) _⟩
  · by_cases h10 : op = 10
    · subst h10
      go_enter Tryz.func90, Tryz.ntmps90
      go_wp2_with (fail)
      go_ret
      exact ⟨rfl, (Below.refl _ _).alloc (Nat.le_refl _) _⟩
    · have g1 : (op == 9) = false := by simp [h9]
      have g2 : (op == 10) = false := by simp [h10]
      have F : Hid (opens op = false) := Lib.hid (by simp [opens, h9, h10])
      clear h9 h10
      go_enter Tryz.func90, Tryz.ntmps90
      go_wp2_with (fail)
      go_ret
      exact ⟨ret_bool F.out, (Below.refl _ _).alloc (Nat.le_refl _) _⟩
theorem opens_iff {op : Int} : opens op = true ↔ op = 9 ∨ op = 10 := by simp [opens]
def CtAt (w : World) (ba j : Nat) : Prop := w.heap[ba]? = some (.cells #[.int .i64 j] 3 (0, 0))
structure Cl (w : World) (ba bl bb : Nat) (A : Option Addr) (c : Nat) (L : List ByteArray) : Prop where
  nl : bl ≠ ba
  nb : bb ≠ ba
  lines : w.cell? ⟨bl, 0, none⟩ = some (.slice A L.length c)
  self : w.cell? ⟨bb, 0, none⟩ = some (.func (.func 88) #[] #[.pointer (some ⟨ba, 0, none⟩), .pointer (some ⟨bl, 0, none⟩), .pointer (some ⟨bb, 0, none⟩)])
  line : ∀ j (hj : j < L.length), ∃ ad, A = some ad ∧ ad.block ≠ ba ∧ w.cell? (ad.add j) = some (.string L[j])
theorem Cl.keep {w w' : World} {ba bl bb : Nat} {A : Option Addr} {c : Nat} {L : List ByteArray} (h : Cl w ba bl bb A c L) (hb : BelowX w.heap.size ba w w') : Cl w' ba bl bb A c L := by
  refine ⟨h.nl, h.nb, ?_, ?_, fun j hj => ?_⟩
  · exact (hb.cell (cell_lt h.lines) h.nl).trans h.lines
  · exact (hb.cell (cell_lt h.self) h.nb).trans h.self
  · obtain ⟨ad, h1, h2, h3⟩ := h.line j hj
    exact ⟨ad, h1, h2, (hb.cell (cell_lt h3) (by rw [block_of_add]; exact h2)).trans h3⟩
def BlockSays (w w' : World) (ba : Nat) (Ls : List B) (r : Res) (e : Ending) : Prop :=
  BelowX w.heap.size ba w w' ∧ match r with
  | .err k => e = .returned (.tuple #[.slice none 0 0, .int .i64 k])
  | .ok out rest => ∃ A k c j, e = .returned (.tuple #[.slice A k c, .int .i64 0]) ∧ k ≤ c ∧ StepsAt w' (fun b => w.heap.size ≤ b) A k out ∧ CtAt w' ba j ∧ j ≤ Ls.length ∧ rest = Ls.drop j
theorem own_steps {w : World} {B : Nat} {v : Value} {out : List Stp} {cells : List Value} {ok : Nat → Prop} (ho : w.ownsRow B 42 4 v out.length cells) (hr : RowAt w ok cells out) (hk : ∀ b, ok b → B ≤ b) :
    ∃ A k c, v = .slice A k c ∧ k ≤ c ∧ StepsAt w (fun b => B ≤ b) A k out := by
  have hr2 := hr.mono (w' := w) (ok' := fun b => B ≤ b) (fun b h _ => ⟨hk b h, rfl⟩)
  rcases ho.2 with ⟨rfl, h0⟩ | ⟨g, cap, cur, rfl, hB, hg, h1, h2, h3, h4⟩
  · have : out = [] := List.eq_nil_of_length_eq_zero h0
    subst this
    cases hr2
    exact ⟨none, 0, 0, rfl, Nat.le_refl _, rfl, [], Lies.none_, .nil⟩
  · refine ⟨_, _, _, rfl, h1, rfl, cells, ⟨ho.1, fun _ => ⟨_, rfl, hB, fun j u hu => ?_⟩⟩, hr2⟩
    exact ho.cells (g := g) rfl j u hu
theorem own_keep {w w' : World} {B : Nat} {e : TypeId} {size n : Nat} {v : Value} {xs : List Value} (h : w.ownsRow B e size v n xs) (hk : ∀ b, b < w.heap.size → B ≤ b → w'.heap[b]? = w.heap[b]?) : w'.ownsRow B e size v n xs := by
  refine ⟨h.1, ?_⟩
  rcases h.2 with h2 | ⟨g, cap, cur, hv, hB, hg, h1, h2, h3, h4⟩
  · exact .inl h2
  · exact .inr ⟨g, cap, cur, hv, hB, (hk g (lt_of_block hg) hB).trans hg, h1, h2, h3, h4⟩
theorem own_block {w : World} {B : Nat} {e : TypeId} {size n : Nat} {v : Value} {xs : List Value} (h : w.ownsRow B e size v n xs) {g : Nat} (hg : v.ownBlock = some g) : B ≤ g ∧ g < w.heap.size := by
  rcases h.2 with ⟨rfl, _⟩ | ⟨g', cap, cur, hv, hB, hh, _⟩
  · cases hg
  · subst hv
    injection hg with hg
    subst hg
    exact ⟨hB, lt_of_block hh⟩
abbrev okR (B : Nat) (v : Value) : Nat → Prop := fun b => B ≤ b ∧ some b ≠ v.ownBlock
theorem row_push {w w2 : World} {B : Nat} {v v2 : Value} {cells : List Value} {out : List Stp} {op n : Int} {A Bk : Option Addr} {k c kb cb : Nat} {args : List Lg.B} {inn : List Stp}
    (hr : RowAt w (okR B v) cells out) (hg : w.grownBy w2 v.ownBlock) (hat : v2.ownBlock = v.ownBlock ∨ v2.ownBlock = some w.heap.size)
    (hk : k = args.length) (hc : k ≤ c) (ha : Lies w (okR B v) 1 A k (strV args)) (hkb : kb ≤ cb) (hs : StepsAt w (okR B v) Bk kb inn) :
    RowAt w2 (okR B v2) (cells ++ [.int .i64 op, .slice A k c, .int .i64 n, .slice Bk kb cb]) (out ++ [⟨op, args, n, inn⟩]) := by
  obtain ⟨h1, bc, h2, h3⟩ := hs
  have h := hr.append (RowAt.cons (op := op) (n := n) hk hc ha h1 hkb h2 h3 .nil)
  refine h.mono fun b hb hlt => ⟨⟨hb.1, fun e => ?_⟩, hg.block b hlt hb.2⟩
  rcases hat with hat | hat
  · exact hb.2 (e.trans hat)
  · rw [hat] at e
    injection e with e
    omega
theorem push_on {w W1 w4 w2 : World} {ba i : Nat} {v : Value} (hx1 : BelowX w.heap.size ba w W1) (hlt : ba < w.heap.size) (OB : ∀ g, v.ownBlock = some g → w.heap.size ≤ g ∧ g < W1.heap.size)
    (h14 : BelowX W1.heap.size ba W1 w4) (hc : CtAt w4 ba i) (hg : w4.grownBy w2 v.ownBlock) : BelowX w.heap.size ba w w2 ∧ CtAt w2 ba i := by
  refine ⟨(hx1.trans (h14.mono hx1.size)).grown hg (Nat.le_trans hx1.size h14.size) (fun g h => .inl (OB g h).1), ?_⟩
  exact (hg.block ba (lt_of_block hc) (fun e => by have := (OB _ e.symm).1; omega)).trans hc
theorem row_at4 {w W1 w4 : World} {ba : Nat} {v : Value} {cells : List Value} {out : List Stp} (hlt : ba < w.heap.size) (hr : RowAt W1 (okR w.heap.size v) cells out) (h14 : BelowX W1.heap.size ba W1 w4) : RowAt w4 (okR w.heap.size v) cells out :=
  hr.mono fun b hb hs => ⟨hb, h14.block b hs (by have := hb.1; omega)⟩
theorem own_at4 {w W1 w4 : World} {ba : Nat} {v : Value} {cells : List Value} {n : Nat} (hlt : ba < w.heap.size) (ho : W1.ownsRow w.heap.size 42 4 v n cells) (h14 : BelowX W1.heap.size ba W1 w4) : w4.ownsRow w.heap.size 42 4 v n cells :=
  own_keep ho fun b hs hb => h14.block b hs (by omega)
theorem new_ok {w W1 : World} {v : Value} {b : Nat} (hs : w.heap.size ≤ W1.heap.size) (OB : ∀ g, v.ownBlock = some g → w.heap.size ≤ g ∧ g < W1.heap.size) (hb : W1.heap.size ≤ b) : okR w.heap.size v b :=
  ⟨by omega, fun e => by have := (OB _ e.symm).2; omega⟩
theorem size_setCell (w : World) (a : Addr) (u : Value) : (w.setCell a u).heap.size = w.heap.size := by simp [World.setCell]
theorem drop_line {L : List ByteArray} {j : Nat} (hj : j < L.length) : (L.map tl).drop j = tl L[j] :: (L.map tl).drop (j + 1) := by
  rw [List.drop_eq_getElem_cons (by simpa using hj)]
  simp
theorem lit_in {x : ByteArray} {l : List UInt8} (h : x.toList = l) : x = ⟨l.toArray⟩ := by
  rw [Lib.toList_data] at h
  exact tl_inj h
def ctr (w : World) (ba : Nat) : Nat := match w.heap[ba]? with
  | some (.cells cs _ _) => (intOf (cs.getD 0 undef)).toNat
  | _ => 0
theorem ctr_at {w : World} {ba i : Nat} (h : CtAt w ba i) : ctr w ba = i := by
  unfold ctr
  rw [h]
  rfl
theorem reads4 {w : World} {g : Nat} {a b c d : Value} {T : TypeId} (h : w.heap[g]? = some (.cells #[a, b, c, d] T (0, 0))) : Reads w (g + 1) 4 (some ⟨g, 0, none⟩) 1 [a, b, c, d] := by
  refine ⟨rfl, fun _ => ⟨_, rfl, Nat.lt_succ_self _, fun j y hj => ?_⟩⟩
  rw [add_eq, cell_at h]
  simpa using hj
theorem mem4 {op n : Int} {A B : Option Addr} {k c kb cb : Nat} : ∀ u ∈ [Value.int .i64 op, .slice A k c, .int .i64 n, .slice B kb cb], u.oneCell' = true := by
  intro u hu
  simp only [List.mem_cons, List.not_mem_nil, or_false] at hu
  rcases hu with rfl | rfl | rfl | rfl <;> rfl
theorem step_none {line : ByteArray} {w : World} (hE : Env w) (hs : line.size ≤ 1000000) (h : stepOf (tl line) = none) :
    Calls Tryz.prog 89 #[.string line] w fun e w' => (∃ (op : Int) (A : Option Addr) (k c : Nat) (n : Int), e = .returned (.tuple #[.agg #[.int .i64 op, .slice A k c, .int .i64 n, .slice none 0 0], .bool false])) ∧ Below w.heap.size w w' := by
  refine (lstep_any line w hE hs).mono ?_
  rintro e w' ⟨⟨op, A, k, c, n, g, rfl, hk, hm⟩, hb⟩
  unfold stepOf at h
  rw [h] at hm
  obtain rfl := hm
  exact ⟨⟨op, A, k, c, n, rfl⟩, hb⟩
theorem step_some {line : ByteArray} {w : World} {op n : Int} {xs : List B} (hE : Env w) (hs : line.size ≤ 1000000) (h : stepOf (tl line) = some (op, xs, n)) :
    Calls Tryz.prog 89 #[.string line] w fun e w' => (∃ (A : Option Addr) (k c : Nat), e = .returned (.tuple #[.agg #[.int .i64 op, .slice A k c, .int .i64 n, .slice none 0 0], .bool true]) ∧ k = xs.length ∧ k ≤ c ∧ Lies w' (fun b => w.heap.size ≤ b) 1 A k (strV xs)) ∧ Below w.heap.size w w' := by
  refine (lstep_any line w hE hs).mono ?_
  rintro e w' ⟨⟨op', A, k, c, n', g, rfl, hk, hm⟩, hb⟩
  unfold stepOf at h
  rw [h] at hm
  obtain ⟨rfl, rfl, rfl, hx, hl⟩ := hm
  exact ⟨⟨A, k, c, rfl, hx, hk, hl⟩, hb⟩
end Go.Proofs.YthkaehnhdldbbaaGreatDoor.Lg
/- LgPrP, what a claim needs of it (prune.py). -/
namespace Go.Proofs.YthkaehnhdldbbaaGreatDoor.Lg
set_option linter.unusedVariables false
def argsW (args : List B) : B := args.flatMap fun a => 32 :: a
theorem join_args (w : B) : ∀ args : List B, joinB 32 (w :: args) = w ++ argsW args
  | [] => by simp [joinB, argsW]
  | a :: r => by
    rw [joinB, join_args a r]
    simp [argsW]
theorem len_args : ∀ args : List B, args.length ≤ (argsW args).length
  | [] => by simp
  | a :: r => by
    have := len_args r
    simp only [argsW, List.flatMap_cons, List.length_append, List.length_cons] at *
    omega
def printS (x : Stp) : B := wordOf x.op ++ argsW x.args ++ (if x.op = 9 then 32 :: Lib.itoa x.n else []) ++ [10] ++ (if x.op = 9 ∨ x.op = 10 then print x.block ++ [101, 110, 100, 10] else [])
theorem print_nil : print [] = [] := by simp [print, linesOf]
theorem print_cons (x : Stp) (r : List Stp) : print (x :: r) = printS x ++ print r := by
  obtain ⟨op, args, n, b⟩ := x
  rw [print, linesOf, printS, headW, join_args]
  by_cases h : op = 9 ∨ op = 10
  · simp [h, print, endW, List.flatMap_append, Stp.op, Stp.args, Stp.n, Stp.block]
    rfl
  · simp [h, print, Stp.op, Stp.args, Stp.n]
    rfl
theorem print_append : ∀ a b : List Stp, print (a ++ b) = print a ++ print b
  | [], b => by rw [print_nil]; rfl
  | x :: r, b => by rw [List.cons_append, print_cons, print_cons, print_append r b, List.append_assoc]
theorem print_take {l : List Stp} {k : Nat} (h : k < l.length) : print (l.take (k + 1)) = print (l.take k) ++ printS l[k] := by
  rw [List.take_add_one, List.getElem?_eq_getElem h, print_append]
  simp [print_cons, print_nil]
theorem print_take_le (l : List Stp) (k : Nat) : (print (l.take k)).length ≤ (print l).length := by
  have h := congrArg (fun l => (print l).length) (List.take_append_drop k l)
  simp only [print_append, List.length_append] at h
  omega
theorem print_at_le {l : List Stp} {k : Nat} (h : k < l.length) : (print (l.take k)).length + (printS l[k]).length ≤ (print l).length := by
  have := print_take_le l (k + 1)
  rw [print_take h, List.length_append] at this
  exact this
def numL : List Stp → Prop
  | [] => True
  | ⟨_, _, n, b⟩ :: r => (-9223372036854775808 ≤ n ∧ n ≤ 9223372036854775807) ∧ numL b ∧ numL r
theorem numL_at : ∀ {l : List Stp} {k : Nat} (h : k < l.length), numL l → (-9223372036854775808 ≤ (l[k]).n ∧ (l[k]).n ≤ 9223372036854775807) ∧ numL (l[k]).block
  | ⟨_, _, n, b⟩ :: r, 0, h, hl => by rw [numL] at hl; exact ⟨hl.1, hl.2.1⟩
  | ⟨_, _, n, b⟩ :: r, k + 1, h, hl => by
    rw [numL] at hl
    exact numL_at (l := r) (k := k) (by simpa using h) hl.2.2
theorem words_len : ∀ op, (wordOf op).length ≤ 5 := by
  intro op
  unfold wordOf
  split
  · next h =>
    obtain ⟨h1, h2⟩ := h
    obtain ⟨j, rfl⟩ : ∃ j : Nat, op = j := ⟨op.toNat, by omega⟩
    have hj : j ≤ 10 := by omega
    have : ∀ j, j ≤ 10 → (wordsL.getD j [63]).length ≤ 5 := by decide
    exact this j hj
  · decide
theorem len_print : ∀ l : List Stp, l.length ≤ (print l).length
  | [] => by simp
  | x :: r => by
    have := len_print r
    rw [print_cons, List.length_append]
    have : 1 ≤ (printS x).length := by simp only [printS, List.length_append, List.length_singleton]; omega
    simp only [List.length_cons]; omega
theorem printS_len (x : Stp) : (printS x).length = (wordOf x.op).length + (argsW x.args).length + (if x.op = 9 then 1 + (Lib.itoa x.n).length else 0) + 1 + (if x.op = 9 ∨ x.op = 10 then (print x.block).length + 4 else 0) := by
  unfold printS
  by_cases h : x.op = 9 <;> by_cases h2 : x.op = 10 <;> simp [h, h2] <;> omega
end Go.Proofs.YthkaehnhdldbbaaGreatDoor.Lg
/- LgSameB, what a claim needs of it (prune.py). -/
namespace Go.Proofs.YthkaehnhdldbbaaGreatDoor.Lg
open Go.RowKit
set_option linter.unusedVariables false
set_option maxRecDepth 100000
theorem Lies.dn {w : World} {ok : Nat → Prop} {size n : Nat} {A : Option Addr} {xs : List Value} (h : Lies w ok size A n xs) (m : Nat) : Lies (w.drewN m) ok size A n xs := h
theorem RowAt.dn {w : World} {ok : Nat → Prop} {c : List Value} {l : List Stp} (h : RowAt w ok c l) (m : Nat) : RowAt (w.drewN m) ok c l := by
  induction h with
  | nil => exact .nil
  | cons h1 h2 h3 h4 h5 h6 _ _ ih1 ih2 => exact .cons h1 h2 h3 h4 h5 h6 ih1 ih2
theorem StepsAt.dn {w : World} {ok : Nat → Prop} {A : Option Addr} {n : Nat} {l : List Stp} (h : StepsAt w ok A n l) (m : Nat) : StepsAt (w.drewN m) ok A n l := by
  obtain ⟨h1, cells, h2, h3⟩ := h
  exact ⟨h1, cells, h2, h3.dn m⟩
theorem Lies.text {w : World} {ok : Nat → Prop} {A : Option Addr} {l : List B} {n : Nat} (h : Lies w ok 1 A n (strV l)) (hn : n = l.length) {k : Nat} (hk : k < l.length) : ∃ ad, A = some ad ∧ w.cell? (ad.add k) = some (.string (bs l[k])) := by
  obtain ⟨ad, rfl, _, hc⟩ := h.2 (by omega)
  exact ⟨ad, rfl, hc k _ (by rw [List.getElem?_map, List.getElem?_eq_getElem hk]; rfl)⟩
theorem list_eq {a b : List B} (hl : a.length = b.length) (h : ∀ k (h1 : k < a.length) (h2 : k < b.length), k < a.length → a[k] = b[k]) : a = b :=
  List.ext_getElem hl fun k h1 h2 => h k h1 h2 h1
end Go.Proofs.YthkaehnhdldbbaaGreatDoor.Lg
/- LgRprint, what a claim needs of it (prune.py). -/
namespace Go.Proofs.YthkaehnhdldbbaaGreatDoor.Lg
open Go.RowKit
set_option linter.unusedVariables false
set_option maxRecDepth 100000
theorem Lies.lbelow {w w' : World} {ok : Nat → Prop} {size n : Nat} {A : Option Addr} {xs : List Value} (h : Lies w ok size A n xs) (hs : 0 < size) (hb : Below w.heap.size w w') : Lies w' ok size A n xs := h.mono hs fun b ho hl => ⟨ho, hb.block b hl⟩
theorem heap_lt2 {w : World} {g : Nat} {o : Obj} (h : w.heap[g]? = some o) : g < w.heap.size := by
  rcases Nat.lt_or_ge g w.heap.size with h2 | h2
  · exact h2
  · rw [Array.getElem?_eq_none h2] at h; cases h
theorem own_below2 {w w' : World} {B : Nat} {e : TypeId} {size n : Nat} {v : Value} {xs : List Value} (h : w.ownsRow B e size v n xs) (hb : Below w.heap.size w w') : w'.ownsRow B e size v n xs := by
  refine ⟨h.1, ?_⟩
  rcases h.2 with h2 | ⟨g, cap, cur, rfl, hB, hg, r⟩
  · exact .inl h2
  · exact .inr ⟨g, cap, cur, rfl, hB, (hb.block g (heap_lt2 hg)).trans hg, r⟩
theorem cell_on {w W : World} {p : Addr} {u : Value} (h : w.cell? p = some u) (hb : Below w.heap.size w W) : W.cell? p = some u := by
  refine (hb.cell ?_).trans h
  unfold World.cell? at h
  rcases Nat.lt_or_ge p.block w.heap.size with h1 | h1
  · exact h1
  · rw [Array.getElem?_eq_none h1] at h; cases h
def PrAt (w W : World) (xb : Nat) (cs : Array Value) (v : Value) (s : B) : Prop :=
  W.ownsRow w.heap.size 5 1 v s.length (Lib.byteCells s) ∧ W.heap[xb]? = some (.cells cs 42 (0, 0)) ∧ Below w.heap.size w W ∧ w.heap.size ≤ xb
theorem PrAt.below {w W : World} {xb : Nat} {cs : Array Value} {v : Value} {s : B} (h : PrAt w W xb cs v s) : Below w.heap.size w W := h.2.2.1
theorem PrAt.on {w W W' : World} {xb : Nat} {cs : Array Value} {v : Value} {s : B} (h : PrAt w W xb cs v s) (hb : Below W.heap.size W W') : PrAt w W' xb cs v s :=
  ⟨own_below2 h.1 hb, (hb.block xb (heap_lt2 h.2.1)).trans h.2.1, h.2.2.1.trans (hb.mono h.2.2.1.size), h.2.2.2⟩
end Go.Proofs.YthkaehnhdldbbaaGreatDoor.Lg
/- LgRmem, what a claim needs of it (prune.py). -/
namespace Go.Proofs.YthkaehnhdldbbaaGreatDoor.Lg
open Go.RowKit
set_option linter.unusedVariables false
def Slot (w : World) (b b' : Nat) (X : Nat → Prop) (v : Value) (out : List Stp) : Prop :=
  ∃ cells, w.ownsRow b 42 4 v out.length cells ∧ RowAt w (fun x => b ≤ x ∧ x < b' ∧ some x ≠ v.ownBlock ∧ ¬ X x) cells out ∧ ∀ g, v.ownBlock = some g → g < b' ∧ ¬ X g
theorem Slot.none_ (w : World) (b b' : Nat) (X : Nat → Prop) : Slot w b b' X (.slice none 0 0) [] :=
  ⟨[], World.ownsRow_nil _ _ _ _, .nil, fun g h => by cases h⟩
theorem Slot.keep {w w' : World} {b b' b2 : Nat} {X X' : Nat → Prop} {v : Value} {out : List Stp} (h : Slot w b b' X v out) (hb : b' ≤ b2)
    (hk : ∀ x, b ≤ x → x < b' → x < w.heap.size → ¬ X x → ¬ X' x ∧ w'.heap[x]? = w.heap[x]?) : Slot w' b b2 X' v out := by
  obtain ⟨cells, h1, h2, h3⟩ := h
  refine ⟨cells, ?_, h2.mono fun x hx hs => ?_, fun g hg => ?_⟩
  · refine ⟨h1.1, ?_⟩
    rcases h1.2 with h4 | ⟨g, cap, cur, hv, hB, hg, r⟩
    · exact .inl h4
    · have h5 := h3 g (by rw [hv]; rfl)
      exact .inr ⟨g, cap, cur, hv, hB, ((hk g hB h5.1 (lt_of_block hg) h5.2).2).trans hg, r⟩
  · have := hk x hx.1 hx.2.1 hs hx.2.2.2
    exact ⟨⟨hx.1, by have := hx.2.1; omega, hx.2.2.1, this.1⟩, this.2⟩
  · have h5 := own_block h1 hg
    have h6 := h3 g hg
    exact ⟨by omega, (hk g h5.1 h6.1 h5.2 h6.2).1⟩
inductive Fr (w : World) (X : Nat → Prop) (B0 : Nat) : Nat → List Frame → List Value → List Value → Prop
  | nil {b : Nat} : B0 ≤ b → Fr w X B0 b [] [] []
  | cons {b b' : Nat} {f : Frame} {fs : List Frame} {hc vs : List Value} {v : Value} {A : Option Addr} {k c : Nat} :
      Fr w X B0 b fs hc vs → b ≤ b' → Slot w b b' X v f.out → k = f.args.length → k ≤ c → Lies w (fun x => b ≤ x ∧ x < b' ∧ some x ≠ v.ownBlock ∧ ¬ X x) 1 A k (strV f.args) →
      Fr w X B0 b' (f :: fs) (hc ++ [.int .i64 f.op, .slice A k c, .int .i64 f.n, .slice none 0 0]) (vs ++ [v])
theorem Fr.keep {w w' : World} {X X' : Nat → Prop} {B0 b : Nat} {fs : List Frame} {hc vs : List Value} (h : Fr w X B0 b fs hc vs)
    (hk : ∀ x, x < b → x < w.heap.size → ¬ X x → ¬ X' x ∧ w'.heap[x]? = w.heap[x]?) : Fr w' X' B0 b fs hc vs := by
  induction h with
  | nil h => exact .nil h
  | cons h1 hb hs h3 h4 h5 ih =>
    refine .cons (ih fun x hx => hk x (by omega)) hb (hs.keep (Nat.le_refl _) fun x _ hx => hk x hx) h3 h4 (h5.mono (by omega) fun x hx hlt => ?_)
    have := hk x hx.2.1 hlt hx.2.2.2
    exact ⟨⟨hx.1, hx.2.1, hx.2.2.1, this.1⟩, this.2⟩
theorem Fr.len {w : World} {X : Nat → Prop} {B0 b : Nat} {fs : List Frame} {hc vs : List Value} (h : Fr w X B0 b fs hc vs) : hc.length = fs.length * 4 ∧ vs.length = fs.length := by
  induction h with
  | nil h => exact ⟨rfl, rfl⟩
  | cons h1 hb hs h3 h4 h5 ih => simp only [List.length_append, List.length_cons, List.length_nil]; omega
theorem Fr.up {w : World} {X : Nat → Prop} {B0 b b2 : Nat} {fs : List Frame} {hc vs : List Value} (h : Fr w X B0 b fs hc vs) (hb : b ≤ b2) : Fr w X B0 b2 fs hc vs := by
  cases h with
  | nil h => exact .nil (Nat.le_trans h hb)
  | cons h1 h2 hs h3 h4 h5 =>
    exact .cons h1 (Nat.le_trans h2 hb) (hs.keep hb fun x _ _ _ hx => ⟨hx, rfl⟩) h3 h4 (h5.mono (by omega) fun x hx _ => ⟨⟨hx.1, by have := hx.2.1; omega, hx.2.2⟩, rfl⟩)
theorem Fr.inv {w : World} {X : Nat → Prop} {B0 b' : Nat} {f : Frame} {fs : List Frame} {hc vs : List Value} (h : Fr w X B0 b' (f :: fs) hc vs) :
    ∃ b hc' vs' v A k c, hc = hc' ++ [.int .i64 f.op, .slice A k c, .int .i64 f.n, .slice none 0 0] ∧ vs = vs' ++ [v] ∧ Fr w X B0 b fs hc' vs' ∧ b ≤ b' ∧ Slot w b b' X v f.out ∧ k = f.args.length ∧ k ≤ c ∧ Lies w (fun x => b ≤ x ∧ x < b' ∧ some x ≠ v.ownBlock ∧ ¬ X x) 1 A k (strV f.args) := by
  cases h with
  | cons h1 h2 h3 h4 h5 h6 => exact ⟨_, _, _, _, _, _, _, rfl, rfl, h1, h2, h3, h4, h5, h6⟩
theorem Fr.base {w : World} {X : Nat → Prop} {B0 b : Nat} {fs : List Frame} {hc vs : List Value} (h : Fr w X B0 b fs hc vs) : B0 ≤ b := by
  induction h with
  | nil h => exact h
  | cons h1 h2 h3 h4 h5 h6 ih => omega
def own2 (h k : Value) : Nat → Prop := fun x => some x = h.ownBlock ∨ some x = k.ownBlock
abbrev okS (b b' : Nat) (X : Nat → Prop) (v : Value) : Nat → Prop := fun x => b ≤ x ∧ x < b' ∧ some x ≠ v.ownBlock ∧ ¬ X x
theorem slot_push {w w2 : World} {b b' : Nat} {X X' : Nat → Prop} {v v2 : Value} {cells : List Value} {out : List Stp} {op n : Int} {A Bk : Option Addr} {k c kb cb : Nat} {args : List Lg.B} {inn : List Stp}
    (hr : RowAt w (okS b b' X v) cells out) (hb : b' ≤ w.heap.size) (hs : w.heap.size ≤ w2.heap.size)
    (hown : w2.ownsRow b 42 4 v2 (out.length + 1) (cells ++ [.int .i64 op, .slice A k c, .int .i64 n, .slice Bk kb cb]))
    (hsame : ∀ x, b ≤ x → x < w.heap.size → some x ≠ v.ownBlock → ¬ X x → ¬ X' x ∧ w2.heap[x]? = w.heap[x]?)
    (hat : ∀ g, v2.ownBlock = some g → (v.ownBlock = some g ∨ w.heap.size ≤ g) ∧ ¬ X' g)
    (hk : k = args.length) (hc : k ≤ c) (ha : Lies w (okS b w.heap.size X v) 1 A k (strV args)) (hkb : kb ≤ cb) (hin : StepsAt w (okS b w.heap.size X v) Bk kb inn) :
    Slot w2 b w2.heap.size X' v2 (out ++ [⟨op, args, n, inn⟩]) := by
  obtain ⟨h1, bc, h2, h3⟩ := hin
  have hr2 : RowAt w (okS b w.heap.size X v) cells out := hr.mono fun x hx _ => ⟨⟨hx.1, by have := hx.2.1; omega, hx.2.2⟩, rfl⟩
  have h := hr2.append (RowAt.cons (op := op) (n := n) hk hc ha h1 hkb h2 h3 .nil)
  refine ⟨_, by rw [List.length_append]; exact hown, h.mono fun x hx hlt => ?_, fun g hg => ⟨(own_block hown hg).2, (hat g hg).2⟩⟩
  obtain ⟨g1, g2⟩ := hsame x hx.1 hlt hx.2.2.1 hx.2.2.2
  refine ⟨⟨hx.1, by omega, fun e => ?_, g1⟩, g2⟩
  rcases (hat x e.symm).1 with h5 | h5
  · exact hx.2.2.1 h5.symm
  · omega
theorem Slot.steps {w : World} {b b' : Nat} {X : Nat → Prop} {v : Value} {out : List Stp} (h : Slot w b b' X v out) : ∃ A k c, v = .slice A k c ∧ k ≤ c ∧ StepsAt w (fun x => b ≤ x ∧ x < b' ∧ ¬ X x) A k out := by
  obtain ⟨cells, ho, hr, hx⟩ := h
  have hr2 := hr.mono (w' := w) (ok' := fun x => b ≤ x ∧ x < b' ∧ ¬ X x) (fun x h _ => ⟨⟨h.1, h.2.1, h.2.2.2⟩, rfl⟩)
  rcases ho.2 with ⟨rfl, h0⟩ | ⟨g, cap, cur, rfl, hB, hg, h1, h2, h3, h4⟩
  · have : out = [] := List.eq_nil_of_length_eq_zero h0
    subst this
    cases hr2
    exact ⟨none, 0, 0, rfl, Nat.le_refl _, rfl, [], Lies.none_, .nil⟩
  · have h5 := hx g rfl
    refine ⟨_, _, _, rfl, h1, rfl, cells, ⟨ho.1, fun _ => ⟨_, rfl, ⟨hB, h5.1, h5.2⟩, fun j u hu => ?_⟩⟩, hr2⟩
    exact ho.cells (g := g) rfl j u hu
end Go.Proofs.YthkaehnhdldbbaaGreatDoor.Lg
