/- What the closure of lang.Parse finds in memory, what it answers, and small laws for its walk; lang.begins. -/
import Derived.Test.YtoofflnaebkigaaDoorLgLnil
import Derived.Test.YtoofflnaebkigaaDoorLgMach
namespace Go.Proofs.YtoofflnaebkigaaDoor.Lg
open Go.RowKit
set_option linter.unusedVariables false
set_option maxRecDepth 100000
/-- begins a block -/
def opens (op : Int) : Bool := decide (op = 9) || decide (op = 10)
theorem begins_any (op n : Int) (A B : Option Addr) (k c kb cb : Nat) (w : World) :
    Calls Tryd.prog 47 #[.agg #[.int .i64 op, .slice A k c, .int .i64 n, .slice B kb cb]] w fun e w' => e = .returned (.bool (opens op)) ∧ Below w.heap.size w w' := by
  by_cases h9 : op = 9
  · subst h9
    go_enter Tryd.func47, Tryd.ntmps47
    go_wp2_with (fail)
    go_ret
    exact ⟨rfl, (Below.refl _ _).alloc (Nat.le_refl _) _⟩
  · by_cases h10 : op = 10
    · subst h10
      go_enter Tryd.func47, Tryd.ntmps47
      go_wp2_with (fail)
      go_ret
      exact ⟨rfl, (Below.refl _ _).alloc (Nat.le_refl _) _⟩
    · have g1 : (op == 9) = false := by simp [h9]
      have g2 : (op == 10) = false := by simp [h10]
      have F : Hid (opens op = false) := Lib.hid (by simp [opens, h9, h10])
      clear h9 h10
      go_enter Tryd.func47, Tryd.ntmps47
      go_wp2_with (fail)
      go_ret
      exact ⟨ret_bool F.out, (Below.refl _ _).alloc (Nat.le_refl _) _⟩
theorem opens_iff {op : Int} : opens op = true ↔ op = 9 ∨ op = 10 := by simp [opens]
/-- the counter in its block -/
def CtAt (w : World) (ba j : Nat) : Prop := w.heap[ba]? = some (.cells #[.int .i64 j] 3 (0, 0))
/-- what the closure holds -/
structure Cl (w : World) (ba bl bb : Nat) (A : Option Addr) (c : Nat) (L : List ByteArray) : Prop where
  nl : bl ≠ ba
  nb : bb ≠ ba
  lines : w.cell? ⟨bl, 0, none⟩ = some (.slice A L.length c)
  self : w.cell? ⟨bb, 0, none⟩ = some (.func (.func 45) #[] #[.pointer (some ⟨ba, 0, none⟩), .pointer (some ⟨bl, 0, none⟩), .pointer (some ⟨bb, 0, none⟩)])
  line : ∀ j (hj : j < L.length), ∃ ad, A = some ad ∧ ad.block ≠ ba ∧ w.cell? (ad.add j) = some (.string L[j])
theorem Cl.keep {w w' : World} {ba bl bb : Nat} {A : Option Addr} {c : Nat} {L : List ByteArray} (h : Cl w ba bl bb A c L) (hb : BelowX w.heap.size ba w w') : Cl w' ba bl bb A c L := by
  refine ⟨h.nl, h.nb, ?_, ?_, fun j hj => ?_⟩
  · exact (hb.cell (cell_lt h.lines) h.nl).trans h.lines
  · exact (hb.cell (cell_lt h.self) h.nb).trans h.self
  · obtain ⟨ad, h1, h2, h3⟩ := h.line j hj
    exact ⟨ad, h1, h2, (hb.cell (cell_lt h3) (by rw [block_of_add]; exact h2)).trans h3⟩
/-- what the closure answers -/
def BlockSays (w w' : World) (ba : Nat) (Ls : List B) (r : Res) (e : Ending) : Prop :=
  BelowX w.heap.size ba w w' ∧ match r with
  | .err k => e = .returned (.tuple #[.slice none 0 0, .int .i64 k])
  | .ok out rest => ∃ A k c j, e = .returned (.tuple #[.slice A k c, .int .i64 0]) ∧ k ≤ c ∧ StepsAt w' (fun b => w.heap.size ≤ b) A k out ∧ CtAt w' ba j ∧ j ≤ Ls.length ∧ rest = Ls.drop j
theorem own_steps {w : World} {B : Nat} {v : Value} {out : List Stp} {cells : List Value} {ok : Nat → Prop} (ho : w.ownsRow B 59 4 v out.length cells) (hr : RowAt w ok cells out) (hk : ∀ b, ok b → B ≤ b) :
    ∃ A k c, v = .slice A k c ∧ k ≤ c ∧ StepsAt w (fun b => B ≤ b) A k out := by
  have hr2 := hr.mono (w' := w) (ok' := fun b => B ≤ b) (fun b h _ => ⟨hk b h, rfl⟩)
  rcases ho.2 with ⟨rfl, h0⟩ | ⟨g, cap, cur, rfl, hB, hg, h1, h2, h3, h4⟩
  · have : out = [] := List.eq_nil_of_length_eq_zero h0
    subst this
    cases hr2
    exact ⟨none, 0, 0, rfl, Nat.le_refl _, rfl, [], Lies.none_, .nil⟩
  · refine ⟨_, _, _, rfl, h1, rfl, cells, ⟨ho.1, fun _ => ⟨_, rfl, hB, fun j u hu => ?_⟩⟩, hr2⟩
    exact ho.cells (g := g) rfl j u hu
theorem own_keep {w w' : World} {B : Nat} {e : TypeId} {size n : Nat} {v : Value} {xs : List Value} (h : w.ownsRow B e size v n xs) (hk : ∀ b, b < w.heap.size → B ≤ b → w'.heap[b]? = w.heap[b]?) : w'.ownsRow B e size v n xs := by
  refine ⟨h.1, ?_⟩
  rcases h.2 with h2 | ⟨g, cap, cur, hv, hB, hg, h1, h2, h3, h4⟩
  · exact .inl h2
  · exact .inr ⟨g, cap, cur, hv, hB, (hk g (lt_of_block hg) hB).trans hg, h1, h2, h3, h4⟩
theorem own_block {w : World} {B : Nat} {e : TypeId} {size n : Nat} {v : Value} {xs : List Value} (h : w.ownsRow B e size v n xs) {g : Nat} (hg : v.ownBlock = some g) : B ≤ g ∧ g < w.heap.size := by
  rcases h.2 with ⟨rfl, _⟩ | ⟨g', cap, cur, hv, hB, hh, _⟩
  · cases hg
  · subst hv
    injection hg with hg
    subst hg
    exact ⟨hB, lt_of_block hh⟩
/-- the row's allowed blocks -/
abbrev okR (B : Nat) (v : Value) : Nat → Prop := fun b => B ≤ b ∧ some b ≠ v.ownBlock
/-- a step is appended to a row of the call's own -/
theorem row_push {w w2 : World} {B : Nat} {v v2 : Value} {cells : List Value} {out : List Stp} {op n : Int} {A Bk : Option Addr} {k c kb cb : Nat} {args : List Lg.B} {inn : List Stp}
    (hr : RowAt w (okR B v) cells out) (hg : w.grownBy w2 v.ownBlock) (hat : v2.ownBlock = v.ownBlock ∨ v2.ownBlock = some w.heap.size)
    (hk : k = args.length) (hc : k ≤ c) (ha : Lies w (okR B v) 1 A k (strV args)) (hkb : kb ≤ cb) (hs : StepsAt w (okR B v) Bk kb inn) :
    RowAt w2 (okR B v2) (cells ++ [.int .i64 op, .slice A k c, .int .i64 n, .slice Bk kb cb]) (out ++ [⟨op, args, n, inn⟩]) := by
  obtain ⟨h1, bc, h2, h3⟩ := hs
  have h := hr.append (RowAt.cons (op := op) (n := n) hk hc ha h1 hkb h2 h3 .nil)
  refine h.mono fun b hb hlt => ⟨⟨hb.1, fun e => ?_⟩, hg.block b hlt hb.2⟩
  rcases hat with hat | hat
  · exact hb.2 (e.trans hat)
  · rw [hat] at e
    injection e with e
    omega
theorem push_on {w W1 w4 w2 : World} {ba i : Nat} {v : Value} (hx1 : BelowX w.heap.size ba w W1) (hlt : ba < w.heap.size) (OB : ∀ g, v.ownBlock = some g → w.heap.size ≤ g ∧ g < W1.heap.size)
    (h14 : BelowX W1.heap.size ba W1 w4) (hc : CtAt w4 ba i) (hg : w4.grownBy w2 v.ownBlock) : BelowX w.heap.size ba w w2 ∧ CtAt w2 ba i := by
  refine ⟨(hx1.trans (h14.mono hx1.size)).grown hg (Nat.le_trans hx1.size h14.size) (fun g h => .inl (OB g h).1), ?_⟩
  exact (hg.block ba (lt_of_block hc) (fun e => by have := (OB _ e.symm).1; omega)).trans hc
theorem row_at4 {w W1 w4 : World} {ba : Nat} {v : Value} {cells : List Value} {out : List Stp} (hlt : ba < w.heap.size) (hr : RowAt W1 (okR w.heap.size v) cells out) (h14 : BelowX W1.heap.size ba W1 w4) : RowAt w4 (okR w.heap.size v) cells out :=
  hr.mono fun b hb hs => ⟨hb, h14.block b hs (by have := hb.1; omega)⟩
theorem own_at4 {w W1 w4 : World} {ba : Nat} {v : Value} {cells : List Value} {n : Nat} (hlt : ba < w.heap.size) (ho : W1.ownsRow w.heap.size 59 4 v n cells) (h14 : BelowX W1.heap.size ba W1 w4) : w4.ownsRow w.heap.size 59 4 v n cells :=
  own_keep ho fun b hs hb => h14.block b hs (by omega)
/-- what was made behind W1 is allowed in the row -/
theorem new_ok {w W1 : World} {v : Value} {b : Nat} (hs : w.heap.size ≤ W1.heap.size) (OB : ∀ g, v.ownBlock = some g → w.heap.size ≤ g ∧ g < W1.heap.size) (hb : W1.heap.size ≤ b) : okR w.heap.size v b :=
  ⟨by omega, fun e => by have := (OB _ e.symm).2; omega⟩
theorem size_setCell (w : World) (a : Addr) (u : Value) : (w.setCell a u).heap.size = w.heap.size := by simp [World.setCell]
theorem drop_line {L : List ByteArray} {j : Nat} (hj : j < L.length) : (L.map tl).drop j = tl L[j] :: (L.map tl).drop (j + 1) := by
  rw [List.drop_eq_getElem_cons (by simpa using hj)]
  simp
theorem lit_in {x : ByteArray} {l : List UInt8} (h : x.toList = l) : x = ⟨l.toArray⟩ := by
  rw [Lib.toList_data] at h
  exact tl_inj h
/-- the counter -/
def ctr (w : World) (ba : Nat) : Nat := match w.heap[ba]? with
  | some (.cells cs _ _) => (intOf (cs.getD 0 undef)).toNat
  | _ => 0
theorem ctr_at {w : World} {ba i : Nat} (h : CtAt w ba i) : ctr w ba = i := by
  unfold ctr
  rw [h]
  rfl
theorem reads4 {w : World} {g : Nat} {a b c d : Value} {T : TypeId} (h : w.heap[g]? = some (.cells #[a, b, c, d] T (0, 0))) : Reads w (g + 1) 4 (some ⟨g, 0, none⟩) 1 [a, b, c, d] := by
  refine ⟨rfl, fun _ => ⟨_, rfl, Nat.lt_succ_self _, fun j y hj => ?_⟩⟩
  rw [add_eq, cell_at h]
  simpa using hj
theorem mem4 {op n : Int} {A B : Option Addr} {k c kb cb : Nat} : ∀ u ∈ [Value.int .i64 op, .slice A k c, .int .i64 n, .slice B kb cb], u.oneCell' = true := by
  intro u hu
  simp only [List.mem_cons, List.not_mem_nil, or_false] at hu
  rcases hu with rfl | rfl | rfl | rfl <;> rfl
theorem step_none {line : ByteArray} {w : World} (hE : Env w) (hs : line.size ≤ 1000000) (h : stepOf (tl line) = none) :
    Calls Tryd.prog 46 #[.string line] w fun e w' => (∃ (op : Int) (A : Option Addr) (k c : Nat) (n : Int), e = .returned (.tuple #[.agg #[.int .i64 op, .slice A k c, .int .i64 n, .slice none 0 0], .bool false])) ∧ Below w.heap.size w w' := by
  refine (lstep_any line w hE hs).mono ?_
  rintro e w' ⟨⟨op, A, k, c, n, g, rfl, hk, hm⟩, hb⟩
  unfold stepOf at h
  rw [h] at hm
  obtain rfl := hm
  exact ⟨⟨op, A, k, c, n, rfl⟩, hb⟩
theorem step_some {line : ByteArray} {w : World} {op n : Int} {xs : List B} (hE : Env w) (hs : line.size ≤ 1000000) (h : stepOf (tl line) = some (op, xs, n)) :
    Calls Tryd.prog 46 #[.string line] w fun e w' => (∃ (A : Option Addr) (k c : Nat), e = .returned (.tuple #[.agg #[.int .i64 op, .slice A k c, .int .i64 n, .slice none 0 0], .bool true]) ∧ k = xs.length ∧ k ≤ c ∧ Lies w' (fun b => w.heap.size ≤ b) 1 A k (strV xs)) ∧ Below w.heap.size w w' := by
  refine (lstep_any line w hE hs).mono ?_
  rintro e w' ⟨⟨op', A, k, c, n', g, rfl, hk, hm⟩, hb⟩
  unfold stepOf at h
  rw [h] at hm
  obtain ⟨rfl, rfl, rfl, hx, hl⟩ := hm
  exact ⟨⟨A, k, c, rfl, hx, hk, hl⟩, hb⟩
end Go.Proofs.YtoofflnaebkigaaDoor.Lg
