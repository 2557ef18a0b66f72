/- The loop of the reference's Parse: what it holds from round to round, without a walk. -/
import Derived.Test.YtoofflnaebkigaaDoorLgRlay
import Derived.Test.YtoofflnaebkigaaDoorLgParse
import Derived.Test.YtoofflnaebkigaaDoorLgRstep
namespace Go.Proofs.YtoofflnaebkigaaDoor.Lg
open Go.RowKit
set_option linter.unusedVariables false
set_option maxRecDepth 100000
theorem infoL : (Tryd.prog.info? 44).map (fun i => (i.zero, i.size, i.bytes)) = some (some (.slice none 0 0), 1, 24) := by kernel_rfl
/-- what the loop holds: the row of slices, the row of heads, the frames -/
def Rp (B0 : Nat) (wr : World) (kv hv : Value) (fs : List Frame) (cur : List Stp) : Prop :=
  ∃ (b : Nat) (hc vs : List Value) (v : Value), wr.ownsRow B0 44 1 kv (fs.length + 1) (vs ++ [v]) ∧ wr.ownsRow B0 59 4 hv fs.length hc ∧ Fr wr (own2 hv kv) B0 b fs hc vs ∧ Slot wr b wr.heap.size (own2 hv kv) v cur ∧ B0 ≤ b ∧ b ≤ wr.heap.size
theorem Rp.start (w1 : World) : Rp w1.heap.size (w1.alloc (.cells #[.slice none 0 0] 44)) (.slice (some ⟨w1.heap.size, 0, none⟩) 1 1) (.slice none 0 0) [] [] := by
  refine ⟨w1.heap.size, [], [], .slice none 0 0, ⟨rfl, .inr ⟨w1.heap.size, 1, _, rfl, Nat.le_refl _, heap_new w1 _, Nat.le_refl _, by simp [maxLen], rfl, rfl⟩⟩, World.ownsRow_nil _ _ _ _, Fr.nil (Nat.le_refl _), Slot.none_ _ _ _ _, Nat.le_refl _, by simp⟩
theorem own_ne {w : World} {B1 B2 n1 n2 s1 s2 : Nat} {e1 e2 : TypeId} {v1 v2 : Value} {x1 x2 : List Value} (h1 : w.ownsRow B1 e1 s1 v1 n1 x1) (h2 : w.ownsRow B2 e2 s2 v2 n2 x2) (he : e1 ≠ e2) {g : Nat} (hg : v1.ownBlock = some g) : v2.ownBlock ≠ some g := by
  intro hg2
  rcases h1.2 with ⟨rfl, _⟩ | ⟨g1, c1, u1, rfl, _, hh1, _⟩
  · cases hg
  · rcases h2.2 with ⟨rfl, _⟩ | ⟨g2, c2, u2, rfl, _, hh2, _⟩
    · cases hg2
    · injection hg with hg
      injection hg2 with hg2
      simp only at hg hg2
      subst hg
      subst hg2
      rw [hh1] at hh2
      injection hh2 with hh2
      injection hh2 with _ ht
      exact he ht
/-- a block is begun: its head and an empty slot are laid behind the others -/
theorem Rp.push {B0 b : Nat} {wr w3 w5 : World} {hv kv hv2 kv2 v : Value} {fs : List Frame} {cur : List Stp} {hc vs : List Value} {op n : Int} {A : Option Addr} {k c g2 : Nat} {args : List Lg.B}
    (hb3 : Below wr.heap.size wr w3) (h35 : w3.heap.size ≤ w5.heap.size)
    (hK : ∀ x, x < w3.heap.size → ¬ own2 hv kv x → w5.heap[x]? = w3.heap[x]?) (hX : ∀ x, own2 hv2 kv2 x → own2 hv kv x ∨ w3.heap.size ≤ x) (hXo : ∀ x, own2 hv kv x → x < wr.heap.size)
    (ok : w5.ownsRow B0 44 1 kv2 (fs.length + 1 + 1) (vs ++ [v] ++ [.slice none 0 0])) (oh : w5.ownsRow B0 59 4 hv2 (fs.length + 1) (hc ++ [.int .i64 op, .slice A k c, .int .i64 n, .slice none 0 0]))
    (hf : Fr wr (own2 hv kv) B0 b fs hc vs) (hs : Slot wr b wr.heap.size (own2 hv kv) v cur) (hB0 : B0 ≤ b) (hbs : b ≤ wr.heap.size)
    (hk : k = args.length) (hc' : k ≤ c) (hl : Lies w3 (fun x => x = g2) 1 A k (strV args)) (hg2 : wr.heap.size ≤ g2) :
    Rp B0 w5 kv2 hv2 (⟨op, args, n, cur⟩ :: fs) [] := by
  have key : ∀ x, x < wr.heap.size → ¬ own2 hv kv x → ¬ own2 hv2 kv2 x ∧ w5.heap[x]? = wr.heap[x]? := fun x hx hn => by
    have h3 := hb3.size
    refine ⟨fun h => ?_, (hK x (by omega) hn).trans (hb3.block x hx)⟩
    rcases hX x h with h | h
    · exact hn h
    · omega
  have h3 := hb3.size
  refine ⟨w5.heap.size, _, vs ++ [v], .slice none 0 0, ok, oh, .cons (hf.keep fun x hx _ hn => key x (by omega) hn) (by omega) (hs.keep (by omega) fun x _ hx _ hn => key x hx hn) hk hc' (hl.mono (by omega) ?_), Slot.none_ _ _ _ _, by omega, Nat.le_refl _⟩
  rintro x rfl hx
  obtain ⟨cells, o1, _, o3⟩ := hs
  refine ⟨⟨by omega, by omega, fun e => by have := (o3 _ e.symm).1; omega, fun h => ?_⟩, hK _ hx (fun h => by have := hXo _ h; omega)⟩
  rcases hX _ h with h | h
  · have := hXo _ h; omega
  · omega
theorem own_keepB {w w' : World} {B : Nat} {e : TypeId} {size n : Nat} {v : Value} {xs : List Value} (h : w.ownsRow B e size v n xs) (hk : ∀ g, v.ownBlock = some g → w'.heap[g]? = w.heap[g]?) : w'.ownsRow B e size v n xs := by
  refine ⟨h.1, ?_⟩
  rcases h.2 with h2 | ⟨g, cap, cur, rfl, hB, hg, h1, h2, h3, h4⟩
  · exact .inl h2
  · exact .inr ⟨g, cap, cur, rfl, hB, (hk g rfl).trans hg, h1, h2, h3, h4⟩
/-- a step is laid behind the open block's steps -/
theorem Rp.add {B0 b n d gk ck ge ce : Nat} {wr W3 w4 wx : World} {hv v : Value} {Z : Obj} {fs : List Frame} {cur : List Stp} {hc vs cells : List Value} {op m : Int} {A Bk : Option Addr} {k c kb cb : Nat} {args : List Lg.B} {inn : List Stp}
    (hbW : Below wr.heap.size wr W3) (hg4 : (W3.alloc Z).grownBy w4 v.ownBlock) (hat4 : (Value.slice (some ⟨ge, 0, none⟩) (n + 1) ce).ownBlock = v.ownBlock ∨ (Value.slice (some ⟨ge, 0, none⟩) (n + 1) ce).ownBlock = some (W3.alloc Z).heap.size)
    (hn : n = cur.length) (hd : d = fs.length)
    (ox : wx.ownsRow b 59 4 (.slice (some ⟨ge, 0, none⟩) (n + 1) ce) (n + 1) (cells ++ [.int .i64 op, .slice A k c, .int .i64 m, .slice Bk kb cb]))
    (kx : wx.ownsRow B0 44 1 (.slice (some ⟨gk, 0, none⟩) (d + 1) ck) (d + 1) (vs ++ [.slice (some ⟨ge, 0, none⟩) (n + 1) ce]))
    (hsm : ∀ x, x ≠ ge → x ≠ gk → wx.heap[x]? = w4.heap[x]?) (hsz : wx.heap.size = w4.heap.size)
    (oh : wr.ownsRow B0 59 4 hv d hc) (ok : wr.ownsRow B0 44 1 (.slice (some ⟨gk, 0, none⟩) (d + 1) ck) (d + 1) (vs ++ [v]))
    (hf : Fr wr (own2 hv (.slice (some ⟨gk, 0, none⟩) (d + 1) ck)) B0 b fs hc vs) (ov : wr.ownsRow b 59 4 v n cells)
    (rc : RowAt wr (okS b wr.heap.size (own2 hv (.slice (some ⟨gk, 0, none⟩) (d + 1) ck)) v) cells cur) (xc : ∀ g, v.ownBlock = some g → g < wr.heap.size ∧ ¬ own2 hv (.slice (some ⟨gk, 0, none⟩) (d + 1) ck) g)
    (hB0 : B0 ≤ b) (hbs : b ≤ wr.heap.size) (hk : k = args.length) (hc' : k ≤ c)
    (hl : Lies W3 (okS b W3.heap.size (own2 hv (.slice (some ⟨gk, 0, none⟩) (d + 1) ck)) v) 1 A k (strV args)) (hkb : kb ≤ cb) (hin : StepsAt W3 (okS b W3.heap.size (own2 hv (.slice (some ⟨gk, 0, none⟩) (d + 1) ck)) v) Bk kb inn) :
    Rp B0 wx (.slice (some ⟨gk, 0, none⟩) (d + 1) ck) hv fs (cur ++ [⟨op, args, m, inn⟩]) := by
  subst hn
  subst hd
  have h3 := hbW.size
  have h4 := hg4.size
  have h4' : W3.heap.size + 1 ≤ w4.heap.size := by simpa using h4
  have hXo : ∀ x, own2 hv (.slice (some ⟨gk, 0, none⟩) (fs.length + 1) ck) x → x < wr.heap.size := fun x hx => by
    rcases hx with hx | hx
    · exact (own_block oh hx.symm).2
    · exact (own_block ok hx.symm).2
  have hge : (v.ownBlock = some ge ∨ W3.heap.size < ge) ∧ ¬ own2 hv (.slice (some ⟨gk, 0, none⟩) (fs.length + 1) ck) ge := by
    rcases hat4 with e | e
    · have e : v.ownBlock = some ge := e.symm
      exact ⟨.inl e, (xc ge e).2⟩
    · have e : ge = (W3.alloc Z).heap.size := Option.some.inj e
      have e2 : ge = W3.heap.size + 1 := by simpa using e
      exact ⟨.inr (by omega), fun h => by have := hXo _ h; omega⟩
  have old : ∀ x, x < W3.heap.size → some x ≠ v.ownBlock → x ≠ gk → wx.heap[x]? = W3.heap[x]? := fun x hx hv' hk' => by
    have hxe : x ≠ ge := fun e => by
      rcases hge.1 with h | h
      · exact hv' (by rw [h, e])
      · omega
    exact (hsm x hxe hk').trans ((hg4.block x (by simp; omega) hv').trans (Below.heap_alloc _ _ _ hx))
  have key : ∀ x, x < wr.heap.size → some x ≠ v.ownBlock → ¬ own2 hv (.slice (some ⟨gk, 0, none⟩) (fs.length + 1) ck) x → wx.heap[x]? = wr.heap[x]? := fun x hx hv' hn => (old x (by omega) hv' (fun e => hn (.inr (by rw [e]; rfl)))).trans (hbW.block x hx)
  refine ⟨b, hc, vs, _, kx, own_keepB oh fun g hg => ?_, hf.keep fun x hx _ hn => ⟨hn, key x (by omega) (fun e => by have := (own_block ov e.symm).1; omega) hn⟩, ?_, hB0, by omega⟩
  · have hlt := (own_block oh hg).2
    exact (old g (by omega) (fun e => (xc g e.symm).2 (.inl hg.symm)) (fun e => own_ne oh ok (by decide) hg (by rw [e]; rfl))).trans (hbW.block g hlt)
  · refine slot_push (w := W3) (v := v) (rc.mono fun x hx hlt => ⟨hx, hbW.block x hlt⟩) h3 (by omega) ox (fun x hbx hx hv' hn => ⟨hn, old x hx hv' (fun e => hn (.inr (by rw [e]; rfl)))⟩) (fun g hg => ?_) hk hc' hl hkb hin
    have hg : ge = g := Option.some.inj hg
    subst hg
    exact ⟨hge.1.imp id (by omega), hge.2⟩
theorem own_form2 {w : World} {B n size : Nat} {e : TypeId} {v : Value} {xs : List Value} (h : w.ownsRow B e size v n xs) : ∃ A c, v = .slice A n c ∧ n ≤ c := by
  rcases h.2 with ⟨rfl, rfl⟩ | ⟨g, cap, cur, rfl, _, _, h1, _⟩
  · exact ⟨none, 0, rfl, Nat.le_refl _⟩
  · exact ⟨_, _, rfl, h1⟩
theorem own_some {w : World} {B n size : Nat} {e : TypeId} {v : Value} {xs : List Value} (h : w.ownsRow B e size v n xs) (hn : 0 < n) : ∃ g c, v = .slice (some ⟨g, 0, none⟩) n c ∧ n ≤ c ∧ B ≤ g := by
  rcases h.2 with ⟨_, rfl⟩ | ⟨g, cap, cur, rfl, hB, _, h1, _⟩
  · omega
  · exact ⟨_, _, rfl, h1, hB⟩
/-- the reference's split of a line into words -/
theorem words_split (line : ByteArray) (hs : line.size ≤ 1000000) (x : ByteArray) (l : List ByteArray) (hxl : pieces 32 line = x :: l) (W : World) :
    Calls Tryd.prog 41 #[.string line, .int .u8 32] W fun e w' => (∃ g c, e = .returned (.slice (some ⟨g, 0, none⟩) (l.length + 1) c) ∧ W.heap.size ≤ g ∧ l.length + 1 ≤ c ∧ Strs w' (some ⟨g, 0, none⟩) (x :: l)) ∧ Below W.heap.size W w' :=
  (rsplit_any line 32 W hs).mono (by
    rintro e w' ⟨v, rfl, ho, hb⟩
    rw [hxl] at ho
    obtain ⟨g, c, rfl, h1, h2⟩ := own_some ho (by simp)
    exact ⟨⟨g, c, rfl, h2, h1, Reads.of_own ho⟩, hb⟩)
theorem rstep_none {g : Nat} {x : ByteArray} {l : List ByteArray} {c : Nat} {w : World} (h : stepW (tl x :: l.map tl) = none) (hr : Strs w (some ⟨g, 0, none⟩) (x :: l)) (hl : l.length ≤ 1000000) (hs : ∀ p ∈ l, p.size ≤ 1000000) (hc : l.length + 1 ≤ c) :
    Calls Tryd.prog 42 #[.slice (some ⟨g, 0, none⟩) (l.length + 1) c] w fun e w' => (∃ (op : Int) (A : Option Addr) (k c : Nat) (n : Int), e = .returned (.tuple #[.agg #[.int .i64 op, .slice A k c, .int .i64 n, .slice none 0 0], .bool false])) ∧ Below w.heap.size w w' := by
  refine (rstep_any _ x l c w hr hl hs hc).mono ?_
  rintro e w' ⟨⟨op, A, k, c, n, g, rfl, hk, hm⟩, hb⟩
  rw [h] at hm
  obtain rfl := hm
  exact ⟨⟨op, A, k, c, n, rfl⟩, hb⟩
theorem rstep_some {g : Nat} {x : ByteArray} {l : List ByteArray} {c : Nat} {w : World} {op n : Int} {xs : List B} (h : stepW (tl x :: l.map tl) = some (op, xs, n)) (hr : Strs w (some ⟨g, 0, none⟩) (x :: l)) (hl : l.length ≤ 1000000) (hs : ∀ p ∈ l, p.size ≤ 1000000) (hc : l.length + 1 ≤ c) :
    Calls Tryd.prog 42 #[.slice (some ⟨g, 0, none⟩) (l.length + 1) c] w fun e w' => (∃ (A : Option Addr) (k c : Nat), e = .returned (.tuple #[.agg #[.int .i64 op, .slice A k c, .int .i64 n, .slice none 0 0], .bool true]) ∧ k = xs.length ∧ k ≤ c ∧ Lies w' (fun b => b = g) 1 A k (strV xs)) ∧ Below w.heap.size w w' := by
  refine (rstep_any _ x l c w hr hl hs hc).mono ?_
  rintro e w' ⟨⟨op', A, k, c, n', g, rfl, hk, hm⟩, hb⟩
  rw [h] at hm
  obtain ⟨rfl, rfl, rfl, hx, hl⟩ := hm
  exact ⟨⟨A, k, c, rfl, hx, hk, hl⟩, hb⟩
def Res.is : Res → List Stp → Int → Prop
  | .ok out _, m, q => m = out ∧ q = 0
  | .err k, m, q => m = [] ∧ q = (k : Int)
/-- what the reference's Parse answers -/
def RpSays (w w' : World) (r : Res) (e : Ending) : Prop :=
  (∃ A k c m q, e = .returned (.tuple #[.slice A k c, .int .i64 q]) ∧ r.is m q ∧ k ≤ c ∧ StepsAt w' (fun _ => True) A k m) ∧ Below w.heap.size w w'
theorem RpSays.err {w w' : World} {r : Res} {k : Nat} (h : r = .err k) (hb : Below w.heap.size w w') : RpSays w w' r (.returned (.tuple #[.slice none 0 0, .int .i64 k])) :=
  ⟨⟨none, 0, 0, [], k, rfl, by rw [h]; exact ⟨rfl, rfl⟩, Nat.le_refl _, rfl, [], Lies.none_, .nil⟩, hb⟩
/-- a step is laid behind the open block's steps: both orders of the stores -/
theorem Rp.add_both {B0 b n d gk ck ge ce : Nat} {w1 wr W3 w4 wx : World} {hv v z0 z1 z2 z3 : Value} {Z : Obj} {fs : List Frame} {cur : List Stp} {hc vs cells : List Value} {op m : Int} {A Bk : Option Addr} {k c kb cb : Nat} {args : List Lg.B} {inn : List Stp}
    (hbw : Below B0 w1 wr) (hbW : Below wr.heap.size wr W3) (hg4 : (W3.alloc Z).grownBy w4 v.ownBlock) (hat4 : (Value.slice (some ⟨ge, 0, none⟩) (n + 1) ce).ownBlock = v.ownBlock ∨ (Value.slice (some ⟨ge, 0, none⟩) (n + 1) ce).ownBlock = some (W3.alloc Z).heap.size)
    (hn : n = cur.length) (hd : d = fs.length)
    (hs : w4.ownsRow b 59 4 (.slice (some ⟨ge, 0, none⟩) (n + 1) ce) (n + 1) (cells ++ [z0, z1, z2, z3]))
    (hk4 : w4.ownsRow B0 44 1 (.slice (some ⟨gk, 0, none⟩) (d + 1) ck) (d + 1) (vs ++ [v])) (hne : ¬ ge = gk)
    (oh : wr.ownsRow B0 59 4 hv d hc) (ok : wr.ownsRow B0 44 1 (.slice (some ⟨gk, 0, none⟩) (d + 1) ck) (d + 1) (vs ++ [v]))
    (hf : Fr wr (own2 hv (.slice (some ⟨gk, 0, none⟩) (d + 1) ck)) B0 b fs hc vs) (ov : wr.ownsRow b 59 4 v n cells)
    (rc : RowAt wr (okS b wr.heap.size (own2 hv (.slice (some ⟨gk, 0, none⟩) (d + 1) ck)) v) cells cur) (xc : ∀ g, v.ownBlock = some g → g < wr.heap.size ∧ ¬ own2 hv (.slice (some ⟨gk, 0, none⟩) (d + 1) ck) g)
    (hB0 : B0 ≤ b) (hbs : b ≤ wr.heap.size) (hk : k = args.length) (hc' : k ≤ c)
    (hl : Lies W3 (okS b W3.heap.size (own2 hv (.slice (some ⟨gk, 0, none⟩) (d + 1) ck)) v) 1 A k (strV args)) (hkb : kb ≤ cb) (hin : StepsAt W3 (okS b W3.heap.size (own2 hv (.slice (some ⟨gk, 0, none⟩) (d + 1) ck)) v) Bk kb inn)
    (hx : wx = (((((w4.setCell ⟨ge, n * 4, none⟩ (.int .i64 op)).setCell ⟨ge, n * 4 + 1, none⟩ (.slice A k c)).setCell ⟨ge, n * 4 + 2, none⟩ (.int .i64 m)).setCell ⟨ge, n * 4 + 3, none⟩ (.slice Bk kb cb)).setCell ⟨gk, d, none⟩ (.slice (some ⟨ge, 0, none⟩) (n + 1) ce)) ∨
      wx = (((((w4.setCell ⟨gk, d, none⟩ (.slice (some ⟨ge, 0, none⟩) (n + 1) ce)).setCell ⟨ge, n * 4, none⟩ (.int .i64 op)).setCell ⟨ge, n * 4 + 1, none⟩ (.slice A k c)).setCell ⟨ge, n * 4 + 2, none⟩ (.int .i64 m)).setCell ⟨ge, n * 4 + 3, none⟩ (.slice Bk kb cb))) :
    Rp B0 wx (.slice (some ⟨gk, 0, none⟩) (d + 1) ck) hv fs (cur ++ [⟨op, args, m, inn⟩]) ∧ Below B0 w1 wx := by
  obtain ⟨a1, a2, a3, a4, a5, a6, a7⟩ := laid_both (wx := wx) (ck := ck) ov.1 (by rw [hd]; exact hf.len.2) hne hs hk4 hx
  refine ⟨Rp.add hbW hg4 hat4 hn hd a1 a2 a3 a4 oh ok hf ov rc xc hB0 hbs hk hc' hl hkb hin, hbw.trans ?_⟩
  have h3 := hbW.size
  have h4 : W3.heap.size + 1 ≤ w4.heap.size := by have := hg4.size; simpa using this
  have hgk := (own_block ok (g := gk) rfl).1
  have hge := (own_block hs (g := ge) rfl).1
  have b4 : Below B0 wr w4 := ((hbW.mono (by omega)).alloc (by omega) Z).grown hg4 (by simp; omega) (fun g hg => by have := (own_block ov hg).1; omega)
  exact ⟨a5.trans b4.os, a6.trans b4.tape, a7.trans b4.output, by rw [a4]; exact b4.size, fun y hy => (a3 y (by omega) (by omega)).trans (b4.block y hy)⟩
end Go.Proofs.YtoofflnaebkigaaDoor.Lg
