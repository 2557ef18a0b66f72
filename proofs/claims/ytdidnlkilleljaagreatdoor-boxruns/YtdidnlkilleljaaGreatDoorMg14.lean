/- Joined by mkmerged.py: LgRpB, LgPrint. -/
import Derived.Test.YtdidnlkilleljaaGreatDoorMg11
import Derived.Test.YtdidnlkilleljaaGreatDoorMg12
import Derived.Test.YtdidnlkilleljaaGreatDoorMg13
import Derived.Test.YtdidnlkilleljaaGreatDoorMg05
import Derived.Test.YtdidnlkilleljaaGreatDoorMg08
import Derived.Test.YtdidnlkilleljaaGreatDoorMg09
import Derived.Test.YtdidnlkilleljaaGreatDoorMg10
import Derived.Deep.CutRange
import Derived.Deep.RegionHeld3
/- LgRpB, what a claim needs of it (prune.py). -/
namespace Go.Proofs.YtdidnlkilleljaaGreatDoor.Lg
open Go.RowKit
set_option linter.unusedVariables false
set_option maxRecDepth 100000
theorem infoL : (Tryz.prog.info? 22).map (fun i => (i.zero, i.size, i.bytes)) = some (some (.slice none 0 0), 1, 24) := by kernel_rfl
def Rp (B0 : Nat) (wr : World) (kv hv : Value) (fs : List Frame) (cur : List Stp) : Prop :=
  ∃ (b : Nat) (hc vs : List Value) (v : Value), wr.ownsRow B0 22 1 kv (fs.length + 1) (vs ++ [v]) ∧ wr.ownsRow B0 61 4 hv fs.length hc ∧ Fr wr (own2 hv kv) B0 b fs hc vs ∧ Slot wr b wr.heap.size (own2 hv kv) v cur ∧ B0 ≤ b ∧ b ≤ wr.heap.size
theorem Rp.start (w1 : World) : Rp w1.heap.size (w1.alloc (.cells #[.slice none 0 0] 22)) (.slice (some ⟨w1.heap.size, 0, none⟩) 1 1) (.slice none 0 0) [] [] := by
  refine ⟨w1.heap.size, [], [], .slice none 0 0, ⟨rfl, .inr ⟨w1.heap.size, 1, _, rfl, Nat.le_refl _, heap_new w1 _, Nat.le_refl _, by simp [maxLen], rfl, rfl⟩⟩, World.ownsRow_nil _ _ _ _, Fr.nil (Nat.le_refl _), Slot.none_ _ _ _ _, Nat.le_refl _, by simp⟩
theorem own_ne {w : World} {B1 B2 n1 n2 s1 s2 : Nat} {e1 e2 : TypeId} {v1 v2 : Value} {x1 x2 : List Value} (h1 : w.ownsRow B1 e1 s1 v1 n1 x1) (h2 : w.ownsRow B2 e2 s2 v2 n2 x2) (he : e1 ≠ e2) {g : Nat} (hg : v1.ownBlock = some g) : v2.ownBlock ≠ some g := by
  intro hg2
  rcases h1.2 with ⟨rfl, _⟩ | ⟨g1, c1, u1, rfl, _, hh1, _⟩
  · cases hg
  · rcases h2.2 with ⟨rfl, _⟩ | ⟨g2, c2, u2, rfl, _, hh2, _⟩
    · cases hg2
    · injection hg with hg
      injection hg2 with hg2
      simp only at hg hg2
      subst hg
      subst hg2
      rw [hh1] at hh2
      injection hh2 with hh2
      injection hh2 with _ ht
      exact he ht
theorem Rp.push {B0 b : Nat} {wr w3 w5 : World} {hv kv hv2 kv2 v : Value} {fs : List Frame} {cur : List Stp} {hc vs : List Value} {op n : Int} {A : Option Addr} {k c g2 : Nat} {args : List Lg.B}
    (hb3 : Below wr.heap.size wr w3) (h35 : w3.heap.size ≤ w5.heap.size)
    (hK : ∀ x, x < w3.heap.size → ¬ own2 hv kv x → w5.heap[x]? = w3.heap[x]?) (hX : ∀ x, own2 hv2 kv2 x → own2 hv kv x ∨ w3.heap.size ≤ x) (hXo : ∀ x, own2 hv kv x → x < wr.heap.size)
    (ok : w5.ownsRow B0 22 1 kv2 (fs.length + 1 + 1) (vs ++ [v] ++ [.slice none 0 0])) (oh : w5.ownsRow B0 61 4 hv2 (fs.length + 1) (hc ++ [.int .i64 op, .slice A k c, .int .i64 n, .slice none 0 0]))
    (hf : Fr wr (own2 hv kv) B0 b fs hc vs) (hs : Slot wr b wr.heap.size (own2 hv kv) v cur) (hB0 : B0 ≤ b) (hbs : b ≤ wr.heap.size)
    (hk : k = args.length) (hc' : k ≤ c) (hl : Lies w3 (fun x => x = g2) 1 A k (strV args)) (hg2 : wr.heap.size ≤ g2) :
    Rp B0 w5 kv2 hv2 (⟨op, args, n, cur⟩ :: fs) [] := by
  have key : ∀ x, x < wr.heap.size → ¬ own2 hv kv x → ¬ own2 hv2 kv2 x ∧ w5.heap[x]? = wr.heap[x]? := fun x hx hn => by
    have h3 := hb3.size
    refine ⟨fun h => ?_, (hK x (by omega) hn).trans (hb3.block x hx)⟩
    rcases hX x h with h | h
    · exact hn h
    · omega
  have h3 := hb3.size
  refine ⟨w5.heap.size, _, vs ++ [v], .slice none 0 0, ok, oh, .cons (hf.keep fun x hx _ hn => key x (by omega) hn) (by omega) (hs.keep (by omega) fun x _ hx _ hn => key x hx hn) hk hc' (hl.mono (by omega) ?_), Slot.none_ _ _ _ _, by omega, Nat.le_refl _⟩
  rintro x rfl hx
  obtain ⟨cells, o1, _, o3⟩ := hs
  refine ⟨⟨by omega, by omega, fun e => by have := (o3 _ e.symm).1; omega, fun h => ?_⟩, hK _ hx (fun h => by have := hXo _ h; omega)⟩
  rcases hX _ h with h | h
  · have := hXo _ h; omega
  · omega
theorem own_keepB {w w' : World} {B : Nat} {e : TypeId} {size n : Nat} {v : Value} {xs : List Value} (h : w.ownsRow B e size v n xs) (hk : ∀ g, v.ownBlock = some g → w'.heap[g]? = w.heap[g]?) : w'.ownsRow B e size v n xs := by
  refine ⟨h.1, ?_⟩
  rcases h.2 with h2 | ⟨g, cap, cur, rfl, hB, hg, h1, h2, h3, h4⟩
  · exact .inl h2
  · exact .inr ⟨g, cap, cur, rfl, hB, (hk g rfl).trans hg, h1, h2, h3, h4⟩
theorem Rp.add {B0 b n d gk ck ge ce : Nat} {wr W3 w4 wx : World} {hv v : Value} {Z : Obj} {fs : List Frame} {cur : List Stp} {hc vs cells : List Value} {op m : Int} {A Bk : Option Addr} {k c kb cb : Nat} {args : List Lg.B} {inn : List Stp}
    (hbW : Below wr.heap.size wr W3) (hg4 : (W3.alloc Z).grownBy w4 v.ownBlock) (hat4 : (Value.slice (some ⟨ge, 0, none⟩) (n + 1) ce).ownBlock = v.ownBlock ∨ (Value.slice (some ⟨ge, 0, none⟩) (n + 1) ce).ownBlock = some (W3.alloc Z).heap.size)
    (hn : n = cur.length) (hd : d = fs.length)
    (ox : wx.ownsRow b 61 4 (.slice (some ⟨ge, 0, none⟩) (n + 1) ce) (n + 1) (cells ++ [.int .i64 op, .slice A k c, .int .i64 m, .slice Bk kb cb]))
    (kx : wx.ownsRow B0 22 1 (.slice (some ⟨gk, 0, none⟩) (d + 1) ck) (d + 1) (vs ++ [.slice (some ⟨ge, 0, none⟩) (n + 1) ce]))
    (hsm : ∀ x, x ≠ ge → x ≠ gk → wx.heap[x]? = w4.heap[x]?) (hsz : wx.heap.size = w4.heap.size)
    (oh : wr.ownsRow B0 61 4 hv d hc) (ok : wr.ownsRow B0 22 1 (.slice (some ⟨gk, 0, none⟩) (d + 1) ck) (d + 1) (vs ++ [v]))
    (hf : Fr wr (own2 hv (.slice (some ⟨gk, 0, none⟩) (d + 1) ck)) B0 b fs hc vs) (ov : wr.ownsRow b 61 4 v n cells)
    (rc : RowAt wr (okS b wr.heap.size (own2 hv (.slice (some ⟨gk, 0, none⟩) (d + 1) ck)) v) cells cur) (xc : ∀ g, v.ownBlock = some g → g < wr.heap.size ∧ ¬ own2 hv (.slice (some ⟨gk, 0, none⟩) (d + 1) ck) g)
    (hB0 : B0 ≤ b) (hbs : b ≤ wr.heap.size) (hk : k = args.length) (hc' : k ≤ c)
    (hl : Lies W3 (okS b W3.heap.size (own2 hv (.slice (some ⟨gk, 0, none⟩) (d + 1) ck)) v) 1 A k (strV args)) (hkb : kb ≤ cb) (hin : StepsAt W3 (okS b W3.heap.size (own2 hv (.slice (some ⟨gk, 0, none⟩) (d + 1) ck)) v) Bk kb inn) :
    Rp B0 wx (.slice (some ⟨gk, 0, none⟩) (d + 1) ck) hv fs (cur ++ [⟨op, args, m, inn⟩]) := by
  subst hn
  subst hd
  have h3 := hbW.size
  have h4 := hg4.size
  have h4' : W3.heap.size + 1 ≤ w4.heap.size := by simpa using h4
  have hXo : ∀ x, own2 hv (.slice (some ⟨gk, 0, none⟩) (fs.length + 1) ck) x → x < wr.heap.size := fun x hx => by
    rcases hx with hx | hx
    · exact (own_block oh hx.symm).2
    · exact (own_block ok hx.symm).2
  have hge : (v.ownBlock = some ge ∨ W3.heap.size < ge) ∧ ¬ own2 hv (.slice (some ⟨gk, 0, none⟩) (fs.length + 1) ck) ge := by
    rcases hat4 with e | e
    · have e : v.ownBlock = some ge := e.symm
      exact ⟨.inl e, (xc ge e).2⟩
    · have e : ge = (W3.alloc Z).heap.size := Option.some.inj e
      have e2 : ge = W3.heap.size + 1 := by simpa using e
      exact ⟨.inr (by omega), fun h => by have := hXo _ h; omega⟩
  have old : ∀ x, x < W3.heap.size → some x ≠ v.ownBlock → x ≠ gk → wx.heap[x]? = W3.heap[x]? := fun x hx hv' hk' => by
    have hxe : x ≠ ge := fun e => by
      rcases hge.1 with h | h
      · exact hv' (by rw [h, e])
      · omega
    exact (hsm x hxe hk').trans ((hg4.block x (by simp; omega) hv').trans (Below.heap_alloc _ _ _ hx))
  have key : ∀ x, x < wr.heap.size → some x ≠ v.ownBlock → ¬ own2 hv (.slice (some ⟨gk, 0, none⟩) (fs.length + 1) ck) x → wx.heap[x]? = wr.heap[x]? := fun x hx hv' hn => (old x (by omega) hv' (fun e => hn (.inr (by rw [e]; rfl)))).trans (hbW.block x hx)
  refine ⟨b, hc, vs, _, kx, own_keepB oh fun g hg => ?_, hf.keep fun x hx _ hn => ⟨hn, key x (by omega) (fun e => by have := (own_block ov e.symm).1; omega) hn⟩, ?_, hB0, by omega⟩
  · have hlt := (own_block oh hg).2
    exact (old g (by omega) (fun e => (xc g e.symm).2 (.inl hg.symm)) (fun e => own_ne oh ok (by decide) hg (by rw [e]; rfl))).trans (hbW.block g hlt)
  · refine slot_push (w := W3) (v := v) (rc.mono fun x hx hlt => ⟨hx, hbW.block x hlt⟩) h3 (by omega) ox (fun x hbx hx hv' hn => ⟨hn, old x hx hv' (fun e => hn (.inr (by rw [e]; rfl)))⟩) (fun g hg => ?_) hk hc' hl hkb hin
    have hg : ge = g := Option.some.inj hg
    subst hg
    exact ⟨hge.1.imp id (by omega), hge.2⟩
theorem own_form2 {w : World} {B n size : Nat} {e : TypeId} {v : Value} {xs : List Value} (h : w.ownsRow B e size v n xs) : ∃ A c, v = .slice A n c ∧ n ≤ c := by
  rcases h.2 with ⟨rfl, rfl⟩ | ⟨g, cap, cur, rfl, _, _, h1, _⟩
  · exact ⟨none, 0, rfl, Nat.le_refl _⟩
  · exact ⟨_, _, rfl, h1⟩
theorem own_some {w : World} {B n size : Nat} {e : TypeId} {v : Value} {xs : List Value} (h : w.ownsRow B e size v n xs) (hn : 0 < n) : ∃ g c, v = .slice (some ⟨g, 0, none⟩) n c ∧ n ≤ c ∧ B ≤ g := by
  rcases h.2 with ⟨_, rfl⟩ | ⟨g, cap, cur, rfl, hB, _, h1, _⟩
  · omega
  · exact ⟨_, _, rfl, h1, hB⟩
theorem words_split (line : ByteArray) (hs : line.size ≤ 1000000) (x : ByteArray) (l : List ByteArray) (hxl : pieces 32 line = x :: l) (W : World) :
    Calls Tryz.prog 123 #[.string line, .int .u8 32] W fun e w' => (∃ g c, e = .returned (.slice (some ⟨g, 0, none⟩) (l.length + 1) c) ∧ W.heap.size ≤ g ∧ l.length + 1 ≤ c ∧ Strs w' (some ⟨g, 0, none⟩) (x :: l)) ∧ Below W.heap.size W w' :=
  (rsplit_any line 32 W hs).mono (by
    rintro e w' ⟨v, rfl, ho, hb⟩
    rw [hxl] at ho
    obtain ⟨g, c, rfl, h1, h2⟩ := own_some ho (by simp)
    exact ⟨⟨g, c, rfl, h2, h1, Reads.of_own ho⟩, hb⟩)
theorem rstep_none {g : Nat} {x : ByteArray} {l : List ByteArray} {c : Nat} {w : World} (h : stepW (tl x :: l.map tl) = none) (hr : Strs w (some ⟨g, 0, none⟩) (x :: l)) (hl : l.length ≤ 1000000) (hs : ∀ p ∈ l, p.size ≤ 1000000) (hc : l.length + 1 ≤ c) :
    Calls Tryz.prog 124 #[.slice (some ⟨g, 0, none⟩) (l.length + 1) c] w fun e w' => (∃ (op : Int) (A : Option Addr) (k c : Nat) (n : Int), e = .returned (.tuple #[.agg #[.int .i64 op, .slice A k c, .int .i64 n, .slice none 0 0], .bool false])) ∧ Below w.heap.size w w' := by
  refine (rstep_any _ x l c w hr hl hs hc).mono ?_
  rintro e w' ⟨⟨op, A, k, c, n, g, rfl, hk, hm⟩, hb⟩
  rw [h] at hm
  obtain rfl := hm
  exact ⟨⟨op, A, k, c, n, rfl⟩, hb⟩
theorem rstep_some {g : Nat} {x : ByteArray} {l : List ByteArray} {c : Nat} {w : World} {op n : Int} {xs : List B} (h : stepW (tl x :: l.map tl) = some (op, xs, n)) (hr : Strs w (some ⟨g, 0, none⟩) (x :: l)) (hl : l.length ≤ 1000000) (hs : ∀ p ∈ l, p.size ≤ 1000000) (hc : l.length + 1 ≤ c) :
    Calls Tryz.prog 124 #[.slice (some ⟨g, 0, none⟩) (l.length + 1) c] w fun e w' => (∃ (A : Option Addr) (k c : Nat), e = .returned (.tuple #[.agg #[.int .i64 op, .slice A k c, .int .i64 n, .slice none 0 0], .bool true]) ∧ k = xs.length ∧ k ≤ c ∧ Lies w' (fun b => b = g) 1 A k (strV xs)) ∧ Below w.heap.size w w' := by
  refine (rstep_any _ x l c w hr hl hs hc).mono ?_
  rintro e w' ⟨⟨op', A, k, c, n', g, rfl, hk, hm⟩, hb⟩
  rw [h] at hm
  obtain ⟨rfl, rfl, rfl, hx, hl⟩ := hm
  exact ⟨⟨A, k, c, rfl, hx, hk, hl⟩, hb⟩
def Res.is : Res → List Stp → Int → Prop
  | .ok out _, m, q => m = out ∧ q = 0
  | .err k, m, q => m = [] ∧ q = (k : Int)
def RpSays (w w' : World) (r : Res) (e : Ending) : Prop :=
  (∃ A k c m q, e = .returned (.tuple #[.slice A k c, .int .i64 q]) ∧ r.is m q ∧ k ≤ c ∧ StepsAt w' (fun _ => True) A k m) ∧ Below w.heap.size w w'
theorem RpSays.err {w w' : World} {r : Res} {k : Nat} (h : r = .err k) (hb : Below w.heap.size w w') : RpSays w w' r (.returned (.tuple #[.slice none 0 0, .int .i64 k])) :=
  ⟨⟨none, 0, 0, [], k, rfl, by rw [h]; exact ⟨rfl, rfl⟩, Nat.le_refl _, rfl, [], Lies.none_, .nil⟩, hb⟩
theorem Rp.add_both {B0 b n d gk ck ge ce : Nat} {w1 wr W3 w4 wx : World} {hv v z0 z1 z2 z3 : Value} {Z : Obj} {fs : List Frame} {cur : List Stp} {hc vs cells : List Value} {op m : Int} {A Bk : Option Addr} {k c kb cb : Nat} {args : List Lg.B} {inn : List Stp}
    (hbw : Below B0 w1 wr) (hbW : Below wr.heap.size wr W3) (hg4 : (W3.alloc Z).grownBy w4 v.ownBlock) (hat4 : (Value.slice (some ⟨ge, 0, none⟩) (n + 1) ce).ownBlock = v.ownBlock ∨ (Value.slice (some ⟨ge, 0, none⟩) (n + 1) ce).ownBlock = some (W3.alloc Z).heap.size)
    (hn : n = cur.length) (hd : d = fs.length)
    (hs : w4.ownsRow b 61 4 (.slice (some ⟨ge, 0, none⟩) (n + 1) ce) (n + 1) (cells ++ [z0, z1, z2, z3]))
    (hk4 : w4.ownsRow B0 22 1 (.slice (some ⟨gk, 0, none⟩) (d + 1) ck) (d + 1) (vs ++ [v])) (hne : ¬ ge = gk)
    (oh : wr.ownsRow B0 61 4 hv d hc) (ok : wr.ownsRow B0 22 1 (.slice (some ⟨gk, 0, none⟩) (d + 1) ck) (d + 1) (vs ++ [v]))
    (hf : Fr wr (own2 hv (.slice (some ⟨gk, 0, none⟩) (d + 1) ck)) B0 b fs hc vs) (ov : wr.ownsRow b 61 4 v n cells)
    (rc : RowAt wr (okS b wr.heap.size (own2 hv (.slice (some ⟨gk, 0, none⟩) (d + 1) ck)) v) cells cur) (xc : ∀ g, v.ownBlock = some g → g < wr.heap.size ∧ ¬ own2 hv (.slice (some ⟨gk, 0, none⟩) (d + 1) ck) g)
    (hB0 : B0 ≤ b) (hbs : b ≤ wr.heap.size) (hk : k = args.length) (hc' : k ≤ c)
    (hl : Lies W3 (okS b W3.heap.size (own2 hv (.slice (some ⟨gk, 0, none⟩) (d + 1) ck)) v) 1 A k (strV args)) (hkb : kb ≤ cb) (hin : StepsAt W3 (okS b W3.heap.size (own2 hv (.slice (some ⟨gk, 0, none⟩) (d + 1) ck)) v) Bk kb inn)
    (hx : wx = (((((w4.setCell ⟨ge, n * 4, none⟩ (.int .i64 op)).setCell ⟨ge, n * 4 + 1, none⟩ (.slice A k c)).setCell ⟨ge, n * 4 + 2, none⟩ (.int .i64 m)).setCell ⟨ge, n * 4 + 3, none⟩ (.slice Bk kb cb)).setCell ⟨gk, d, none⟩ (.slice (some ⟨ge, 0, none⟩) (n + 1) ce)) ∨
      wx = (((((w4.setCell ⟨gk, d, none⟩ (.slice (some ⟨ge, 0, none⟩) (n + 1) ce)).setCell ⟨ge, n * 4, none⟩ (.int .i64 op)).setCell ⟨ge, n * 4 + 1, none⟩ (.slice A k c)).setCell ⟨ge, n * 4 + 2, none⟩ (.int .i64 m)).setCell ⟨ge, n * 4 + 3, none⟩ (.slice Bk kb cb))) :
    Rp B0 wx (.slice (some ⟨gk, 0, none⟩) (d + 1) ck) hv fs (cur ++ [⟨op, args, m, inn⟩]) ∧ Below B0 w1 wx := by
  obtain ⟨a1, a2, a3, a4, a5, a6, a7⟩ := laid_both (wx := wx) (ck := ck) ov.1 (by rw [hd]; exact hf.len.2) hne hs hk4 hx
  refine ⟨Rp.add hbW hg4 hat4 hn hd a1 a2 a3 a4 oh ok hf ov rc xc hB0 hbs hk hc' hl hkb hin, hbw.trans ?_⟩
  have h3 := hbW.size
  have h4 : W3.heap.size + 1 ≤ w4.heap.size := by have := hg4.size; simpa using this
  have hgk := (own_block ok (g := gk) rfl).1
  have hge := (own_block hs (g := ge) rfl).1
  have b4 : Below B0 wr w4 := ((hbW.mono (by omega)).alloc (by omega) Z).grown hg4 (by simp; omega) (fun g hg => by have := (own_block ov hg).1; omega)
  exact ⟨a5.trans b4.os, a6.trans b4.tape, a7.trans b4.output, by rw [a4]; exact b4.size, fun y hy => (a3 y (by omega) (by omega)).trans (b4.block y hy)⟩
end Go.Proofs.YtdidnlkilleljaaGreatDoor.Lg
/- LgPrint, what a claim needs of it (prune.py). -/
namespace Go.Proofs.YtdidnlkilleljaaGreatDoor.Lg
open Go.RowKit
set_option linter.unusedVariables false
set_option maxRecDepth 100000
def wordsC : Array Value := (wordsV.map Value.string).toArray
theorem wordsC_at : ∀ {j : Nat}, j ≤ 10 → wordsC[j]? = some (.string (bs (wordsL.getD j [63])))
  | 0, _ => rfl | 1, _ => rfl | 2, _ => rfl | 3, _ => rfl | 4, _ => rfl | 5, _ => rfl | 6, _ => rfl | 7, _ => rfl | 8, _ => rfl | 9, _ => rfl | 10, _ => rfl
  | j + 11, h => absurd h (by omega)
theorem words_new (w : World) (hE : Env w) :
    Calls Tryz.prog 107 #[.string wordsB] w fun e w' => e = .returned (.slice (some ⟨w.heap.size, 0, none⟩) 11 11) ∧ w'.heap[w.heap.size]? = some (.cells wordsC 9 (0, 0)) ∧ Below w.heap.size w w' := by
  refine (Tryz.strings_Fields wordsB w (by decide) words_ascii hE.2.2.1).mono ?_
  rintro e w' ⟨h1, rfl⟩
  rw [fields_words] at h1 ⊢
  refine ⟨h1, ?_, (Below.refl _ _).alloc (Nat.le_refl _) _⟩
  have := heap_alloc_new w (.cells wordsC 9)
  rw [wordsC, wordsV, List.map_map] at this
  rw [wordsC, wordsV, List.map_map]
  exact this
theorem join_words (x : B) (args : List B) : Lib.join ((bs x :: args.map bs).map (·.data.toList)) [32] = x ++ argsW args := by
  rw [List.map_cons, Lib.join_cons]
  congr 1
  induction args with
  | nil => rfl
  | cons a r ih =>
    simp only [Lib.joinTail, argsW, List.map_cons, List.flatten_cons, List.flatMap_cons] at ih ⊢
    rw [ih]
    rfl
theorem tl_app2 (a b : ByteArray) : (a ++ b).data.toList = a.data.toList ++ b.data.toList := by simp
theorem LpAt.write2 {w W : World} {bb gw : Nat} {wc : Array Value} {s : List UInt8} (h : LpAt w W bb gw wc s) (S : ByteArray) (t : List UInt8) (ht : S.data.toList = t) (hl : s.length + t.length ≤ 140737488355328) :
    Calls Tryz.prog 108 #[.pointer (some ⟨bb, 0, none⟩), .string S] W fun e w' => e = .returned (.tuple #[.int .i64 S.size, .nilIface]) ∧ LpAt w w' bb gw wc (s ++ t) ∧
      ∀ k cs, k ≠ bb → W.heap[k]? = some (.cells cs 61 (0, 0)) → w'.heap[k]? = some (.cells cs 61 (0, 0)) := by
  subst ht
  exact h.write S (by rw [Lib.size_eq]; exact hl)
theorem itoa_env (v : Int) (h1 : -9223372036854775808 ≤ v) (h2 : v ≤ 9223372036854775807) (W : World) (hE : Env W) :
    Calls Tryz.prog 110 #[.int .i64 v] W fun e w' => e = .returned (.string (bs (Lib.itoa v))) ∧ Below W.heap.size W w' :=
  (Tryz.strconv_Itoa v h1 h2 W (Lib.tabBelow_of_tabIs hE.2.1 W (Below.refl _ _))).mono (fun e w' ⟨h3, k, os, h4⟩ => ⟨h3, by rw [h4]; exact Lib.below_grow _ _ (Nat.le_refl _) _ _⟩)
set_option maxHeartbeats 8000000 in
theorem print_any : ∀ (K : Nat) (l : List Stp), weight l ≤ K → numL l → (print l).length ≤ 4000000 → ∀ (A : Option Addr) (n c : Nat) (w : World) (ok : Nat → Prop), Env w → StepsAt w ok A n l →
    Calls Tryz.prog 64 #[.slice A n c] w fun e w' => e = .returned (.string (bs (print l))) ∧ Below w.heap.size w w' := by
  intro K
  induction K using Nat.strongRecOn with
  | ind K ih =>
    intro l hK hnum hlen A n c w ok hE hr
    obtain rfl : n = l.length := hr.1
    have hlw := len_weight l
    have hlp6 : l.length ≤ 4000000 := Nat.le_trans (len_print l) hlen
    have SR := Lib.hid (fun W (h : Below w.heap.size w W) => hr.below h)
    have EV := Lib.hid (fun W (h : Below w.heap.size w W) => hE.below h)
    have NUM := Lib.hid hnum
    have WN := Lib.hid (words_new w hE)
    clear hr hnum hE
    go_enter Tryz.func64, Tryz.ntmps64
    go_wp2_with (go_at_call 107; (with_reducible refine (WN.out).mono ?_); rintro e w1 ⟨rfl, hw1, hb1⟩)
    have hgl : w.heap.size < w1.heap.size := heap_lt2 hw1
    have P0 : LpAt w (w1.alloc (.cells #[.pointer none, .slice none 0 0] 160)) w1.heap.size w.heap.size wordsC [] :=
      ⟨Or.inl ⟨hb1.size, .slice none 0 0, heap_alloc_new w1 _, World.ownsRow_nil _ _ _ _, by simp [Value.ownBlock]⟩, (Below.heap_alloc _ _ _ hgl).trans hw1, hb1.alloc hb1.size _, by omega⟩
    have HP0 := Lib.hid P0
    clear P0 hw1 hb1
    go_loopw [11] (fun i wr => ∃ (k : Nat) (done : B), i = .int .i64 k ∧ k ≤ l.length ∧ done = print (l.take k) ∧ LpAt w wr w1.heap.size w.heap.size wordsC done ∧ w1.heap.size < wr.heap.size) (fun i _ => l.length - (intOf i).toNat)
    case atStart => exact ⟨0, [], rfl, by omega, print_nil.symm, HP0.out, by simp⟩
    case round =>
      obtain ⟨k, done, rfl, hk, hdone, hp, hbw⟩ := hrel
      rename World => wr
      have hb := hp.below
      have HP := Lib.hid hp
      have hlp := print_take_le l k
      rw [← hdone] at hlp
      clear HP0 hp
      by_cases hlt : k < l.length
      · have hkI : (k : Int) < (l.length : Int) := by omega
        obtain ⟨ad, A', ka, ca, B', kb, cb, rfl, a0, a1, a2, a3, a4, hac, a5, hbc, a6⟩ := (SR.out w (Below.refl _ _)).at_ hlt
        have a0 := cell_on a0 hb
        have a1 := cell_on a1 hb
        have a2 := cell_on a2 hb
        have a3 := cell_on a3 hb
        have hwb := weight_at hlt
        have hnm := numL_at hlt NUM.out
        have hps := print_at_le hlt
        have hpt := print_take hlt
        rw [← hdone] at hps hpt
        have IH := Lib.hid (fun (h0 : (print l[k].block).length ≤ 4000000) => ih (weight l[k].block) (by omega) l[k].block (Nat.le_refl _) hnm.2 h0)
        generalize l[k] = x at *
        have A1 : wr.cell? ⟨(ad.add (k * 4)).block, (ad.add (k * 4)).off + 1, none⟩ = some (.slice A' ka ca) := by rw [← add_of_add] at a1; exact a1
        have A2 : wr.cell? ⟨(ad.add (k * 4)).block, (ad.add (k * 4)).off + 2, none⟩ = some (.int .i64 x.n) := by rw [← add_of_add] at a2; exact a2
        have A3 : wr.cell? ⟨(ad.add (k * 4)).block, (ad.add (k * 4)).off + 3, none⟩ = some (.slice B' kb cb) := by rw [← add_of_add] at a3; exact a3
        subst a4
        have AR := Lib.hid (fun W (h : Below w.heap.size w W) => (a5.lbelow (by omega) h).reads (by omega))
        have BA := Lib.hid (fun W (h : Below w.heap.size w W) => a6.below h)
        have HPS := Lib.hid hps
        have HPT := Lib.hid hpt
        have HNM := Lib.hid hnm
        have HDN := Lib.hid hdone
        clear a1 a2 a3 a5 a6 ih hpt hnm hps hdone
        go_upto_region 6 with (fail)
        obtain ⟨W1, eW1⟩ : ∃ W1, W1 = wr.alloc (.cells #[.int .i64 x.op, .slice A' x.args.length ca, .int .i64 x.n, .slice B' kb cb] 61) := ⟨_, rfl⟩
        have hx1 : W1.heap[wr.heap.size]? = some (.cells #[.int .i64 x.op, .slice A' x.args.length ca, .int .i64 x.n, .slice B' kb cb] 61 (0, 0)) := by rw [eW1]; exact heap_alloc_new wr _
        have hb1 : Below wr.heap.size wr W1 := by rw [eW1]; exact (Below.refl _ _).alloc (Nat.le_refl _) _
        rw [← eW1]
        clear eW1
        have hs1 : wr.heap.size < W1.heap.size := heap_lt2 hx1
        have f0 : W1.cell? ⟨wr.heap.size, 0, none⟩ = some (.int .i64 x.op) := (cell_heap hx1 0).trans rfl
        have HP1 := Lib.hid (HP.out.on hb1)
        have HX1 := Lib.hid hx1
        clear hb1 hx1 a0 A1 A2 A3 HP
        go_cut [7] from 12 to 48 (fun v wx => (∃ M : Int, v = .int .i64 M ∧ ((11 ≤ M ∧ wordOf x.op = [63]) ∨ ∃ j : Nat, M = j ∧ j ≤ 10 ∧ wordsL.getD j [63] = wordOf x.op)) ∧ W1 = wx)
        case first =>
          go_wp2_with (fail)
          go_meet
          refine ⟨⟨_, rfl, ?_⟩, rfl⟩
          by_cases g1 : x.op < 0
          · rw [Int.max_eq_right (by omega)]
            refine .inr ⟨0, rfl, by omega, ?_⟩
            rw [wordOf, if_neg (by omega)]; rfl
          · rw [Int.max_eq_left (by omega)]
            by_cases h10 : x.op ≤ 10
            · obtain ⟨j, hj⟩ : ∃ j : Nat, x.op = j := ⟨x.op.toNat, by omega⟩
              refine .inr ⟨j, hj, by omega, ?_⟩
              rw [wordOf, hj]
              by_cases h0 : j = 0
              · subst h0; rfl
              · rw [if_pos (by omega)]; rfl
            · exact .inl ⟨by omega, by rw [wordOf, if_neg (by omega)]⟩
        case rest =>
          obtain ⟨⟨M, rfl, hM⟩, rfl⟩ := hcut
          go_upto_if 21 with (fail)
          go_cut [7] from 12 to 48 (fun v wx => (∃ j : Nat, v = .int .i64 j ∧ j ≤ 10 ∧ wordsL.getD j [63] = wordOf x.op) ∧ W1 = wx)
          case first =>
            rcases hM with ⟨h11, hw⟩ | ⟨j, rfl, hj, hw⟩
            · have HW := Lib.hid hw
              clear hw
              go_wp2_with (fail)
              go_meet
              exact ⟨⟨0, rfl, by omega, HW.out.symm⟩, rfl⟩
            · have HW := Lib.hid hw
              have hn11 : ¬ 11 ≤ (j : Int) := by omega
              clear hw
              go_wp2_with (fail)
              go_meet
              exact ⟨⟨j, rfl, hj, HW.out⟩, rfl⟩
          case rest =>
            obtain ⟨⟨j, rfl, hj, hw⟩, rfl⟩ := hcut
            clear hM
            have cw : W1.cell? ⟨w.heap.size, j, none⟩ = some (.string (bs (wordOf x.op))) := by rw [← hw]; exact (cell_heap HP1.out.2.1 j).trans (wordsC_at hj)
            have c1 : W1.cell? ⟨wr.heap.size, 1, none⟩ = some (.slice A' x.args.length ca) := (cell_heap HX1.out 1).trans rfl
            have c1a : ∀ o, (W1.alloc o).cell? ⟨wr.heap.size, 1, none⟩ = some (.slice A' x.args.length ca) := fun o => (cell_heap ((Below.heap_alloc _ _ _ hs1).trans HX1.out) 1).trans rfl
            have HL := HPS.out
            rw [printS_len] at HL
            have hwl := words_len x.op
            have HHL := Lib.hid HL
            have hla := len_args x.args
            have hd6 : done.length ≤ 4000000 := by omega
            have ha6 : x.args.length ≤ 4000000 := by omega
            have hJl : (wordOf x.op ++ argsW x.args).length ≤ 4000005 := by rw [List.length_append]; omega
            have HJL := Lib.hid hJl
            have j1 : (0 : Int) ≤ (j : Int) := by omega
            have j2 : (j : Int) < 11 := by omega
            have HWJ : Hid (wordsC[j]? = some (.string (bs (wordOf x.op)))) := Lib.hid (by rw [← hw]; exact wordsC_at hj)
            clear HL hwl hla hw hJl f0
            go_upto_region 9 with (fail)
            go_cut [] from 12 to 48 (fun wx => LpAt w wx w1.heap.size w.heap.size wordsC (done ++ (wordOf x.op ++ argsW x.args)) ∧ wx.heap[wr.heap.size]? = some (.cells #[.int .i64 x.op, .slice A' x.args.length ca, .int .i64 x.n, .slice B' kb cb] 61 (0, 0)))
            case first =>
              obtain ⟨i0, hi, hz0, hz1, hz2⟩ := info_parts infoS
              have OWN : ∀ W : World, W.heap[W1.heap.size]? = some (.cells #[.string (bs (wordOf x.op))] 9 (0, 0)) → W.ownsRow W1.heap.size 9 1 (.slice (some ⟨W1.heap.size, 0, none⟩) 1 1) 1 [.string (bs (wordOf x.op))] := fun W h => ⟨rfl, .inr ⟨W1.heap.size, 1, _, rfl, Nat.le_refl _, h, Nat.le_refl _, by unfold maxLen; decide, rfl, rfl⟩⟩
              have HOWN := Lib.hid OWN
              have ONES : Hid (∀ u ∈ strV x.args, u.oneCell' = true) := Lib.hid (fun u hu => by obtain ⟨a, _, rfl⟩ := List.mem_map.1 hu; rfl)
              have JN : Hid (∀ (W : World) (g c' : Nat), W.ownsRow W1.heap.size 9 1 (.slice (some ⟨g, 0, none⟩) (1 + x.args.length) c') (1 + x.args.length) ([.string (bs (wordOf x.op))] ++ strV x.args) → Calls Tryz.prog 109 #[.slice (some ⟨g, 0, none⟩) (1 + x.args.length) c', .string ⟨#[32]⟩] W fun e w' => e = .returned (.string (bs (wordOf x.op ++ argsW x.args))) ∧ Below W.heap.size W w') := Lib.hid (fun W g c' ho => by
                have hl : (bs (wordOf x.op) :: x.args.map bs).length = 1 + x.args.length := by simp; omega
                have hjl := HJL.out
                have hc : 1 + x.args.length ≤ c' := by
                  rcases ho.2 with ⟨h, _⟩ | ⟨_, _, _, h, _, _, h1, _⟩
                  · cases h
                  · injection h with _ _ h; omega
                have := Tryz.strings_Join g 0 c' (bs (wordOf x.op) :: x.args.map bs) ⟨#[32]⟩ W (fun i y hy => ?_) (own_block ho (g := g) rfl).2 (by rw [hl]; omega) (by rw [hl]; exact hc) (by rw [join_words]; omega)
                · rw [hl, join_words] at this
                  exact this
                · rw [Nat.zero_add]
                  have h2 := ho.cells (g := g) rfl i (.string y) (by
                    rw [List.singleton_append, strV_map, ← List.map_cons (f := Value.string)]
                    rw [List.getElem?_map, hy]; rfl)
                  rwa [add_eq] at h2)
              clear hj
              have hkA := And.intro cw c1
              have HLT : Hid (w.heap.size < W1.heap.size) := Lib.hid (by omega)
              have HNE : Hid (wr.heap.size ≠ w1.heap.size) := Lib.hid (by omega)
              have hkB : ∀ o, (W1.alloc o).cell? ⟨w.heap.size, j, none⟩ = some (.string (bs (wordOf x.op))) ∧ (W1.alloc o).cell? ⟨wr.heap.size, 1, none⟩ = some (.slice A' x.args.length ca) := fun o => ⟨(World.cell?_alloc_lt W1 o ⟨w.heap.size, j, none⟩ (by show w.heap.size < W1.heap.size; omega)).trans cw, c1a o⟩
              go_region_held3 (fun W => W.cell? ⟨w.heap.size, j, none⟩ = some (.string (bs (wordOf x.op))) ∧ W.cell? ⟨wr.heap.size, 1, none⟩ = some (.slice A' x.args.length ca)) (first | (with_reducible exact hkA) | (with_reducible exact hkB _) | (with_reducible exact hk2S) | (with_reducible exact hk3S) | (with_reducible exact ⟨hk4S.1, hk4S.2⟩) | go_keep) (first
                | (refine step_append_any _ rfl (.tmp 26) (.tmp 28) _ rfl W1.heap.size 9 i0 _ 1 16 Tryz.underlying24 hi hz0 hz1 hz2 rfl (by omega) (.slice (some ⟨W1.heap.size, 0, none⟩) 1 1) 1 [.string (bs (wordOf x.op))] rfl (HOWN.out _ (heap_alloc_new W1 _)) _ A' x.args.length ca (strV x.args) rfl (AR.out (W1.alloc (.cells #[.string (bs (wordOf x.op))] 9)) (HP1.out.below.alloc HP1.out.below.size _)) ONES.out (by simp only [maxLen]; omega) (by omega) (by simp) ?_; intro v2 w2 hown2 hg2 hat2; obtain ⟨g2, c2, rfl, hc2, hgb2⟩ := own_some hown2 (by omega); have G2 : (W1.alloc (.cells #[.string (bs (wordOf x.op))] 9)).grownBy w2 (Value.slice (some ⟨W1.heap.size, 0, none⟩) 1 1).ownBlock := ⟨hg2.os, hg2.tape, hg2.output, hg2.size, hg2.block⟩; have hb2 : Below W1.heap.size W1 w2 := ((Below.refl _ _).alloc (Nat.le_refl _) _).grown G2 (by simp) (fun k e => Nat.le_of_eq (Option.some.inj e)); have HP2 := Lib.hid (HP1.out.on hb2); have HX2 := Lib.hid ((hb2.block _ hs1).trans HX1.out); have JN2 := Lib.hid (JN.out w2 g2 c2 hown2); have hk2S := And.intro ((hb2.cell (p := ⟨w.heap.size, j, none⟩) HLT.out).trans cw) ((hb2.cell (p := ⟨wr.heap.size, 1, none⟩) hs1).trans c1); have HB2 := Lib.hid hb2; clear hown2 hg2 hat2 hb2 G2)
                | (go_at_call 109; (with_reducible refine (JN2.out).mono ?_); rintro e w3 ⟨rfl, hb3⟩; have HP3 := Lib.hid (HP2.out.on hb3); have HX3 := Lib.hid ((hb3.block _ (heap_lt2 HX2.out)).trans HX2.out); have WS3 := Lib.hid (HP3.out.write (bs (wordOf x.op ++ argsW x.args)) (by rw [bs_size]; have := HJL.out; omega)); have hb13 := HB2.out.trans (hb3.mono HB2.out.size); have hk3S := And.intro ((hb13.cell (p := ⟨w.heap.size, j, none⟩) HLT.out).trans cw) ((hb13.cell (p := ⟨wr.heap.size, 1, none⟩) hs1).trans c1); clear hb3 hb13)
                | (go_at_call 108; (with_reducible refine (WS3.out).mono ?_); rintro e w4 ⟨rfl, hp4, hk4⟩; have hk4S := And.intro ((cell_heap hp4.2.1 j).trans HWJ.out) ((cell_heap (hk4 _ _ HNE.out HX3.out) 1).trans rfl)))
              all_goals
                go_wp2_with (fail)
                go_meet
                exact ⟨hp4, hk4 _ _ (by omega) HX3.out⟩
            case rest =>
              -- TAIL
              obtain ⟨hp4, hx4⟩ := hcut
              clear HX1 HP1 AR cw c1 c1a HWJ HJL
              have HNE : Hid (wr.heap.size ≠ w1.heap.size) := Lib.hid (by omega)
              obtain ⟨s4, es4⟩ : ∃ s4, s4 = done ++ (wordOf x.op ++ argsW x.args) := ⟨_, rfl⟩
              have hs4 : s4.length = done.length + ((wordOf x.op).length + (argsW x.args).length) := by rw [es4]; simp only [List.length_append]
              rw [← es4] at hp4
              have HL := HHL.out
              have q40 : wc.cell? ⟨wr.heap.size, 0, none⟩ = some (.int .i64 x.op) := (cell_heap hx4 0).trans rfl
              have q42 : wc.cell? ⟨wr.heap.size, 2, none⟩ = some (.int .i64 x.n) := (cell_heap hx4 2).trans rfl
              have HP4 := Lib.hid hp4
              have HX4 := Lib.hid hx4
              clear hp4 hx4 HHL
              by_cases o9 : x.op = 9
              · have g9 : (x.op == 9) = true := by simp [o9]
                have go9 : opens x.op = true := by simp [opens, o9]
                have hT : s4.length + (1 + (Lib.itoa x.n).length) + 1 + (print x.block).length + 4 ≤ 4000000 := by rw [hs4]; simp only [if_pos o9, if_pos (Or.inl o9 : x.op = 9 ∨ x.op = 10)] at HL; omega
                have HS : Hid (s4 ++ (32 :: Lib.itoa x.n) ++ [10] ++ (print x.block ++ [101, 110, 100, 10]) = done ++ printS x) := Lib.hid (by rw [es4, printS]; simp only [if_pos o9, if_pos (Or.inl o9 : x.op = 9 ∨ x.op = 10)]; simp)
                have hlb : (print x.block).length ≤ 4000000 := by omega
                have hlP : (bs (print x.block)).size + (⟨#[101, 110, 100, 10]⟩ : ByteArray).size ≤ 9223372036854775807 := by rw [bs_size]; show _ + 4 ≤ _; omega
                obtain ⟨D, eD⟩ : ∃ D, D = bs (Lib.itoa x.n) := ⟨_, rfl⟩
                have hlD : (⟨#[32]⟩ : ByteArray).size + D.size ≤ 9223372036854775807 := by rw [eD, bs_size]; show 1 + _ ≤ _; omega
                have HDT : Hid ((⟨#[32]⟩ ++ D : ByteArray).data.toList = 32 :: Lib.itoa x.n) := Lib.hid (by rw [eD]; exact tl_app2 _ _)
                have IT : Hid (∀ W, Below w.heap.size w W → Calls Tryz.prog 110 #[.int .i64 x.n] W fun e w' => e = .returned (.string D) ∧ Below W.heap.size W w') := Lib.hid (fun W hW => by rw [eD]; exact itoa_env x.n HNM.out.1.1 HNM.out.1.2 W (EV.out W hW))
                clear hs4 es4 HL o9 eD
                go_wp2_with (first
                  | (go_at_call 110; (with_reducible refine (IT.out wc HP4.out.below).mono ?_); rintro e w5 ⟨rfl, hb5⟩; have hx5 := (hb5.block _ (heap_lt2 HX4.out)).trans HX4.out; have HP5 := Lib.hid (HP4.out.on hb5); have HX5 := Lib.hid hx5; clear hx5 hb5; have WS5 := Lib.hid (HP5.out.write2 (⟨#[32]⟩ ++ D) (32 :: Lib.itoa x.n) HDT.out (by simp only [List.length_cons]; omega)))
                  | (go_at_call 108; (with_reducible refine (WS5.out).mono ?_); rintro e w6 ⟨rfl, hp6, hk6⟩; have hx6 := hk6 _ _ HNE.out HX5.out; have HP6 := Lib.hid hp6; have HX6 := Lib.hid hx6; clear hx6 hp6 hk6; have WS6 := Lib.hid (HP6.out.write2 ⟨#[10]⟩ [10] rfl (by simp only [List.length_append, List.length_cons, List.length_nil]; omega)))
                  | (go_at_call 108; (with_reducible refine (WS6.out).mono ?_); rintro e w7 ⟨rfl, hp7, hk7⟩; have hx7 := hk7 _ _ HNE.out HX6.out; have q70 : w7.cell? ⟨wr.heap.size, 0, none⟩ = some (.int .i64 x.op) := (cell_heap hx7 0).trans rfl; have q71 : w7.cell? ⟨wr.heap.size, 1, none⟩ = some (.slice A' x.args.length ca) := (cell_heap hx7 1).trans rfl; have q72 : w7.cell? ⟨wr.heap.size, 2, none⟩ = some (.int .i64 x.n) := (cell_heap hx7 2).trans rfl; have q73 : w7.cell? ⟨wr.heap.size, 3, none⟩ = some (.slice B' kb cb) := (cell_heap hx7 3).trans rfl; have HP7 := Lib.hid hp7; have HX7 := Lib.hid hx7; clear hx7 hp7 hk7)
                  | (go_at_call 87; (with_reducible refine (begins_any x.op x.n A' B' x.args.length ca kb cb w7).mono ?_); rintro e w8 ⟨rfl, hb8⟩; have hx8 := (hb8.block _ (heap_lt2 HX7.out)).trans HX7.out; have HP8 := Lib.hid (HP7.out.on hb8); have q83 : w8.cell? ⟨wr.heap.size, 3, none⟩ = some (.slice B' kb cb) := (cell_heap hx8 3).trans rfl; have HX8 := Lib.hid hx8; clear hx8 hb8)
                  | (go_at_call 64; (with_reducible refine (IH.out hlb B' kb cb w8 ok (EV.out w8 HP8.out.below) (BA.out w8 HP8.out.below)).mono ?_); rintro e w9 ⟨rfl, hb9⟩; have hx9 := (hb9.block _ (heap_lt2 HX8.out)).trans HX8.out; have HP9 := Lib.hid (HP8.out.on hb9); have HX9 := Lib.hid hx9; clear hx9 hb9; have WS9 := Lib.hid (HP9.out.write2 (bs (print x.block) ++ ⟨#[101, 110, 100, 10]⟩) (print x.block ++ [101, 110, 100, 10]) (tl_app2 _ _) (by simp only [List.length_append, List.length_cons, List.length_nil]; omega)))
                  | (go_at_call 108; (with_reducible refine (WS9.out).mono ?_); rintro e w10 ⟨rfl, hp10, hk10⟩; have hx10 := hk10 _ _ HNE.out HX9.out; have HP10 := Lib.hid hp10; have HX10 := Lib.hid hx10; clear hx10 hp10 hk10))
                go_roundw
                case rel => exact ⟨k + 1, done ++ printS x, by go_num, by omega, HPT.out.symm, by rw [← HS.out]; exact HP10.out, by have := HP10.out.below.size; have := heap_lt2 HX10.out; omega⟩
                case measure => simp [intOf]; omega
              · by_cases o10 : x.op = 10
                · have g9 : (x.op == 9) = false := by simp [o9]
                  have go9 : opens x.op = true := by simp [opens, o10]
                  have hT : s4.length + 1 + (print x.block).length + 4 ≤ 4000000 := by rw [hs4]; simp only [if_neg o9, if_pos (Or.inr o10 : x.op = 9 ∨ x.op = 10)] at HL; omega
                  have HS : Hid (s4 ++ [10] ++ (print x.block ++ [101, 110, 100, 10]) = done ++ printS x) := Lib.hid (by rw [es4, printS]; simp only [if_neg o9, if_pos (Or.inr o10 : x.op = 9 ∨ x.op = 10)]; simp)
                  have hlb : (print x.block).length ≤ 4000000 := by omega
                  have hlP : (bs (print x.block)).size + (⟨#[101, 110, 100, 10]⟩ : ByteArray).size ≤ 9223372036854775807 := by rw [bs_size]; show _ + 4 ≤ _; omega
                  have WS4 := Lib.hid (HP4.out.write2 ⟨#[10]⟩ [10] rfl (by simp only [List.length_cons, List.length_nil]; omega))
                  clear hs4 es4 HL o9 o10
                  go_wp2_with (first
                    | (go_at_call 108; (with_reducible refine (WS4.out).mono ?_); rintro e w7 ⟨rfl, hp7, hk7⟩; have hx7 := hk7 _ _ HNE.out HX4.out; have q70 : w7.cell? ⟨wr.heap.size, 0, none⟩ = some (.int .i64 x.op) := (cell_heap hx7 0).trans rfl; have q71 : w7.cell? ⟨wr.heap.size, 1, none⟩ = some (.slice A' x.args.length ca) := (cell_heap hx7 1).trans rfl; have q72 : w7.cell? ⟨wr.heap.size, 2, none⟩ = some (.int .i64 x.n) := (cell_heap hx7 2).trans rfl; have q73 : w7.cell? ⟨wr.heap.size, 3, none⟩ = some (.slice B' kb cb) := (cell_heap hx7 3).trans rfl; have HP7 := Lib.hid hp7; have HX7 := Lib.hid hx7; clear hx7 hp7 hk7)
                    | (go_at_call 87; (with_reducible refine (begins_any x.op x.n A' B' x.args.length ca kb cb w7).mono ?_); rintro e w8 ⟨rfl, hb8⟩; have hx8 := (hb8.block _ (heap_lt2 HX7.out)).trans HX7.out; have HP8 := Lib.hid (HP7.out.on hb8); have q83 : w8.cell? ⟨wr.heap.size, 3, none⟩ = some (.slice B' kb cb) := (cell_heap hx8 3).trans rfl; have HX8 := Lib.hid hx8; clear hx8 hb8)
                    | (go_at_call 64; (with_reducible refine (IH.out hlb B' kb cb w8 ok (EV.out w8 HP8.out.below) (BA.out w8 HP8.out.below)).mono ?_); rintro e w9 ⟨rfl, hb9⟩; have hx9 := (hb9.block _ (heap_lt2 HX8.out)).trans HX8.out; have HP9 := Lib.hid (HP8.out.on hb9); have HX9 := Lib.hid hx9; clear hx9 hb9; have WS9 := Lib.hid (HP9.out.write2 (bs (print x.block) ++ ⟨#[101, 110, 100, 10]⟩) (print x.block ++ [101, 110, 100, 10]) (tl_app2 _ _) (by simp only [List.length_append, List.length_cons, List.length_nil]; omega)))
                    | (go_at_call 108; (with_reducible refine (WS9.out).mono ?_); rintro e w10 ⟨rfl, hp10, hk10⟩; have hx10 := hk10 _ _ HNE.out HX9.out; have HP10 := Lib.hid hp10; have HX10 := Lib.hid hx10; clear hx10 hp10 hk10))
                  go_roundw
                  case rel => exact ⟨k + 1, done ++ printS x, by go_num, by omega, HPT.out.symm, by rw [← HS.out]; exact HP10.out, by have := HP10.out.below.size; have := heap_lt2 HX10.out; omega⟩
                  case measure => simp [intOf]; omega
                · have g9 : (x.op == 9) = false := by simp [o9]
                  have go9 : opens x.op = false := by simp [opens, o9, o10]
                  have hT : s4.length + 1 ≤ 4000000 := by rw [hs4]; simp only [if_neg o9, if_neg (fun h => h.elim o9 o10 : ¬ (x.op = 9 ∨ x.op = 10))] at HL; omega
                  have HS : Hid (s4 ++ [10] = done ++ printS x) := Lib.hid (by rw [es4, printS]; simp only [if_neg o9, if_neg (fun h => h.elim o9 o10 : ¬ (x.op = 9 ∨ x.op = 10))]; simp)
                  have WS4 := Lib.hid (HP4.out.write2 ⟨#[10]⟩ [10] rfl (by simp only [List.length_cons, List.length_nil]; omega))
                  clear hs4 es4 HL o9 o10
                  go_wp2_with (first
                    | (go_at_call 108; (with_reducible refine (WS4.out).mono ?_); rintro e w7 ⟨rfl, hp7, hk7⟩; have hx7 := hk7 _ _ HNE.out HX4.out; have q70 : w7.cell? ⟨wr.heap.size, 0, none⟩ = some (.int .i64 x.op) := (cell_heap hx7 0).trans rfl; have q71 : w7.cell? ⟨wr.heap.size, 1, none⟩ = some (.slice A' x.args.length ca) := (cell_heap hx7 1).trans rfl; have q72 : w7.cell? ⟨wr.heap.size, 2, none⟩ = some (.int .i64 x.n) := (cell_heap hx7 2).trans rfl; have q73 : w7.cell? ⟨wr.heap.size, 3, none⟩ = some (.slice B' kb cb) := (cell_heap hx7 3).trans rfl; have HP7 := Lib.hid hp7; have HX7 := Lib.hid hx7; clear hx7 hp7 hk7)
                    | (go_at_call 87; (with_reducible refine (begins_any x.op x.n A' B' x.args.length ca kb cb w7).mono ?_); rintro e w8 ⟨rfl, hb8⟩; have hx8 := (hb8.block _ (heap_lt2 HX7.out)).trans HX7.out; have HP8 := Lib.hid (HP7.out.on hb8); have q83 : w8.cell? ⟨wr.heap.size, 3, none⟩ = some (.slice B' kb cb) := (cell_heap hx8 3).trans rfl; have HX8 := Lib.hid hx8; clear hx8 hb8))
                  go_roundw
                  case rel => exact ⟨k + 1, done ++ printS x, by go_num, by omega, HPT.out.symm, by rw [← HS.out]; exact HP8.out, by have := HP8.out.below.size; have := heap_lt2 HX8.out; omega⟩
                  case measure => simp [intOf]; omega
              -- /TAIL
      · obtain rfl : k = l.length := by omega
        rw [List.take_length] at hdone
        subst hdone
        have BS := Lib.hid (bstring_any w.heap.size w1.heap.size (print l) wr HP.out.1 hb.size)
        go_wp2_with (go_at_call 111; (with_reducible refine (BS.out).mono ?_); rintro e w5 ⟨rfl, hb5⟩)
        go_ret
        exact ⟨rfl, hb.trans hb5⟩
end Go.Proofs.YtdidnlkilleljaaGreatDoor.Lg
