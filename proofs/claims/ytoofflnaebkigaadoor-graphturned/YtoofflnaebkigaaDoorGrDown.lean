/- The contract of the closure of graph.Below, which goes down from a target. -/
import Derived.Test.YtoofflnaebkigaaDoorGrFind
import Derived.Test.YtoofflnaebkigaaDoorGrTwice
import Derived.Test.YtoofflnaebkigaaDoorGrSpec
import Derived.Test.YtoofflnaebkigaaDoorGrSorted
namespace Go.Proofs.YtoofflnaebkigaaDoor.Gr
open Go.RowKit
open Lg (Strs tl)
set_option linter.unusedVariables false
set_option maxRecDepth 100000
theorem gtrans {w w' w'' : World} {r : Option Nat} (h : w.grownBy w' r) (k : w'.grownBy w'' r) : w.grownBy w'' r :=
  ⟨k.os.trans h.os, k.tape.trans h.tape, k.output.trans h.output, Nat.le_trans h.size k.size, fun i hi hne => (k.block i (Nat.lt_of_lt_of_le hi h.size) hne).trans (h.block i hi hne)⟩
theorem gbelow {w w' : World} (h : Below w.heap.size w w') (r : Option Nat) : w.grownBy w' r := ⟨h.os, h.tape, h.output, h.size, fun b hb _ => h.block b hb⟩
theorem grefl (w : World) (r : Option Nat) : w.grownBy w r := ⟨rfl, rfl, rfl, Nat.le_refl _, fun _ _ _ => rfl⟩
/-- how the closure's captured variables lie: the targets at b1, the set's map m at b2, the closure itself at b3 -/
structure Dn (w0 : World) (A : Option Addr) (l : List Tg) (c b1 b2 b3 m : Nat) (W : World) : Prop where
  c1 : W.heap[b1]? = some (.cells #[.slice A l.length c] 22 (0, 0))
  c2 : W.heap[b2]? = some (.cells #[.map (some m)] 51 (0, 0))
  c3 : W.heap[b3]? = some (.cells #[.func (.func 32) #[] #[.pointer (some ⟨b1, 0, none⟩), .pointer (some ⟨b2, 0, none⟩), .pointer (some ⟨b3, 0, none⟩)]] 52 (0, 0))
  base : Below w0.heap.size w0 W
  tg : Tgs w0 A l
  m0 : w0.heap.size ≤ m
  n1 : b1 ≠ m
  n2 : b2 ≠ m
  n3 : b3 ≠ m
theorem Dn.grown {w0 : World} {A : Option Addr} {l : List Tg} {c b1 b2 b3 m : Nat} {W W' : World} (h : Dn w0 A l c b1 b2 b3 m W) (hg : W.grownBy W' (some m)) : Dn w0 A l c b1 b2 b3 m W' :=
  ⟨(hg.block _ (Lg.lt_heap h.c1) (fun e => h.n1 (Option.some.inj e))).trans h.c1, (hg.block _ (Lg.lt_heap h.c2) (fun e => h.n2 (Option.some.inj e))).trans h.c2, (hg.block _ (Lg.lt_heap h.c3) (fun e => h.n3 (Option.some.inj e))).trans h.c3,
    h.base.grown hg h.base.size (fun g e => by injection e with e; have := h.m0; omega), h.tg, h.m0, h.n1, h.n2, h.n3⟩
def DownSays (l : List Tg) (x : ByteArray) (S : List ByteArray) (m : Nat) (W : World) (e : Ending) (w' : World) : Prop :=
  e = .returned (.tuple #[]) ∧ ∃ S' n', Ss.SetAt w' m n' S' ∧ n' + unseen l S' ≤ l.length ∧ Down l x S S' ∧ W.grownBy w' (some m)
/-- what the closure's loop holds -/
structure Dk (l : List Tg) (x : ByteArray) (q : List ByteArray) (k : Nat) (S S' : List ByteArray) (n' m : Nat) (W wx : World) : Prop where
  set : Ss.SetAt wx m n' S'
  le : n' + unseen l S' ≤ l.length
  to : DownTo l x q k S S'
  fr : W.grownBy wx (some m)
theorem Dk.later {l : List Tg} {x : ByteArray} {q : List ByteArray} {k : Nat} {S S' : List ByteArray} {n' m : Nat} {W wx wy : World} (h : Dk l x q k S S' n' m W wx) (hb : Below wx.heap.size wx wy) : Dk l x q k S S' n' m W wy :=
  ⟨h.set.later hb, h.le, h.to, gtrans h.fr (gbelow hb _)⟩
theorem Dk.with_ {l : List Tg} {x : ByteArray} {q : List ByteArray} {k k' : Nat} {S S' : List ByteArray} {n' m : Nat} {W wx : World} (h : Dk l x q k S S' n' m W wx) (ht : DownTo l x q k' S S') : Dk l x q k' S S' n' m W wx :=
  ⟨h.set, h.le, ht, h.fr⟩
/-- the target's name is a target's, and was not seen -/
theorem unseen_step {l : List Tg} {S S' : List ByteArray} {x d : ByteArray} {q : List ByteArray} {k n N : Nat} (h : DownTo l x q k S S') (ht : isT l d = true) (hd : has S' d = false) (hN : unseen l S ≤ N) (hn : n + unseen l S' ≤ l.length) :
    unseen l (d :: S') < N ∧ (n + 1) + unseen l (d :: S') ≤ l.length := by
  have h1 := unseen_lt hd l ht
  have h2 := unseen_mono h.more l
  omega
theorem dep_of {l : List Tg} {x : ByteArray} {t : Tg} {k : Nat} (ht : t = (find l x).getD zeroT) (hk : k < t.ds.length) (hT : isT l t.ds[k] = true) : Dep l x t.ds[k] := by
  cases e : find l x with
  | none => rw [e] at ht; subst ht; simp [zeroT] at hk
  | some t' => rw [e] at ht; simp at ht; subst ht; exact ⟨t, e, List.getElem_mem hk, hT⟩
theorem dep_in {l : List Tg} {x : ByteArray} {t : Tg} (ht : t = (find l x).getD zeroT) : ∀ d, Dep l x d → d ∈ t.ds := by
  rintro d ⟨t', h1, h2, _⟩
  rw [h1] at ht; simp at ht; subst ht; exact h2
theorem fits_find {l : List Tg} {x : ByteArray} {t : Tg} (ht : t = (find l x).getD zeroT) (hf : ∀ t ∈ l, Fits t) : Fits t := by
  cases e : find l x with
  | none => rw [e] at ht; subst ht; exact ⟨by decide, by decide, by decide, by decide, by simp [zeroT], by simp [zeroT]⟩
  | some t' => rw [e] at ht; simp at ht; subst ht; exact hf _ (find_some e).1
set_option maxHeartbeats 2000000 in
theorem down_any (w0 : World) (A : Option Addr) (l : List Tg) (c b1 b2 b3 m : Nat) (hl : l.length ≤ 1000) (hf : ∀ t ∈ l, Fits t) : ∀ (N : Nat) (x : ByteArray) (S : List ByteArray) (n : Nat) (W : World), unseen l S ≤ N → n + unseen l S ≤ l.length → Dn w0 A l c b1 b2 b3 m W → Ss.SetAt W m n S →
    Calls Tryd.prog 32 #[.string x, .pointer (some ⟨b1, 0, none⟩), .pointer (some ⟨b2, 0, none⟩), .pointer (some ⟨b3, 0, none⟩)] W (DownSays l x S m W) := by
  intro N
  induction N using Nat.strongRecOn with
  | ind N ih =>
    intro x S n W hN hn hD hS
    have IH := Lib.hid ih
    have DN := Lib.hid hD
    have FT := Lib.hid hf
    have HN := Lib.hid hN
    have hc1 := Lg.cell_at hD.c1 0
    have F0 := Lib.hid (find_any A l c x w0 W hD.tg hD.base (by omega))
    have K0 : Hid (∀ q, Dk l x q 0 S S n m W W) := Lib.hid fun q => ⟨hS, hn, DownTo.zero _ _ _ _, grefl _ _⟩
    clear ih hf hN hn hD hS
    go_enter Tryd.func32, Tryd.ntmps32
    go_wp2_with (go_at_call 16; (with_reducible refine (F0.out).mono ?_); rintro e w1 ⟨⟨t, Ad, As, cd, cs, rfl, ht, hd, hs⟩, hb1⟩; have HT := Lib.hid ht; have HD := Lib.hid hd; clear ht hd hs)
    have hdl := (fits_find HT.out FT.out).dl
    have hds := Lib.hid (fits_find HT.out FT.out).d
    go_loopw [20] (fun i wx => ∃ (k n' : Nat) (S' : List ByteArray), i = .int .i64 k ∧ k ≤ t.ds.length ∧ Dk l x t.ds k S S' n' m W wx) (fun i _ => t.ds.length - (intOf i).toNat)
    case atStart => exact ⟨0, n, S, rfl, by omega, (K0.out t.ds).later (hb1.alloc hb1.size _)⟩
    case round =>
      obtain ⟨k, n', S', rfl, hk, hdk⟩ := hrel
      have DK := Lib.hid hdk
      have DX := Lib.hid (DN.out.grown hdk.fr)
      clear hdk
      by_cases hlt : k < t.ds.length
      · have hkI : (k : Int) < (t.ds.length : Int) := by omega
        obtain ⟨bd, rfl, _, hc⟩ := (HD.out.below DX.out.base).at_ hlt
        have hxz := hds.out _ (List.getElem_mem hlt)
        have hc1 := Lg.cell_at DX.out.c1 0
        have F1 : Hid (∀ b, isT l t.ds[k] = b → Calls Tryd.prog 16 #[.slice A l.length c, .string t.ds[k]] wr (FindB l t.ds[k] b w0 wr)) := Lib.hid fun b hb => findB_any A l c t.ds[k] w0 wr DX.out.tg DX.out.base (by omega) hb
        have SK : Hid ((isT l t.ds[k] = true → t.ds[k] ∈ S') → DownTo l x t.ds (k + 1) S S') := Lib.hid fun h => DK.out.to.skip hlt h
        have ST : Hid (isT l t.ds[k] = true → ∀ S2, Down l t.ds[k] (t.ds[k] :: S') S2 → DownTo l x t.ds (k + 1) S S2) := Lib.hid fun h S2 h2 => DK.out.to.step hlt (dep_of HT.out hlt h) h2
        have US : Hid (isT l t.ds[k] = true → has S' t.ds[k] = false → unseen l (t.ds[k] :: S') < N ∧ (n' + 1) + unseen l (t.ds[k] :: S') ≤ l.length) := Lib.hid fun h h2 => unseen_step DK.out.to h h2 HN.out DK.out.le
        have hxm : (t.ds[k]).size ≤ maxLen := by unfold maxLen; omega
        generalize t.ds[k] = d at *
        cases hT : isT l d
        · have F2 := Lib.hid (F1.out _ hT)
          have F := Lib.hid (SK.out (fun h => by rw [hT] at h; cases h))
          clear SK ST US hT F1
          go_wp2_with (go_at_call 16; (with_reducible refine (F2.out).mono ?_); rintro e w2 ⟨⟨t2, Ad2, As2, cd2, cs2, rfl, ht2, hd2, hs2⟩, hb2⟩; clear ht2 hd2 hs2)
          go_roundw
          case rel => exact ⟨k + 1, n', S', by go_num, by omega, (DK.out.with_ F.out).later (hb2.alloc hb2.size _)⟩
          case measure => simp [intOf]; omega
        · have F2 := Lib.hid (F1.out _ hT)
          cases hS : has S' d
          · have F3 := Lib.hid (ST.out hT)
            have U := Lib.hid (US.out hT hS)
            have LK : Hid (∀ W', Below wr.heap.size wr W' → (Instr.lookup 51 (.map (some m)) (.string d) false).run Tryd.prog W' = .ok (.bool false) W') := Lib.hid fun W' h => by
              have h2 := (DK.out.set.later h).look hxm
              rw [hS] at h2
              exact h2
            have DY : Hid (∀ W', Below wr.heap.size wr W' → Dn w0 A l c b1 b2 b3 m W') := Lib.hid fun W' h => DX.out.grown (gbelow h _)
            have PT : Hid (∀ W', Below wr.heap.size wr W' → ∃ w3, (Instr.mapUpdate 51 (.map (some m)) (.string d) (.bool true)).run Tryd.prog W' = .ok () w3 ∧ Dn w0 A l c b1 b2 b3 m w3 ∧ W.grownBy w3 (some m) ∧ Calls Tryd.prog 32 #[.string d, .pointer (some ⟨b1, 0, none⟩), .pointer (some ⟨b2, 0, none⟩), .pointer (some ⟨b3, 0, none⟩)] w3 (DownSays l d (d :: S') m w3)) := Lib.hid fun W' h => by
              obtain ⟨w3, h1, h2, h3⟩ := Ss.SetAt.put (DK.out.set.later h) (by have := DK.out.le; unfold maxLen; omega) hxm
              have h4 := (DX.out.grown (gbelow h _)).grown h3
              exact ⟨w3, h1, h4, gtrans (gtrans DK.out.fr (gbelow h _)) h3, IH.out _ U.out.1 d (d :: S') (n' + 1) w3 (Nat.le_refl _) U.out.2 h4 h2⟩
            clear SK ST US hS hT F1
            go_wp2_with (first | (go_at_call 16; (with_reducible refine (F2.out).mono ?_); rintro e w2 ⟨⟨t2, Ad2, As2, cd2, cs2, rfl, ht2, hd2, hs2⟩, hb2⟩; clear ht2 hd2 hs2; have hb3 : Below wr.heap.size wr (w2.alloc (.cells #[.string t2.n, .string t2.c, .slice Ad2 t2.ds.length cd2, .slice As2 t2.ss.length cs2] 35)) := hb2.alloc hb2.size _; have lk := LK.out _ hb3; have k2 := Lg.cell_at (DY.out _ hb3).c2 0; obtain ⟨w3, hput, hd3, hg3, hc3⟩ := PT.out _ hb3; have k3 := Lg.cell_at hd3.c3 0; have C3 := Lib.hid hc3; have G3 := Lib.hid hg3; clear hd3 hc3 hg3) | (go_at_call 32; (with_reducible refine (C3.out).mono ?_); rintro e w4 ⟨rfl, S2, n2, hS2, hn2, hdn, hg4⟩))
            go_roundw
            case rel => exact ⟨k + 1, n2, S2, by go_num, by omega, hS2, hn2, F3.out S2 hdn, gtrans G3.out hg4⟩
            case measure => simp [intOf]; omega
          · have F := Lib.hid (SK.out (fun _ => has_iff.1 hS))
            have LK : Hid (∀ W', Below wr.heap.size wr W' → (Instr.lookup 51 (.map (some m)) (.string d) false).run Tryd.prog W' = .ok (.bool true) W') := Lib.hid fun W' h => by
              have h2 := (DK.out.set.later h).look hxm
              rw [hS] at h2
              exact h2
            have DY : Hid (∀ W', Below wr.heap.size wr W' → Dn w0 A l c b1 b2 b3 m W') := Lib.hid fun W' h => DX.out.grown (gbelow h _)
            clear SK ST US hS hT F1
            go_wp2_with (go_at_call 16; (with_reducible refine (F2.out).mono ?_); rintro e w2 ⟨⟨t2, Ad2, As2, cd2, cs2, rfl, ht2, hd2, hs2⟩, hb2⟩; clear ht2 hd2 hs2; have hb3 : Below wr.heap.size wr (w2.alloc (.cells #[.string t2.n, .string t2.c, .slice Ad2 t2.ds.length cd2, .slice As2 t2.ss.length cs2] 35)) := hb2.alloc hb2.size _; have lk := LK.out _ hb3; have k2 := Lg.cell_at (DY.out _ hb3).c2 0)
            go_roundw
            case rel => exact ⟨k + 1, n', S', by go_num, by omega, (DK.out.with_ F.out).later (hb2.alloc hb2.size _)⟩
            case measure => simp [intOf]; omega
      · obtain rfl : k = t.ds.length := by omega
        have F := Lib.hid (DK.out.to.end_ (dep_in HT.out))
        go_wp2_with (fail)
        go_end0
        exact ⟨rfl, S', n', DK.out.set, DK.out.le, F.out, DK.out.fr⟩
end Go.Proofs.YtoofflnaebkigaaDoor.Gr
/- The contract of graph.Below. -/
namespace Go.Proofs.YtoofflnaebkigaaDoor.Gr
open Go.RowKit
open Lg (Strs tl)
set_option linter.unusedVariables false
set_option maxRecDepth 100000
abbrev pickTo (S' : List ByteArray) (l : List Tg) (k : Nat) : List ByteArray := pick (fun x => has S' x) (l.take k) []
theorem pickTo_yes {S' : List ByteArray} {l : List Tg} {k : Nat} (hk : k < l.length) (h : (has S' l[k].n && !has (pickTo S' l k) l[k].n) = true) : pickTo S' l (k + 1) = pickTo S' l k ++ [l[k].n] := by
  simp only [Bool.and_eq_true, Bool.not_eq_true'] at h
  rw [pickTo, pick_take l [] k hk, if_pos h]
theorem pickTo_no {S' : List ByteArray} {l : List Tg} {k : Nat} (hk : k < l.length) (h : (has S' l[k].n && !has (pickTo S' l k) l[k].n) = false) : pickTo S' l (k + 1) = pickTo S' l k := by
  rw [pickTo, pick_take l [] k hk, if_neg]
  rintro ⟨h1, h2⟩
  rw [h1, h2] at h; cases h
theorem pickTo_end {S' : List ByteArray} {l : List Tg} {x : ByteArray} (h : ∀ d, has S' d = true ↔ Reach l x d) : pickTo S' l l.length = below l x := by
  rw [pickTo, List.take_length]
  exact below_of h
theorem pickTo_le (S' : List ByteArray) (l : List Tg) (k : Nat) : (pickTo S' l k).length ≤ l.length := by
  have := pick_le (S := fun x => has S' x) (l.take k) []
  simp at this; unfold pickTo; omega
/-- what the last loop of Below holds in a world -/
structure Bl (w : World) (l : List Tg) (S' : List ByteArray) (k : Nat) (v : Value) (wx : World) : Prop where
  set : ∃ n Sk, Ss.SetAt wx (w.heap.size + 1) n Sk ∧ ∀ x, has Sk x = (has S' x && !has (pickTo S' l k) x)
  own : wx.ownsRow (w.heap.size + 4) 9 1 v (pickTo S' l k).length ((pickTo S' l k).map Value.string)
  c2 : wx.heap[w.heap.size + 1 + 1]? = some (.cells #[.map (some (w.heap.size + 1))] 51 (0, 0))
  below : Below w.heap.size w wx
  size : w.heap.size + 4 ≤ wx.heap.size
theorem heap_at {w : World} {o : Obj} {n : Nat} (h : w.heap.size = n) : (w.alloc o).heap[n]? = some o := by
  subst h; exact heap_alloc_new w o
theorem Bl.later {w wx wy : World} {l : List Tg} {S' : List ByteArray} {k : Nat} {v : Value} (h : Bl w l S' k v wx) (hb : Below wx.heap.size wx wy) : Bl w l S' k v wy := by
  obtain ⟨n, Sk, h1, h2⟩ := h.set
  exact ⟨⟨n, Sk, h1.later hb, h2⟩, own_later h.own hb, (hb.block _ (Lg.lt_heap h.c2)).trans h.c2, h.below.trans (hb.mono h.below.size), by have := hb.size; have := h.size; omega⟩
theorem Bl.skip {w wx : World} {l : List Tg} {S' : List ByteArray} {k : Nat} {v : Value} (h : Bl w l S' k v wx) (e : pickTo S' l (k + 1) = pickTo S' l k) : Bl w l S' (k + 1) v wx := by
  obtain ⟨n, Sk, h1, h2⟩ := h.set
  exact ⟨⟨n, Sk, h1, by rw [e]; exact h2⟩, by rw [e]; exact h.own, h.c2, h.below, h.size⟩
/-- a look-up in the loop -/
theorem Bl.look {w wx : World} {l : List Tg} {S' : List ByteArray} {k : Nat} {v : Value} (h : Bl w l S' k v wx) {s : ByteArray} (hs : s.size ≤ maxLen) :
    (Instr.lookup 51 (.map (some (w.heap.size + 1))) (.string s) false).run Tryd.prog wx = .ok (.bool (has S' s && !has (pickTo S' l k) s)) wx := by
  obtain ⟨n, Sk, h1, h2⟩ := h.set
  rw [← h2 s]; exact h1.look hs
/-- a name that is picked, and struck from the set -/
theorem Bl.next {w wr w2 : World} {l : List Tg} {S' : List ByteArray} {k : Nat} {v v2 : Value} {o p : Obj} {x : ByteArray} (h : Bl w l S' k v wr) (hg : ((wr.alloc o).alloc p).grownBy w2 v.ownBlock) (hown : w2.ownsRow (w.heap.size + 4) 9 1 v2 ((pickTo S' l k).length + 1) ((pickTo S' l k).map Value.string ++ [.string x]))
    (hx : x.size ≤ maxLen) (hs : pickTo S' l (k + 1) = pickTo S' l k ++ [x]) (ty : TypeId) :
    w2.heap[wr.heap.size]? = some o ∧ w2.heap[w.heap.size + 1 + 1]? = some (.cells #[.map (some (w.heap.size + 1))] 51 (0, 0)) ∧ ∃ w3, (Builtin.delete_ #[51, 9] ty #[.map (some (w.heap.size + 1)), .string x]).run Tryd.prog w2 = .ok (.tuple #[]) w3 ∧ Bl w l S' (k + 1) v2 w3 := by
  have hz := h.size
  have hlt : ∀ j, some j = v.ownBlock → w.heap.size + 4 ≤ j ∧ j < wr.heap.size := fun j e => h.own.lt j e.symm
  have hb2 : Below w.heap.size w w2 := ((h.below.alloc h.below.size o).alloc (by have := h.below.size; simp; omega) p).grown hg (by simp; omega) (fun j hj => by have := (hlt j hj.symm).1; omega)
  have blk : ∀ j, j < wr.heap.size → j < w.heap.size + 4 → w2.heap[j]? = wr.heap[j]? := fun j h1 h2 =>
    (hg.block _ (by simp; omega) (fun e => by have := (hlt j e).1; omega)).trans ((Below.heap_alloc _ _ _ (by simp; omega)).trans (Below.heap_alloc _ _ _ h1))
  have hc2 := (blk _ (Lg.lt_heap h.c2) (by omega)).trans h.c2
  have ho : w2.heap[wr.heap.size]? = some o :=
    (hg.block _ (by simp; omega) (fun e => by have := (hlt _ e).2; omega)).trans ((Below.heap_alloc _ _ _ (by simp)).trans (heap_alloc_new wr o))
  obtain ⟨n, Sk, h1, h2⟩ := h.set
  have hS2 : Ss.SetAt w2 (w.heap.size + 1) n Sk := h1.keep (blk _ h1.lt (by omega))
  obtain ⟨w3, hdel, hS3, hg3⟩ := hS2.del hx ty
  refine ⟨ho, hc2, w3, hdel, ⟨n, _, hS3, ?_⟩, ?_, ?_, ?_, ?_⟩
  · intro y
    have e1 : has (Sk.filter fun z => !decide (z = x)) y = (has Sk y && !decide (y = x)) := by
      rw [Bool.eq_iff_iff]
      simp only [has_iff, List.mem_filter, Bool.and_eq_true, Bool.not_eq_true', decide_eq_false_iff_not]
    rw [e1, h2 y, hs]
    have e2 : has (pickTo S' l k ++ [x]) y = (has (pickTo S' l k) y || decide (x = y)) := by simp [has, List.any_append]
    rw [e2]
    by_cases e : y = x
    · subst e; simp
    · rw [decide_eq_false e, decide_eq_false (fun h => e h.symm)]; simp
  · rw [hs, List.map_append, List.length_append]
    refine ⟨hown.1, ?_⟩
    rcases hown.2 with h0 | ⟨g, cap, cur, hv, hgB, hc, h1, h2, h3, h4⟩
    · exact .inl h0
    · exact .inr ⟨g, cap, cur, hv, hgB, (hg3.block _ (Lg.lt_heap hc) (fun e => by injection e with e; omega)).trans hc, h1, h2, h3, h4⟩
  · exact (hg3.block _ (Lg.lt_heap hc2) (fun e => by injection e with e; omega)).trans hc2
  · exact hb2.grown hg3 hb2.size (fun j e => by injection e with e; omega)
  · have h1 := hg3.size
    have h2 := hg.size
    simp at h2
    omega
set_option maxHeartbeats 2000000 in
theorem below_any (A : Option Addr) (l : List Tg) (c : Nat) (x : ByteArray) (w : World) (hr : Tgs w A l) (hl : l.length ≤ 1000) (hf : ∀ t ∈ l, Fits t) :
    Calls Tryd.prog 18 #[.slice A l.length c, .string x] w (ListSays (below l x) w) := by
  obtain ⟨i0, hi, hz0, hz1, hz2⟩ := Lg.info_parts Lg.infoS
  have hmm := @run_makeMap Tryd.prog
  have hsf := fun (fn : Fn) (first cap : Array Value) (a : Addr) (w : World) => run_store Tryd.prog w a (.func fn first cap) .plain rfl
  obtain ⟨W0, eW⟩ : ∃ W0, W0 = (((w.alloc (.cells #[.slice A l.length c] 22)).alloc (.map #[] 0)).alloc (.cells #[.map (some (w.heap.size + 1))] 51)).alloc (.cells #[.func (.func 32) #[] #[.pointer (some ⟨w.heap.size, 0, none⟩), .pointer (some ⟨w.heap.size + 1 + 1, 0, none⟩), .pointer (some ⟨w.heap.size + 1 + 1 + 1, 0, none⟩)]] 52) := ⟨_, rfl⟩
  have hsz : W0.heap.size = w.heap.size + 4 := by rw [eW]; simp
  have hb0 : Below w.heap.size w W0 := by rw [eW]; exact ((((Below.refl _ _).alloc (Nat.le_refl _) _).alloc (by simp) _).alloc (by simp; omega) _).alloc (by simp; omega) _
  have k3 : W0.heap[w.heap.size + 1 + 1 + 1]? = some (.cells #[.func (.func 32) #[] #[.pointer (some ⟨w.heap.size, 0, none⟩), .pointer (some ⟨w.heap.size + 1 + 1, 0, none⟩), .pointer (some ⟨w.heap.size + 1 + 1 + 1, 0, none⟩)]] 52 (0, 0)) := by
    rw [eW]; exact heap_at (by simp)
  have k2 : W0.heap[w.heap.size + 1 + 1]? = some (.cells #[.map (some (w.heap.size + 1))] 51 (0, 0)) := by
    rw [eW, Below.heap_alloc _ _ _ (by simp)]; exact heap_at (by simp)
  have k1 : W0.heap[w.heap.size]? = some (.cells #[.slice A l.length c] 22 (0, 0)) := by
    rw [eW, Below.heap_alloc _ _ _ (by simp; omega), Below.heap_alloc _ _ _ (by simp; omega)]; exact Lg.heap_two
  have hS0 : Ss.SetAt W0 (w.heap.size + 1) 0 [] := by
    have h1 : Ss.SetAt ((w.alloc (.cells #[.slice A l.length c] 22)).alloc (.map #[] 0)) (w.heap.size + 1) 0 [] := by
      have := Ss.SetAt.made (w.alloc (.cells #[.slice A l.length c] 22))
      simpa using this
    rw [eW]
    exact (h1.alloc _).alloc _
  have D0 : Hid (Dn w A l c w.heap.size (w.heap.size + 1 + 1) (w.heap.size + 1 + 1 + 1) (w.heap.size + 1) W0) := Lib.hid ⟨k1, k2, k3, hb0, hr, by omega, by omega, by omega, by omega⟩
  have C0 := Lib.hid (down_any w A l c w.heap.size (w.heap.size + 1 + 1) (w.heap.size + 1 + 1 + 1) (w.heap.size + 1) hl hf l.length x [] 0 W0 (unseen_le _ _) (by have := unseen_le l []; omega) D0.out hS0)
  have B0 : Hid (∀ S' n' w1, Ss.SetAt w1 (w.heap.size + 1) n' S' → W0.grownBy w1 (some (w.heap.size + 1)) → Bl w l S' 0 (.slice none 0 0) w1) := Lib.hid fun S' n' w1 h1 h2 =>
    ⟨⟨n', S', h1, fun x => by simp [pickTo, pick, has]⟩, World.ownsRow_nil _ _ _ _, ((D0.out.grown h2).c2), (D0.out.grown h2).base, by have := h2.size; omega⟩
  have HR := Lib.hid hr
  have SZ : Hid (∀ k (hk : k < l.length), l[k].n.size ≤ maxLen) := Lib.hid fun k hk => by have := (hf _ (List.getElem_mem hk)).n; unfold maxLen; omega
  clear hr hf k1 k2 k3 hS0 hsz hb0
  go_enter Tryd.func18, Tryd.ntmps18
  go_wp2_with (go_at_call 32; rw [← eW]; (with_reducible refine (C0.out).mono ?_); rintro e w1 ⟨rfl, S', n', hS1, hn1, hdn, hg1⟩; clear eW; have k1 := Lg.cell_at (D0.out.grown hg1).c1 0; have B1 := Lib.hid (B0.out _ _ _ hS1 hg1); have DN := Lib.hid hdn; clear hS1 hn1 hdn hg1)
  go_loopw [7, 17] (fun v i wx => ∃ k : Nat, i = .int .i64 k ∧ k ≤ l.length ∧ Bl w l S' k v wx) (fun _ i _ => l.length - (intOf i).toNat)
  case atStart => exact ⟨0, rfl, by omega, B1.out⟩
  case round =>
    obtain ⟨k, rfl, hk, hbl⟩ := hrel
    have BL := Lib.hid hbl
    clear hbl
    by_cases hlt : k < l.length
    · have hkI : (k : Int) < (l.length : Int) := by omega
      obtain ⟨ad, rfl, had, hcs⟩ := HR.out.below BL.out.below (by omega)
      obtain ⟨Ad, cd, As, cs, c0, c1, c2, c3, hd, hs⟩ := hcs k hlt
      have e1 : wr.cell? ⟨(ad.add (k * 4)).block, (ad.add (k * 4)).off + 1, none⟩ = some (.string l[k].c) := c1
      have e2 : wr.cell? ⟨(ad.add (k * 4)).block, (ad.add (k * 4)).off + 2, none⟩ = some (.slice Ad l[k].ds.length cd) := c2
      have e3 : wr.cell? ⟨(ad.add (k * 4)).block, (ad.add (k * 4)).off + 3, none⟩ = some (.slice As l[k].ss.length cs) := c3
      have hxz := SZ.out k hlt
      have PY := Lib.hid (pickTo_yes (S' := S') hlt)
      have PN := Lib.hid (pickTo_no (S' := S') hlt)
      clear c1 c2 c3 hd hs hcs
      generalize l[k] = t at *
      have hbb : Below wr.heap.size wr (wr.alloc (.cells #[.string t.n, .string t.c, .slice Ad t.ds.length cd, .slice As t.ss.length cs] 35)) := (Below.refl _ _).alloc (Nat.le_refl _) _
      have LK := (BL.out.later hbb).look hxz
      have cm := Lg.cell_at (BL.out.later hbb).c2 0
      cases hq : has S' t.n && !has (pickTo S' l k) t.n
      · rw [hq] at LK
        have F := Lib.hid (PN.out hq)
        clear PY PN hq
        go_wp2_with (fail)
        go_roundw
        case rel => exact ⟨k + 1, by go_num, by omega, (BL.out.later hbb).skip F.out⟩
        case measure => simp [intOf]; omega
      · rw [hq] at LK
        have F := Lib.hid (PY.out hq)
        have hown := BL.out.own
        have hsz := BL.out.size
        have hpl := pickTo_le S' l k
        have HN : ((wr.alloc (.cells #[.string t.n, .string t.c, .slice Ad t.ds.length cd, .slice As t.ss.length cs] 35)).alloc (.cells #[.string t.n] 9)).heap[wr.heap.size + 1]? = some (.cells #[.string t.n] 9 (0, 0)) := heap_alloc2_new wr _ _
        have HNH := Lib.hid HN
        clear PY PN hq HN
        go_wp2_with (at_builtin; refine wpList_append_any _ rfl (.tmp 25) (.tmp 28) _ rfl (w.heap.size + 4) 9 i0 _ 1 16 Tryd.underlying28 hi hz0 hz1 hz2 rfl (by omega) _ (pickTo S' l k).length _ rfl ((hown.alloc _).alloc _) _ (some ⟨wr.heap.size + 1, 0, none⟩) 1 1 [.string t.n] rfl (Lg.reads_one HNH.out) (Lg.mem1 rfl) (by simp only [maxLen]; omega) (by omega) (by simp; omega) ?_; intro v2 w2 hown2 hg2 hat2; obtain ⟨ho, hc2, w3, hdel, hb3⟩ := BL.out.next hg2 hown2 hxz F.out 0; have cn := Lg.cell_at ho 0; have cm2 := Lg.cell_at hc2 0; have B3 := Lib.hid hb3; clear hown2 hg2 hat2 hown ho hc2 hb3)
        go_roundw
        case rel => exact ⟨k + 1, by go_num, by omega, B3.out⟩
        case measure => simp [intOf]; omega
    · obtain rfl : k = l.length := by omega
      have F := Lib.hid (pickTo_end DN.out.below)
      go_wp2_with (fail)
      go_ret
      rw [← F.out]
      exact own_ans BL.out.own rfl BL.out.below
end Go.Proofs.YtoofflnaebkigaaDoor.Gr
/- The contract of the reference's Below. -/
namespace Go.Proofs.YtoofflnaebkigaaDoor.Gr
open Go.RowKit
open Lg (Strs tl)
set_option linter.unusedVariables false
set_option maxRecDepth 100000
theorem own_grown {w w' : World} {B : Nat} {e : TypeId} {size : Nat} {v : Value} {n : Nat} {xs : List Value} {row : Option Nat} (h : w.ownsRow B e size v n xs) (hg : w.grownBy w' row) (hne : ∀ b, v.ownBlock = some b → some b ≠ row) : w'.ownsRow B e size v n xs := by
  refine ⟨h.1, ?_⟩
  rcases h.2 with h0 | ⟨g, cap, cur, hv, hgB, hc, h1, h2, h3, h4⟩
  · exact .inl h0
  · exact .inr ⟨g, cap, cur, hv, hgB, (hg.block _ (Lg.lt_heap hc) (hne g (by rw [hv]; rfl))).trans hc, h1, h2, h3, h4⟩
/-- how the three lists lie: what is gathered (av), what is to come (Aq), what comes in the next round (rv) -/
structure Rm (w : World) (a q r : List ByteArray) (av : Value) (Aq : Option Addr) (rv : Value) (wx : World) : Prop where
  oa : wx.ownsRow w.heap.size 9 1 av a.length (a.map Value.string)
  or : wx.ownsRow w.heap.size 9 1 rv r.length (r.map Value.string)
  ne : ∀ b, av.ownBlock = some b → rv.ownBlock ≠ some b
  qr : Strs wx Aq q
  qa : 0 < q.length → ∀ ad, Aq = some ad → av.ownBlock ≠ some ad.block ∧ rv.ownBlock ≠ some ad.block
  below : Below w.heap.size w wx
section
variable {w wx wy : World} {a q r : List ByteArray} {av rv : Value} {Aq : Option Addr}
theorem Rm.later (h : Rm w a q r av Aq rv wx) (hb : Below wx.heap.size wx wy) : Rm w a q r av Aq rv wy :=
  ⟨own_later h.oa hb, own_later h.or hb, h.ne, h.qr.below hb, h.qa, h.below.trans (hb.mono h.below.size)⟩
theorem q_grown {row : Option Nat} (h : Strs wx Aq q) (hg : wx.grownBy wy row) (hne : 0 < q.length → ∀ ad, Aq = some ad → row ≠ some ad.block) : Strs wy Aq q := by
  refine ⟨h.1, fun hn => ?_⟩
  obtain ⟨ad, e, hb, hc⟩ := h.2 hn
  refine ⟨ad, e, Nat.lt_of_lt_of_le hb hg.size, fun j u hu => ?_⟩
  rw [World.cell?_of_block (w := wx) (hg.block _ (by rw [block_of_add]; exact hb) (by rw [block_of_add]; exact fun e2 => hne hn ad e e2.symm))]
  exact hc j u hu
theorem own_lt {v : Value} {B : Nat} {e : TypeId} {size n : Nat} {xs : List Value} (h : wx.ownsRow B e size v n xs) {b : Nat} (hb : v.ownBlock = some b) : B ≤ b ∧ b < wx.heap.size := h.lt b hb
/-- one more in what is gathered -/
theorem Rm.addA (h : Rm w a q r av Aq rv wx) {d : ByteArray} {av' : Value} (hg : wx.grownBy wy av.ownBlock) (hown : wy.ownsRow w.heap.size 9 1 av' (a.length + 1) (a.map Value.string ++ [.string d])) (hat : av'.ownBlock = av.ownBlock ∨ av'.ownBlock = some wx.heap.size) :
    Rm w (a ++ [d]) q r av' Aq rv wy := by
  refine ⟨by rw [List.map_append, List.length_append]; exact hown, own_grown h.or hg (fun b hb e => h.ne b e.symm hb), ?_, q_grown h.qr hg (fun hn ad e => (h.qa hn ad e).1), ?_, h.below.grown hg h.below.size (fun b hb => (own_lt h.oa hb).1)⟩
  · intro b hb
    rcases hat with e | e
    · exact h.ne b (e ▸ hb)
    · rw [e] at hb; injection hb with hb
      intro e2
      have := (own_lt h.or e2).2
      omega
  · intro hn ad e
    refine ⟨?_, (h.qa hn ad e).2⟩
    rcases hat with e2 | e2
    · rw [e2]; exact (h.qa hn ad e).1
    · rw [e2]
      intro e3
      injection e3 with e3
      obtain ⟨ad', e4, hb, _⟩ := h.qr.2 hn
      rw [e] at e4; injection e4 with e4; subst e4
      omega
/-- some more in what comes next -/
theorem Rm.addR (h : Rm w a q r av Aq rv wx) {ds : List ByteArray} {rv' : Value} (hg : wx.grownBy wy rv.ownBlock) (hown : wy.ownsRow w.heap.size 9 1 rv' (r.length + ds.length) (r.map Value.string ++ ds.map Value.string)) (hat : rv'.ownBlock = rv.ownBlock ∨ rv'.ownBlock = some wx.heap.size) :
    Rm w a q (r ++ ds) av Aq rv' wy := by
  refine ⟨own_grown h.oa hg (fun b hb e => h.ne b hb e.symm), by rw [List.map_append, List.length_append]; exact hown, ?_, q_grown h.qr hg (fun hn ad e => (h.qa hn ad e).2), ?_, h.below.grown hg h.below.size (fun b hb => (own_lt h.or hb).1)⟩
  · intro b hb
    rcases hat with e | e
    · rw [e]; exact h.ne b hb
    · rw [e]
      intro e2; injection e2 with e2
      have := (own_lt h.oa hb).2
      omega
  · intro hn ad e
    refine ⟨(h.qa hn ad e).1, ?_⟩
    rcases hat with e2 | e2
    · rw [e2]; exact (h.qa hn ad e).2
    · rw [e2]
      intro e3
      injection e3 with e3
      obtain ⟨ad', e4, hb, _⟩ := h.qr.2 hn
      rw [e] at e4; injection e4 with e4; subst e4
      omega
/-- the round ends: what comes next is to come -/
theorem Rm.turn (h : Rm w a q r av Aq rv wx) : ∃ A c, rv = .slice A r.length c ∧ r.length ≤ c ∧ Rm w a r [] av A (.slice none 0 0) wx := by
  obtain ⟨A, c, rfl, hc, hs⟩ := Lg.own_strs h.or
  refine ⟨A, c, rfl, hc, h.oa, World.ownsRow_nil _ _ _ _, fun b _ e => by simp [Value.ownBlock] at e, hs, fun hn ad e => ⟨fun e2 => ?_, by simp [Value.ownBlock]⟩, h.below⟩
  subst e
  rcases h.or.2 with ⟨h1, h2⟩ | ⟨g, cap, cur, hv, _⟩
  · simp at h1
  · injection hv with h1 h2 h3
    injection h1 with h1
    subst h1
    exact h.ne _ e2 rfl
end
theorem box_at {w2 w3 : World} {o p : Obj} {r : Option Nat} (hg : ((w2.alloc o).alloc p).grownBy w3 r) (hne : r ≠ some w2.heap.size) : w3.heap[w2.heap.size]? = some o :=
  (hg.block _ (by simp; omega) (fun e => hne e.symm)).trans ((Below.heap_alloc _ _ _ (by simp)).trans (heap_alloc_new w2 o))
theorem strs_one (l : List ByteArray) : ∀ u ∈ l.map Value.string, u.oneCell' = true := by
  intro u hu
  obtain ⟨s, _, rfl⟩ := List.mem_map.1 hu
  rfl
theorem nil_below {l : List Tg} {x : ByteArray} (h : isT l x = false) : below l x = [] := below_none (by
  cases e : find l x with
  | none => rfl
  | some t => rw [some_isT e] at h; cases h)
theorem start_ok {l : List Tg} {x : ByteArray} {t : Tg} (ht : t = (find l x).getD zeroT) (h : isT l x = true) : find l x = some t := by
  cases e : find l x with
  | none => rw [none_isT e] at h; cases h
  | some t' => rw [e] at ht; simp at ht; rw [ht]
set_option maxHeartbeats 2000000 in
theorem rbelow_any (A : Option Addr) (l : List Tg) (c : Nat) (x : ByteArray) (w : World) (hr : Tgs w A l) (hl : l.length ≤ 1000) (hf : ∀ t ∈ l, Fits t) :
    Calls Tryd.prog 19 #[.slice A l.length c, .string x] w (ListSays (below l x) w) := by
  obtain ⟨i0, hi, hz0, hz1, hz2⟩ := Lg.info_parts Lg.infoS
  have HR := Lib.hid hr
  have FT := Lib.hid hf
  have FD : Hid (∀ s W b, Below w.heap.size w W → isT l s = b → Calls Tryd.prog 17 #[.slice A l.length c, .string s] W (FindB l s b w W)) := Lib.hid fun s W b hW hb => rfindB_any A l c s w W hr hW (by omega) hb
  clear hr hf
  cases hT : isT l x
  · have F0 := Lib.hid (FD.out x w _ (Below.refl _ _) hT)
    have F := Lib.hid (nil_below hT)
    clear hT
    go_enter Tryd.func19, Tryd.ntmps19
    go_wp2_with (go_at_call 17; (with_reducible refine (F0.out).mono ?_); rintro e w1 ⟨⟨t, Ad, As, cd, cs, rfl, ht, hd, hs⟩, hb1⟩; clear ht hd hs)
    go_ret
    rw [F.out]
    exact ⟨⟨none, 0, rfl, Nat.le_refl _, Reads.none_⟩, hb1.alloc hb1.size _⟩
  · have F0 := Lib.hid (FD.out x w _ (Below.refl _ _) hT)
    have HT := Lib.hid hT
    clear hT
    go_enter Tryd.func19, Tryd.ntmps19
    go_wp2_with (go_at_call 17; (with_reducible refine (F0.out).mono ?_); rintro e w1 ⟨⟨t, Ad, As, cd, cs, rfl, ht, hd, hs⟩, hb1⟩; have HF := Lib.hid (start_ok ht HT.out); have HD := Lib.hid hd; clear ht hd hs)
    have hdl := (FT.out t (find_some HF.out).1).dl
    go_loopw [7, 8] (fun av qv wx => ∃ (a q : List ByteArray) (Aq : Option Addr) (cq : Nat), qv = .slice Aq q.length cq ∧ q.length ≤ (a.length + 1) * 1000 ∧ Bfs l x a q [] ∧ Rm w a q [] av Aq (.slice none 0 0) wx) (fun av qv _ => 2 * (l.length - sliceLen av) + min 1 (sliceLen qv))
    case atStart => 
      refine ⟨[], t.ds, Ad, cd, rfl, by simp; exact hdl, Bfs.start HF.out, World.ownsRow_nil _ _ _ _, World.ownsRow_nil _ _ _ _, fun b h => by simp [Value.ownBlock] at h, HD.out.below (hb1.alloc hb1.size _), fun _ _ _ => ⟨by simp [Value.ownBlock], by simp [Value.ownBlock]⟩, hb1.alloc hb1.size _⟩
    case round =>
      obtain ⟨a, q, Aq, cq, rfl, hq, hbf, hrm⟩ := hrel
      have BF := Lib.hid hbf
      have RM := Lib.hid hrm
      have hal := hbf.le
      have hsa := own_len hrm.oa
      have MS : Hid (∀ (a' r : List ByteArray) (av' rv : Value) (w' : World) (A' : Option Addr), a.length ≤ a'.length → (a'.length = a.length → r = []) → a'.length ≤ l.length → 0 < q.length → sliceLen av' = a'.length → 2 * (l.length - sliceLen av') + min 1 r.length < 2 * (l.length - sliceLen u7) + min 1 q.length) := Lib.hid fun a' r av' rv w' A' h1 h2 h3 h4 h5 => by
        rw [h5, hsa]
        rcases Nat.lt_or_ge a.length a'.length with h6 | h6
        · omega
        · have := h2 (by omega)
          subst this
          simp
          omega
      obtain ⟨wo, rfl⟩ : ∃ wo : World, wo = wr := ⟨_, rfl⟩
      clear hbf hrm hsa
      by_cases h0 : 0 < q.length
      · have h0I : (0 : Int) < (q.length : Int) := by omega
        go_wp2_with (fail)
        go_loopw [7, 9, 10] (fun av rv i wx => ∃ (a' r : List ByteArray) (j : Nat), i = .int .i64 j ∧ j ≤ q.length ∧ r.length ≤ a'.length * 1000 ∧ a.length ≤ a'.length ∧ (a'.length = a.length → r = []) ∧ Bfs l x a' (q.drop j) r ∧ Rm w a' q r av Aq rv wx) (fun _ _ i _ => q.length - (intOf i).toNat)
        case atStart => exact ⟨a, [], 0, rfl, by omega, by simp, by omega, fun _ => rfl, BF.out, RM.out⟩
        case round =>
          obtain ⟨a', r, j, rfl, hj, hrl, ha, hra, hbf, hrm⟩ := hrel
          have BX := Lib.hid hbf
          have RX := Lib.hid hrm
          have hal' := hbf.le
          have HRA := Lib.hid hra
          clear hbf hrm hra
          by_cases hlt : j < q.length
          · have hjI : (j : Int) < (q.length : Int) := by omega
            obtain ⟨bd, rfl, hbd, hc⟩ := RX.out.qr.at_ hlt
            have QC : Hid (∀ W, Below wr.heap.size wr W → W.cell? (bd.add j) = some (.string q[j])) := Lib.hid fun W hW => (hW.cell (by rw [block_of_add]; exact hbd)).trans hc
            have DR : Hid (q.drop j = q[j] :: q.drop (j + 1)) := Lib.hid (List.drop_eq_getElem_cons hlt)
            generalize q[j] = d at *
            rw [DR.out] at BX
            obtain ⟨A2, c2, rfl, hc2, hst⟩ := Lg.own_strs RX.out.oa
            have HST := Lib.hid hst
            have HS : Hid (∀ W, Below wr.heap.size wr W → ∀ b, has a' d = b → Calls Tryd.prog 33 #[.slice A2 a'.length c2, .string d] W fun e w' => e = .returned (.bool b) ∧ W = w') := Lib.hid fun W hW b hb => by
              rw [← hb]; exact rhas_any A2 a' c2 d W (HST.out.below hW) (by omega)
            clear hst
            cases hT : isT l d
            · have F1 := Lib.hid (FD.out d wr _ RX.out.below hT)
              have F := Lib.hid (BX.out.skip (fun h => by rw [hT] at h; cases h))
              clear hT
              go_wp2_with (go_at_call 17; (with_reducible refine (F1.out).mono ?_); rintro e w2 ⟨⟨t2, Ad2, As2, cd2, cs2, rfl, ht2, hd2, hs2⟩, hb2⟩; clear ht2 hd2 hs2)
              go_roundw
              case rel => exact ⟨a', r, j + 1, by go_num, by omega, hrl, ha, HRA.out, F.out, RX.out.later (hb2.alloc hb2.size _)⟩
              case measure => simp [intOf]; omega
            · have F1 := Lib.hid (FD.out d wr _ RX.out.below hT)
              cases hS : has a' d
              · have H2 := Lib.hid fun W hW => HS.out W hW _ hS
                have FF := Lib.hid (fun t (h : find l d = some t) => BX.out.take h (has_no.1 hS))
                have HT2 := Lib.hid hT
                clear hT hS
                go_wp2_with (first
                  | (go_at_call 17; (with_reducible refine (F1.out).mono ?_); rintro e w2 ⟨⟨t2, Ad2, As2, cd2, cs2, rfl, ht2, hd2, hs2⟩, hb2⟩; have HF2 := Lib.hid (start_ok ht2 HT2.out); have HD2 := Lib.hid hd2; clear ht2 hd2 hs2; have hdl2 := (FT.out t2 (find_some HF2.out).1).dl; have hb3 : Below wr.heap.size wr (w2.alloc (.cells #[.string t2.n, .string t2.c, .slice Ad2 t2.ds.length cd2, .slice As2 t2.ss.length cs2] 35)) := hb2.alloc hb2.size _; have H3 := Lib.hid (H2.out _ hb3); have q2 := QC.out _ hb2; have q3 := QC.out _ hb3; have R4 := Lib.hid (RX.out.later (hb3.alloc hb3.size (.cells #[.string d] 9))); have HN4 := Lib.hid (heap_alloc2_new w2 (.cells #[.string t2.n, .string t2.c, .slice Ad2 t2.ds.length cd2, .slice As2 t2.ss.length cs2] 35) (.cells #[.string d] 9)); have NE : Hid ((Value.slice A2 a'.length c2).ownBlock ≠ some w2.heap.size) := Lib.hid (fun e => by have := (own_lt RX.out.oa e).2; have := hb2.size; omega))
                  | (go_at_call 33; (with_reducible refine (H3.out).mono ?_); rintro e w' ⟨rfl, rfl⟩)
                  | (at_builtin; refine wpList_append_any _ rfl (.tmp 53) (.tmp 58) _ rfl w.heap.size 9 i0 _ 1 16 Tryd.underlying28 hi hz0 hz1 hz2 rfl (by omega) _ a'.length _ rfl R4.out.oa _ (some ⟨w2.heap.size + 1, 0, none⟩) 1 1 [.string d] rfl (Lg.reads_one HN4.out) (Lg.mem1 rfl) (by simp only [maxLen]; omega) (by omega) R4.out.below.size ?_; intro v2 w3 hown2 hg2 hat2; have R5 := Lib.hid (R4.out.addA hg2 hown2 hat2); have cb := Lg.cell_at (box_at hg2 NE.out) 2; clear hown2 hg2 hat2)
                  | (at_builtin; refine wpList_append_any _ rfl (.tmp 60) (.tmp 62) _ rfl w.heap.size 9 i0 _ 1 16 Tryd.underlying28 hi hz0 hz1 hz2 rfl (by omega) _ r.length _ rfl R5.out.or _ Ad2 t2.ds.length cd2 (t2.ds.map Value.string) rfl (HD2.out.below R5.out.below) (strs_one t2.ds) (by simp only [maxLen]; omega) (by omega) R5.out.below.size ?_; intro v3 w4 hown3 hg3 hat3; have R6 := Lib.hid (R5.out.addR hg3 hown3 hat3); clear hown3 hg3 hat3))
                go_roundw
                case rel => exact ⟨a' ++ [d], r ++ t2.ds, j + 1, by go_num, by omega, by simp; omega, by simp; omega, fun e => by simp at e; omega, FF.out t2 HF2.out, R6.out⟩
                case measure => simp [intOf]; omega
              · have H2 := Lib.hid fun W hW => HS.out W hW _ hS
                have F := Lib.hid (BX.out.skip (fun _ => has_iff.1 hS))
                clear hT hS
                go_wp2_with (first | (go_at_call 17; (with_reducible refine (F1.out).mono ?_); rintro e w2 ⟨⟨t2, Ad2, As2, cd2, cs2, rfl, ht2, hd2, hs2⟩, hb2⟩; clear ht2 hd2 hs2; have hb3 : Below wr.heap.size wr (w2.alloc (.cells #[.string t2.n, .string t2.c, .slice Ad2 t2.ds.length cd2, .slice As2 t2.ss.length cs2] 35)) := hb2.alloc hb2.size _; have H3 := Lib.hid (H2.out _ hb3); have q2 := QC.out _ hb2; have q3 := QC.out _ hb3) | (go_at_call 33; (with_reducible refine (H3.out).mono ?_); rintro e w' ⟨rfl, rfl⟩))
                go_roundw
                case rel => exact ⟨a', r, j + 1, by go_num, by omega, hrl, ha, HRA.out, F.out, RX.out.later (hb2.alloc hb2.size _)⟩
                case measure => simp [intOf]; omega
          · obtain rfl : j = q.length := by omega
            obtain ⟨A3, c3, rfl, hc3, hr3⟩ := RX.out.turn
            have R3 := Lib.hid hr3
            have F : Hid (Bfs l x a' r []) := Lib.hid (by have := BX.out; rw [List.drop_length] at this; exact this.turn)
            have M := Lib.hid (MS.out a' r _ (.slice A3 r.length c3) wr Aq ha HRA.out hal' h0 (own_len RX.out.oa))
            clear hr3
            go_wp2_with (fail)
            go_roundw
            case rel => exact ⟨a', r, A3, c3, rfl, by omega, F.out, R3.out⟩
            case measure => exact M.out
      · have h0I : ¬ (0 : Int) < (q.length : Int) := by omega
        obtain rfl : q = [] := List.eq_nil_of_length_eq_zero (by omega)
        obtain ⟨A2, c2, rfl, hc2, hst⟩ := Lg.own_strs RM.out.oa
        have B0 := Lib.hid RM.out.below
        have RS : Hid (Rm w [] a [] (.slice none 0 0) A2 (.slice none 0 0) wo) := Lib.hid ⟨World.ownsRow_nil _ _ _ _, World.ownsRow_nil _ _ _ _, fun b h => by simp [Value.ownBlock] at h, hst, fun _ _ _ => ⟨by simp [Value.ownBlock], by simp [Value.ownBlock]⟩, RM.out.below⟩
        have RE := Lib.hid (pickTo_end BF.out.below)
        have NM : Hid (∀ W, Below w.heap.size w W → 0 < l.length → ∃ ad, A = some ad ∧ ∀ k (hk : k < l.length), W.cell? (ad.add (k * 4)) = some (.string l[k].n)) := Lib.hid fun W hW hl => by
          obtain ⟨ad, e, had, hcs⟩ := HR.out.below hW hl
          refine ⟨ad, e, fun k hk => ?_⟩
          obtain ⟨_, _, _, _, h, _⟩ := hcs k hk
          exact h
        clear hst MS
        go_wp2_with (fail)
        go_loopw [13, 14] (fun ov i wx => ∃ k : Nat, i = .int .i64 k ∧ k ≤ l.length ∧ Rm w (pickTo a l k) a [] ov A2 (.slice none 0 0) wx) (fun _ i _ => l.length - (intOf i).toNat)
        case atStart => exact ⟨0, rfl, by omega, RS.out⟩
        case round =>
          obtain ⟨k, rfl, hk, hrm⟩ := hrel
          have RX := Lib.hid hrm
          clear hrm
          by_cases hlt : k < l.length
          · have hkI : (k : Int) < (l.length : Int) := by omega
            obtain ⟨ad, rfl, hcn⟩ := NM.out _ RX.out.below (by omega)
            have hc0 := hcn k hlt
            obtain ⟨A3, c3, rfl, hc3, hst3⟩ := Lg.own_strs RX.out.oa
            have hpl := pickTo_le a l k
            have H1 := Lib.hid (rhas_any A2 a c2 l[k].n wr RX.out.qr (by omega))
            have H2 := Lib.hid (rhas_any A3 (pickTo a l k) c3 l[k].n wr hst3 (by omega))
            have PY := Lib.hid (pickTo_yes (S' := a) hlt)
            have PN := Lib.hid (pickTo_no (S' := a) hlt)
            have hbb : ∀ o, Below wr.heap.size wr (wr.alloc o) := fun o => (Below.refl _ _).alloc (Nat.le_refl _) o
            have HBB := Lib.hid hbb
            clear hcn hst3 hbb
            generalize l[k] = t at *
            cases h1 : has a t.n
            · rw [h1] at H1
              have F := Lib.hid (PN.out (by rw [h1]; rfl))
              clear h1 PY PN H2
              go_wp2_with (go_at_call 33; (with_reducible refine (H1.out).mono ?_); rintro e w' ⟨rfl, rfl⟩)
              go_roundw
              case rel => exact ⟨k + 1, by go_num, by omega, by rw [F.out]; exact RX.out⟩
              case measure => simp [intOf]; omega
            · rw [h1] at H1
              cases h2 : has (pickTo a l k) t.n
              · rw [h2] at H2
                have F := Lib.hid (PY.out (by rw [h1, h2]; rfl))
                have R4 := Lib.hid (RX.out.later (HBB.out (.cells #[.string t.n] 9)))
                clear h1 h2 PY PN
                go_wp2_with (first
                  | (go_at_call 33; (with_reducible refine (H1.out).mono ?_); rintro e w' ⟨rfl, rfl⟩)
                  | (go_at_call 33; (with_reducible refine (H2.out).mono ?_); rintro e w' ⟨rfl, rfl⟩)
                  | (at_builtin; refine wpList_append_any _ rfl (.tmp 88) (.tmp 94) _ rfl w.heap.size 9 i0 _ 1 16 Tryd.underlying28 hi hz0 hz1 hz2 rfl (by omega) _ (pickTo a l k).length _ rfl R4.out.oa _ (some ⟨wr.heap.size, 0, none⟩) 1 1 [.string t.n] rfl (Lg.reads_one (heap_alloc_new wr _)) (Lg.mem1 rfl) (by simp only [maxLen]; omega) (by omega) R4.out.below.size ?_; intro v2 w3 hown2 hg2 hat2; have R5 := Lib.hid (R4.out.addA hg2 hown2 hat2); clear hown2 hg2 hat2))
                go_roundw
                case rel => exact ⟨k + 1, by go_num, by omega, by rw [F.out]; exact R5.out⟩
                case measure => simp [intOf]; omega
              · rw [h2] at H2
                have F := Lib.hid (PN.out (by rw [h1, h2]; rfl))
                clear h1 h2 PY PN
                go_wp2_with (first | (go_at_call 33; (with_reducible refine (H1.out).mono ?_); rintro e w' ⟨rfl, rfl⟩) | (go_at_call 33; (with_reducible refine (H2.out).mono ?_); rintro e w' ⟨rfl, rfl⟩))
                go_roundw
                case rel => exact ⟨k + 1, by go_num, by omega, by rw [F.out]; exact RX.out⟩
                case measure => simp [intOf]; omega
          · obtain rfl : k = l.length := by omega
            go_wp2_with (fail)
            go_ret
            rw [← RE.out]
            exact own_ans RX.out.oa rfl RX.out.below
end Go.Proofs.YtoofflnaebkigaaDoor.Gr
