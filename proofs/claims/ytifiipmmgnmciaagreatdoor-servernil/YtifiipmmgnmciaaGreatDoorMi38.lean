/- Joined by mkmerged.py: CdNum, CdSpec, CdScan, CdSheet, CdOp, CdText, CdEvent. -/
import Derived.Test.YtifiipmmgnmciaaGreatDoorMi17
import Derived.Test.YtifiipmmgnmciaaGreatDoorMi04
import Derived.Shelf.Strconv.ParseIntPublic10
import Derived.Test.YtifiipmmgnmciaaGreatDoorProg
import Derived.Test.YtifiipmmgnmciaaGreatDoorMi18
import Derived.Test.YtifiipmmgnmciaaGreatDoorMi24
import Derived.Test.YtifiipmmgnmciaaGreatDoorMi27
import Derived.Test.YtifiipmmgnmciaaGreatDoorMi03
import Derived.Test.YtifiipmmgnmciaaGreatDoorMi11
import Derived.Deep.RegionHeld3
import Derived.Test.YtifiipmmgnmciaaGreatDoorMi23
/- CdNum, what a claim needs of it (prune.py). -/
namespace Go.Proofs.YtifiipmmgnmciaaGreatDoor.Cd
open Go.RowKit
open Pk (Rd)
abbrev B := List UInt8
set_option linter.unusedVariables false
set_option maxRecDepth 100000
def numOf (s : B) : Option Int := match Lib.parseIntB 64 s with
  | .ok v => if Lib.itoa v = s then some v else none
  | _ => none
def num (r : Rd) : Int × Rd :=
  if r.text.2.bad ≠ 0 then (0, r.text.2) else match numOf r.text.1 with
  | some v => (v, r.text.2)
  | none => (0, ⟨r.text.2.rest, 11⟩)
end Go.Proofs.YtifiipmmgnmciaaGreatDoor.Cd
/- CdSpec, what a claim needs of it (prune.py). -/
namespace Go.Proofs.YtifiipmmgnmciaaGreatDoor.Cd
open Go.RowKit
open Pk (Rd)
open Ops (Rs Ev OkO)
set_option linter.unusedVariables false
set_option maxRecDepth 100000
abbrev Op := Ops.Op
def resB (r : Rs) : B := Pk.text (Lib.itoa r.e) ++ (Pk.text (tl r.at_) ++ Pk.text (tl r.tx)) ++ Pk.text (Pk.list (r.fs.map Fl.b))
def opB (x : Op) : B := Pk.text (tl x.n) ++ Pk.text (Pk.list (x.gr.map Tg.b)) ++ Pk.text (Pk.list (x.sn.map Fl.b)) ++ Pk.text (tl x.go) ++ Pk.text (Lib.itoa x.st) ++ resB x.r
def evB (e : Ev) : B := Pk.text (Lib.itoa e.k) ++ opB e.x
structure Sc where
  rd : Rd
  odd : Bool
def Sc.text (s : Sc) : B × Sc := (s.rd.text.1, ⟨s.rd.text.2, s.odd⟩)
def Sc.num (s : Sc) : Int × Sc := ((Cd.num s.rd).1, ⟨(Cd.num s.rd).2, s.odd⟩)
def Sc.files (s : Sc) : List Fl × Sc := ((Pk.all takesF s.text.1).1.map mkFl, ⟨s.text.2.rd, s.odd || decide ((Pk.all takesF s.text.1).2 ≠ 0)⟩)
def Sc.graph (s : Sc) : List Tg × Sc := ((Pk.all takesT s.text.1).1.map mkTg, ⟨s.text.2.rd, s.odd || decide ((Pk.all takesT s.text.1).2 ≠ 0)⟩)
def Sc.res (s : Sc) : Rs × Sc :=
  (⟨s.num.1, bs s.num.2.text.1, bs s.num.2.text.2.text.1, s.num.2.text.2.text.2.files.1⟩, s.num.2.text.2.text.2.files.2)
def Sc.op (s : Sc) : Op × Sc :=
  (⟨bs s.text.1, s.text.2.graph.1, s.text.2.graph.2.files.1, bs s.text.2.graph.2.files.2.text.1, s.text.2.graph.2.files.2.text.2.num.1, s.text.2.graph.2.files.2.text.2.num.2.res.1⟩, s.text.2.graph.2.files.2.text.2.num.2.res.2)
def Sc.ev (s : Sc) : Ev × Sc := (⟨s.num.1, s.num.2.op.1⟩, s.num.2.op.2)
def zeroE : Ev := ⟨0, Ops.zeroO⟩
def Sc.fin (s : Sc) : Nat := if s.rd.fin ≠ 0 then s.rd.fin else if s.odd = true then 11 else 0
def readEv (data : B) : Ev × Nat := if (Sc.ev ⟨⟨data, 0⟩, false⟩).2.fin ≠ 0 then (zeroE, (Sc.ev ⟨⟨data, 0⟩, false⟩).2.fin) else ((Sc.ev ⟨⟨data, 0⟩, false⟩).1, 0)
structure OkE (e : Ev) : Prop where
  k : 0 ≤ e.k ∧ e.k < 10
  st : 0 ≤ e.x.st ∧ e.x.st < 10
  re : 0 ≤ e.x.r.e ∧ e.x.r.e < 10
  at_ : e.x.r.at_.size ≤ 100000
  tx : e.x.r.tx.size ≤ 100000
end Go.Proofs.YtifiipmmgnmciaaGreatDoor.Cd
/- CdScan, what a claim needs of it (prune.py). -/
namespace Go.Proofs.YtifiipmmgnmciaaGreatDoor.Cd
open Go.RowKit
open Pk (Rd)
open Dk (Kp)
set_option linter.unusedVariables false
set_option maxRecDepth 100000
def SS (b c : Nat) : Nat → Prop := fun k => k = b ∨ k = c
structure ScAt (w : World) (b c : Nat) (s : Sc) : Prop where
  rd : RdAt w b s.rd
  sc : w.heap[c]? = some (.cells #[.pointer (some ⟨b, 0, none⟩), .bool s.odd] 326 (0, 0))
theorem own_kp {S : Nat → Prop} {w w' : World} {B : Nat} {e : TypeId} {size : Nat} {v : Value} {n : Nat} {xs : List Value} (h : w.ownsRow B e size v n xs) (k : Kp S w w') (hS : ∀ i, S i → i < B) : w'.ownsRow B e size v n xs := by
  refine ⟨h.1, ?_⟩
  rcases h.2 with h0 | ⟨g, cap, cur, hv, hg, hc, h1, h2, h3, h4⟩
  · exact .inl h0
  · exact .inr ⟨g, cap, cur, hv, hg, (k.block g (lt_heap hc) (fun e => by have := hS g e; omega)).trans hc, h1, h2, h3, h4⟩
structure Cx (w0 w : World) (b c : Nat) (s : Sc) : Prop where
  env : Lg.Env w0
  hb : w0.heap.size ≤ b
  hc : w0.heap.size ≤ c
  hw : Below w0.heap.size w0 w
  at_ : ScAt w b c s
  le : s.rd.rest.length ≤ 100000000
def Goes (w0 w : World) (b c : Nat) (s' : Sc) (w' : World) : Prop := Cx w0 w' b c s' ∧ Kp (SS b c) w w'
end Go.Proofs.YtifiipmmgnmciaaGreatDoor.Cd
/- CdSheet, what a claim needs of it (prune.py). -/
namespace Go.Proofs.YtifiipmmgnmciaaGreatDoor.Cd
open Go.RowKit
set_option linter.unusedVariables false
set_option maxRecDepth 100000
theorem liesSheet : liesAt Tryz.prog Tryz.prog.depth 219 (2 / Tryz.prog.cellsOf 219) 0 217 1 = true := by kernel_rfl
set_option maxHeartbeats 1000000 in
theorem scheck_fresh (b : Nat) (w : World) (h0 : w.cell? ⟨b, 0, none⟩ = some (.pointer none)) (hsh : w.shape? b = some (219, 2)) (hfz : w.frozen? ⟨b, 0, none⟩ = false) :
    Calls Tryz.prog 189 #[.pointer (some ⟨b, 0, none⟩)] w fun e w' => e = .returned (.tuple #[]) ∧ w' = w.setCell ⟨b, 0, none⟩ (.pointer (some ⟨b, 0, none⟩)) := by
  obtain ⟨j, hj, hjs⟩ := Option.map_eq_some_iff.1 sizeBuilder
  go_enter Tryz.func189, Tryz.ntmps189
  go_wp2
  rw [Lib.run_to_unsafe w ⟨b, 0, none⟩ Tryz.underlying214 Tryz.underlying343 hj (by rw [hjs]; decide) hsh (Nat.zero_lt_succ 1)]
  simp only [Result.andThen]
  rw [Oper.upon_value]
  go_wp2
  rw [run_callFunc_extern Tryz.func244 (by kernel_rfl) (by kernel_rfl) (by kernel_rfl) (e := Extern.AbiNoEscape.same) (by kernel_rfl)]
  rw [Lib.run_noEscape]
  simp only [Result.andThen]
  rw [Oper.upon_value]
  go_wp2
  rw [Lib.run_from_unsafe w ⟨b, 0, none⟩ Tryz.underlying343 Tryz.underlying214 hj hsh liesSheet]
  simp only [Result.andThen]
  rw [Oper.upon_value]
  go_wp2
  go_end0
  exact ⟨rfl, rfl⟩
abbrev ShAt (B b : Nat) (l : List UInt8) (w : World) : Prop := Lib.IsBuilder 219 5 B b (Lib.byteCells l) w
def KU (b : Nat) (w w' : World) : Prop := ∀ k, k < w.heap.size → k ≠ b → (∀ cs fr, w.heap[k]? ≠ some (.cells cs 5 fr)) → w'.heap[k]? = w.heap[k]?
theorem KU.trans {b : Nat} {w w1 w2 : World} (h : KU b w w1) (k : KU b w1 w2) (hs : w.heap.size ≤ w1.heap.size) : KU b w w2 := fun i h1 h2 h3 => by
  have h4 := h i h1 h2 h3
  exact (k i (by omega) h2 (fun cs fr => by rw [h4]; exact h3 cs fr)).trans h4
theorem KU.of_below {b : Nat} {w w' : World} (h : Below w.heap.size w w') : KU b w w' := fun i h1 _ _ => h.block i h1
theorem KU.setCell {b : Nat} {w w' : World} (h : KU b w w') {p : Addr} (hp : p.block = b) (v : Value) : KU b w (w'.setCell p v) := fun i h1 h2 h3 => (Below.heap_setCell _ _ _ _ (fun e => h2 (by rw [e, hp]))).trans (h i h1 h2 h3)
theorem KU.freeze {b g n : Nat} {w : World} {cs : Array Value} {fr : Nat × Nat} (hg : w.heap[g]? = some (.cells cs 5 fr)) : KU b w (w.drew.freeze ⟨g, 0, none⟩ n) := fun i h1 h2 h3 => by
  have hne : i ≠ g := fun e => h3 _ _ (by rw [e]; exact hg)
  unfold World.freeze
  split
  · rfl
  · show (Array.modify w.heap g _)[i]? = _
    rw [Array.getElem?_modify, if_neg (fun e => hne e.symm)]
theorem scheck_any (B b : Nat) (bs : List Value) (w : World) (h : Lib.IsBuilder 219 5 B b bs w) :
    Calls Tryz.prog 189 #[.pointer (some ⟨b, 0, none⟩)] w fun e w' => e = .returned (.tuple #[]) ∧ (Lib.BuilderAt 219 5 B b (.pointer (some ⟨b, 0, none⟩)) bs w' ∧ Below B w w' ∧ KU b w w') := by
  rcases h with h | h
  · refine (scheck_fresh b w h.cell0 h.shape h.frozen0).mono ?_
    rintro e w' ⟨rfl, rfl⟩
    exact ⟨rfl, h.used _, (Below.refl B w).setCell (p := ⟨b, 0, none⟩) h.1 _, KU.setCell (b := b) (p := ⟨b, 0, none⟩) (fun _ _ _ _ => rfl) rfl _⟩
  · refine (copyCheck_used b w h.cell0).mono ?_
    rintro e w' ⟨rfl, rfl⟩
    exact ⟨rfl, h, Below.refl B _, fun _ _ _ _ => rfl⟩
set_option maxHeartbeats 2000000 in
theorem swrite_any (B b : Nat) (l : List UInt8) (S : ByteArray) (w : World) (h : ShAt B b l w) (hlen : l.length + S.size ≤ 140737488355328) (hBw : B ≤ w.heap.size) :
    Calls Tryz.prog 120 #[.pointer (some ⟨b, 0, none⟩), .string S] w fun e w' => e = .returned (.tuple #[.int .i64 S.size, .nilIface]) ∧ ShAt B b (l ++ S.data.toList) w' ∧ Below B w w' ∧ KU b w w' := by
  have hS : (S.size : Int) ≤ 140737488355328 := by omega
  go_enter Tryz.func120, Tryz.ntmps120
  go_upto_region 2 with (go_at_call 189; ((with_reducible refine (scheck_any B b _ _ h).mono ?_); rintro e w1 ⟨rfl, h1, hb1, hk1⟩))
  obtain ⟨hB, v, hbk, hown, hne⟩ := h1
  rw [show (Lib.byteCells l).length = l.length by simp [Lib.byteCells]] at hown
  have c0 : w1.cell? ⟨b, 0, none⟩ = some (.pointer (some ⟨b, 0, none⟩)) := by rw [Lib.cell_of_heap hbk]; rfl
  have c1 : w1.cell? ⟨b, 1, none⟩ = some v := by rw [Lib.cell_of_heap hbk]; rfl
  have hs1 : B ≤ w1.heap.size := Nat.le_trans hBw hb1.size
  have hlt : b < w1.heap.size := lt_heap hbk
  go_wp2_with (at_builtin; refine append_text rfl (.tmp 12) (.tmp 13) 215 9 rfl B 5 Tryz.underlying215 Tryz.underlying9 (by kernel_rfl) v l.length l rfl hown S rfl hlen hs1 hb1 ?_; intro v' w2 hown2 hb2 hoth; have hbk2 := (hoth b hlt (fun e => hne e.symm)).trans hbk; have d1 : w2.cell? ⟨b, 1, none⟩ = some v := (cell_heap hbk2 1).trans rfl; have f1 : w2.frozen? ⟨b, 1, none⟩ = false := frozen_heap hbk2 1; obtain ⟨p, m, c, rfl⟩ := own_form hown2)
  go_ret2
  have hKU : KU b w1 w2 := fun k h1 h2 h3 => hoth k h1 (fun e => by rcases hown.2 with ⟨hv, _⟩ | ⟨g, cap, cur, hv, _, hg, _⟩ <;> rw [hv] at e <;> simp [Value.ownBlock] at e; subst e; exact h3 _ _ hg)
  refine ⟨rfl, Or.inr ?_, ?_, KU.setCell (hk1.trans hKU hb1.size) rfl _⟩
  · refine Lib.BuilderAt.put hB hbk2 ?_ (by decide)
    rw [show (Lib.byteCells (l ++ S.data.toList)).length = l.length + S.size by simp [Lib.byteCells]]
    exact hown2
  · exact hb2.setCell (p := ⟨b, 1, none⟩) hB _
set_option maxHeartbeats 2000000 in
theorem sstring_any (B b : Nat) (l : List UInt8) (w : World) (h : ShAt B b l w) (h0 : l ≠ []) :
    Calls Tryz.prog 116 #[.pointer (some ⟨b, 0, none⟩)] w fun e w' => e = .returned (.string (bs l)) ∧ Below B w w' ∧ KU b w w' := by
  obtain ⟨p, hB, v, hbk, hown, hne⟩ : ∃ p, Lib.BuilderAt 219 5 B b p (Lib.byteCells l) w := by
    rcases h with h | h
    · exact ⟨_, h⟩
    · exact ⟨_, h⟩
  have hl0 : l.length ≠ 0 := by simpa using h0
  rw [Lib.byteCells_length] at hown
  obtain ⟨g, cap, cur, rfl, hbg, hg, hnc, hcm, hcs, htake⟩ : ∃ g cap cur, v = .slice (some ⟨g, 0, none⟩) l.length cap ∧ B ≤ g ∧ w.heap[g]? = some (.cells cur 5 (0, 0)) ∧ l.length ≤ cap ∧ cap ≤ maxLen ∧ cur.size = cap * 1 ∧ cur.toList.take (l.length * 1) = Lib.byteCells l := by
    rcases hown.2 with ⟨_, hz⟩ | ⟨g, cap, cur, hv, r⟩
    · exact absurd hz hl0
    · exact ⟨g, cap, cur, hv, r⟩
  have c1 : w.drew.cell? ⟨b, 1, none⟩ = some (.slice (some ⟨g, 0, none⟩) l.length cap) := by
    have : w.drew.heap[b]? = some (.cells #[p, .slice (some ⟨g, 0, none⟩) l.length cap] 219 (0, 0)) := hbk
    rw [Lib.cell_of_heap this]; rfl
  have hSD : (Builtin.unsafeSliceData_ #[215] 298 #[.slice (some ⟨g, 0, none⟩) l.length cap]).run Tryz.prog w.drew = .ok (.pointer (some ⟨g, 0, none⟩)) w.drew :=
    Lib.run_unsafeSliceData_row _ _ _ _ _ _ (by omega)
  have hUS : (Builtin.unsafeString_ #[298, 3] 9 #[.pointer (some ⟨g, 0, none⟩), .int .i64 l.length]).run Tryz.prog w.drew = .ok (.string ⟨l.toArray⟩) (w.drew.freeze ⟨g, 0, none⟩ l.length) := by
    refine Lib.run_unsafeString_row w.drew 298 3 9 5 (by kernel_rfl) (by kernel_rfl) g cur.size (by have hg' : w.drew.heap[g]? = some (.cells cur 5 (0, 0)) := hg; simp [World.shape?, hg']) l h0 (by omega) (by unfold maxLen at hcm; omega) ?_
    intro j x hx
    have := hown.cells (g := g) rfl j (.int .u8 x.toNat) (by simp [Lib.byteCells, hx])
    exact this
  go_enter Tryz.func116, Tryz.ntmps116
  go_wp2
  go_region
  all_goals (go_wp2; go_ret; exact ⟨rfl, Lib.below_freeze (Below.drew (Below.refl B w)) (p := ⟨g, 0, none⟩) hbg _, KU.freeze hg⟩)
end Go.Proofs.YtifiipmmgnmciaaGreatDoor.Cd
/- CdOp, what a claim needs of it (prune.py). -/
namespace Go.Proofs.YtifiipmmgnmciaaGreatDoor.Cd
open Go.RowKit
open Pk (Rd)
open Dk (Kp)
open Ops (Rs Ev Parts evOf)
set_option linter.unusedVariables false
set_option maxRecDepth 100000
theorem load_op {W : World} {g : Nat} {cs : Array Value} (h : W.heap[g]? = some (.cells cs 29 (0, 0))) (hs : cs.size = 9) : (loadVar 29 ⟨g, 0, none⟩).run Tryz.prog W = .ok (.agg cs) W :=
  run_loadVar_row W g 29 29 cs (0, 0) _ h rfl rfl (by rw [hs]; kernel_rfl)
end Go.Proofs.YtifiipmmgnmciaaGreatDoor.Cd
/- CdText, what a claim needs of it (prune.py). -/
namespace Go.Proofs.YtifiipmmgnmciaaGreatDoor.Cd
open Go.RowKit
set_option linter.unusedVariables false
set_option maxRecDepth 100000
structure RowV (T : TypeId) (w : World) (g : Nat) (A : Option Addr) (vs : List Value) : Prop where
  h : ∃ cs fr, w.heap[g]? = some (.cells cs T fr)
  r : Reads w w.heap.size 1 A vs.length vs
  a : ∀ ad, A = some ad → ad.block = g
theorem RowV.keep {T : TypeId} {w w' : World} {g : Nat} {A : Option Addr} {vs : List Value} (h : RowV T w g A vs) (hk : w'.heap[g]? = w.heap[g]?) (hs : w.heap.size ≤ w'.heap.size) : RowV T w' g A vs :=
  ⟨by rw [hk]; exact h.h, ⟨h.r.1, fun hn => by
    obtain ⟨ad, e, hb, hc⟩ := h.r.2 hn
    exact ⟨ad, e, Nat.lt_of_lt_of_le hb hs, fun j u hu => (World.cell?_of_block (by rw [block_of_add, h.a ad e]; exact hk)).trans (hc j u hu)⟩⟩, h.a⟩
theorem RowV.lt {T : TypeId} {w : World} {g : Nat} {A : Option Addr} {vs : List Value} (h : RowV T w g A vs) : g < w.heap.size := by
  obtain ⟨cs, fr, h⟩ := h.h
  exact Lg.lt_heap h
theorem RowV.ku {T : TypeId} {w w' : World} {g b : Nat} {A : Option Addr} {vs : List Value} (h : RowV T w g A vs) (hT : T ≠ 5) (hb : g ≠ b) (k : KU b w w') (hs : w.heap.size ≤ w'.heap.size) : RowV T w' g A vs := by
  refine h.keep (k g h.lt hb fun cs fr e => ?_) hs
  obtain ⟨cs', fr', h1⟩ := h.h
  rw [h1] at e
  injection e with e
  injection e with _ e2 _
  exact hT e2
theorem RowV.new (T : TypeId) (w : World) (vs : List Value) : RowV T (w.alloc (.cells vs.toArray T)) w.heap.size (some ⟨w.heap.size, 0, none⟩) vs := by
  have h : (w.alloc (.cells vs.toArray T)).heap[w.heap.size]? = some (.cells vs.toArray T (0, 0)) := heap_alloc_new _ _
  refine ⟨⟨_, _, h⟩, ⟨by simp, fun _ => ⟨_, rfl, Lg.lt_heap h, fun j u hu => ?_⟩⟩, fun ad e => by injection e with e; rw [← e]⟩
  rw [Lg.add_eq, Lg.cell_at h]
  simpa using hu
def Sh (w0 : World) (b : Nat) (acc : B) (w : World) : Prop := Below w0.heap.size w0 w ∧ ShAt w0.heap.size b acc w
theorem ShAt.later {w w' : World} {B b : Nat} {l : List UInt8} (h : ShAt B b l w) (k : Below w.heap.size w w') : ShAt B b l w' := by
  rcases h with ⟨hB, v, hb, ho, hn⟩ | ⟨hB, v, hb, ho, hn⟩
  · exact .inl ⟨hB, v, heap_below k (lt_heap hb) hb, own_later ho k, hn⟩
  · exact .inr ⟨hB, v, heap_below k (lt_heap hb) hb, own_later ho k, hn⟩
theorem ShAt.lt {w : World} {B b : Nat} {l : List UInt8} (h : ShAt B b l w) : b < w.heap.size ∧ ∃ cs fr, w.heap[b]? = some (.cells cs 219 fr) := by
  rcases h with ⟨hB, v, hb, ho, hn⟩ | ⟨hB, v, hb, ho, hn⟩
  · exact ⟨lt_heap hb, _, _, hb⟩
  · exact ⟨lt_heap hb, _, _, hb⟩
theorem Sh.later {w0 w w' : World} {b : Nat} {acc : B} (h : Sh w0 b acc w) (k : Below w.heap.size w w') : Sh w0 b acc w' := ⟨h.1.trans (k.mono h.1.size), h.2.later k⟩
theorem RowV.ne {T : TypeId} {w w0 : World} {g b : Nat} {A : Option Addr} {vs : List Value} {acc : B} (h : RowV T w g A vs) (hT : T ≠ 219) (k : Sh w0 b acc w) : g ≠ b := fun e => by
  obtain ⟨_, cs, fr, h1⟩ := k.2.lt
  obtain ⟨cs', fr', h2⟩ := h.h
  rw [e, h1] at h2
  injection h2 with h2
  injection h2 with _ h2 _
  exact hT h2.symm
def KUs (b : Nat) (w w' : World) : Prop := KU b w w' ∧ w.heap.size ≤ w'.heap.size
theorem KUs.refl (b : Nat) (w : World) : KUs b w w := ⟨fun _ _ _ _ => rfl, Nat.le_refl _⟩
theorem KUs.trans {b : Nat} {w w1 w2 : World} (h : KUs b w w1) (k : KUs b w1 w2) : KUs b w w2 := ⟨h.1.trans k.1 h.2, Nat.le_trans h.2 k.2⟩
theorem KUs.of_below {b : Nat} {w w' : World} (h : Below w.heap.size w w') : KUs b w w' := ⟨KU.of_below h, h.size⟩
theorem KUs.alloc {b : Nat} {w w' : World} (h : KUs b w w') (o : Obj) : KUs b w (w'.alloc o) := h.trans (KUs.of_below ((Below.refl _ _).alloc (Nat.le_refl _) o))
theorem KUs.drew {b : Nat} {w w' : World} (h : KUs b w w') : KUs b w w'.drew := h
theorem RowV.kus {T : TypeId} {w w' : World} {g b : Nat} {A : Option Addr} {vs : List Value} (h : RowV T w g A vs) (hT : T ≠ 5) (hb : g ≠ b) (k : KUs b w w') : RowV T w' g A vs := h.ku hT hb k.1 k.2
def Wrote (w0 : World) (b : Nat) (acc : B) (w : World) (e : Ending) (w' : World) : Prop := e = .returned (.pointer (some ⟨b, 0, none⟩)) ∧ Sh w0 b acc w' ∧ KUs b w w'
theorem flat_take {α : Type} (f : α → B) (l : List α) (k : Nat) (h : k < l.length) : (l.take (k + 1)).flatMap f = (l.take k).flatMap f ++ f l[k] := by
  rw [List.take_succ_eq_append_getElem h, List.flatMap_append]; simp
theorem flat_le {α : Type} (f : α → B) (l : List α) (k : Nat) (h : k < l.length) : ((l.take k).flatMap f).length + (f l[k]).length ≤ (l.flatMap f).length := by
  have : l = l.take (k + 1) ++ l.drop (k + 1) := (List.take_append_drop _ _).symm
  conv => rhs; rw [this, List.flatMap_append, List.length_append, flat_take f l k h, List.length_append]
  omega
set_option maxHeartbeats 2000000 in
theorem stext_any (w0 : World) (ht : Tab w0) (b g : Nat) (acc : B) (A : Option Addr) (ts : List ByteArray) (c : Nat) (w : World) (h : Sh w0 b acc w) (hr : RowV 9 w g A (ts.map Value.string)) (hl : ts.length ≤ 1000) (hz : acc.length + (ts.flatMap fun t => Pk.text (tl t)).length ≤ 500000000) :
    Calls Tryz.prog 186 #[.pointer (some ⟨b, 0, none⟩), .slice A ts.length c] w (Wrote w0 b (acc ++ ts.flatMap fun t => Pk.text (tl t)) w) := by
  go_enter Tryz.func186, Tryz.ntmps186
  go_wp2_with (fail)
  go_loopw [9] (fun i wx => ∃ k : Nat, i = .int .i64 k ∧ k ≤ ts.length ∧ Sh w0 b (acc ++ (ts.take k).flatMap fun t => Pk.text (tl t)) wx ∧ RowV 9 wx g A (ts.map Value.string) ∧ KUs b w wx) (fun i _ => ts.length - (intOf i).toNat)
  case atStart => exact ⟨0, rfl, by omega, by simpa using h, hr, KUs.refl _ _⟩
  case round =>
    obtain ⟨k, rfl, hk, hsb, hrx, hkx⟩ := hrel
    rename World => wx
    by_cases hlt : k < ts.length
    · have hgb := hrx.ne (by decide) hsb
      obtain ⟨ad, e1, had, hc⟩ := hrx.r.2 (by simp; omega)
      subst e1
      have hc1 : wx.cell? (ad.add k) = some (.string ts[k]) := hc k _ (by simp [hlt])
      have FT := Lib.hid (flat_take (fun t => Pk.text (tl t)) ts k hlt)
      have FL := flat_le (fun t => Pk.text (tl t)) ts k hlt
      have TX := text_len (tl ts[k])
      have hsz : ts[k].size = (tl ts[k]).length := Lib.size_eq _
      have TXT := Lib.hid (text_any ts[k] (by omega) wx.drew (ht.on hsb.1.drew))
      clear hc
      generalize ts[k] = s at *
      generalize eq : (ts.take k).flatMap (fun t => Pk.text (tl t)) = pre at *
      have hzz : (bs (Pk.text (tl s))).size = (Pk.text (tl s)).length := bs_size _
      have hbl : (acc ++ pre).length + (bs (Pk.text (tl s))).size ≤ 140737488355328 := by rw [List.length_append]; omega
      have HB := Lib.hid hbl
      clear hzz hsz hbl eq FL TX
      have hkI : (k : Int) < (ts.length : Int) := by omega
      go_upto_region 4 with (fail)
      clear hc1
      go_region_held3 (fun _ => True) (trivial) (first
        | (go_at_call 104; (with_reducible refine Calls.mono (TXT.out) ?_); rintro e w1 ⟨rfl, hb1⟩; have hb1' := (Below.refl wx.heap.size wx).drew.trans hb1; have hsb1 := hsb.later hb1'; have hq1 : Below w0.heap.size w0 w1 := hsb1.1; have hq2 : ShAt w0.heap.size b (acc ++ pre) w1 := hsb1.2; have hq3 := hq1.size; have hr1 := hrx.keep (hb1'.block g hrx.lt) hb1'.size; clear hb1)
        | (go_at_call 120; (with_reducible refine Calls.mono (swrite_any w0.heap.size b (acc ++ pre) _ _ hq2 HB.out hq3) ?_); rintro e w2 ⟨rfl, hsb2, hb2, hk2⟩))
      (try go_wp2_with (fail))
      go_roundw
      case rel => exact ⟨k + 1, by go_num, by omega, by rw [FT.out, ← List.append_assoc]; exact ⟨hq1.trans hb2, hsb2⟩, hr1.ku (by decide) hgb hk2 hb2.size, (hkx.trans (KUs.of_below hb1')).trans ⟨hk2, hb2.size⟩⟩
      case measure => simp [intOf]; omega
    · obtain rfl : k = ts.length := by omega
      rw [List.take_length] at hsb
      clear hrx
      go_wp2_with (fail)
      go_ret
      exact ⟨rfl, hsb, hkx⟩
set_option maxHeartbeats 2000000 in
theorem snum_any (w0 : World) (ht : Tab w0) (b g : Nat) (acc : B) (A : Option Addr) (ts : List Int) (c : Nat) (w : World) (h : Sh w0 b acc w) (hr : RowV 3 w g A (ts.map (Value.int .i64))) (hl : ts.length ≤ 1000) (hi : ∀ n ∈ ts, -9223372036854775808 ≤ n ∧ n ≤ 9223372036854775807) (hz : acc.length + (ts.flatMap fun n => Pk.text (Lib.itoa n)).length ≤ 500000000) :
    Calls Tryz.prog 124 #[.pointer (some ⟨b, 0, none⟩), .slice A ts.length c] w (Wrote w0 b (acc ++ ts.flatMap fun n => Pk.text (Lib.itoa n)) w) := by
  go_enter Tryz.func124, Tryz.ntmps124
  go_wp2_with (fail)
  go_loopw [9] (fun i wx => ∃ k : Nat, i = .int .i64 k ∧ k ≤ ts.length ∧ Sh w0 b (acc ++ (ts.take k).flatMap fun n => Pk.text (Lib.itoa n)) wx ∧ RowV 3 wx g A (ts.map (Value.int .i64)) ∧ KUs b w wx) (fun i _ => ts.length - (intOf i).toNat)
  case atStart => exact ⟨0, rfl, by omega, by simpa using h, hr, KUs.refl _ _⟩
  case round =>
    obtain ⟨k, rfl, hk, hsb, hrx, hkx⟩ := hrel
    rename World => wx
    by_cases hlt : k < ts.length
    · have hgb := hrx.ne (by decide) hsb
      obtain ⟨ad, e1, had, hc⟩ := hrx.r.2 (by simp; omega)
      subst e1
      have hc1 : wx.cell? (ad.add k) = some (.int .i64 ts[k]) := hc k _ (by simp [hlt])
      have FT := Lib.hid (flat_take (fun n => Pk.text (Lib.itoa n)) ts k hlt)
      have FL := flat_le (fun n => Pk.text (Lib.itoa n)) ts k hlt
      obtain ⟨b0, b1⟩ := hi _ (List.getElem_mem hlt)
      have TXT := Lib.hid (pnum_any ts[k] b0 b1 wx.drew (ht.on hsb.1.drew))
      clear hc b0 b1
      generalize ts[k] = s at *
      generalize eq : (ts.take k).flatMap (fun n => Pk.text (Lib.itoa n)) = pre at *
      have hzz : (bs (Pk.text (Lib.itoa s))).size = (Pk.text (Lib.itoa s)).length := bs_size _
      have hbl : (acc ++ pre).length + (bs (Pk.text (Lib.itoa s))).size ≤ 140737488355328 := by rw [List.length_append]; omega
      have HB := Lib.hid hbl
      clear hzz hbl eq FL
      have hkI : (k : Int) < (ts.length : Int) := by omega
      go_upto_region 4 with (fail)
      clear hc1
      go_region_held3 (fun _ => True) (trivial) (first
        | (go_at_call 103; (with_reducible refine Calls.mono (TXT.out) ?_); rintro e w1 ⟨rfl, hb1⟩; have hb1' := (Below.refl wx.heap.size wx).drew.trans hb1; have hsb1 := hsb.later hb1'; have hq1 : Below w0.heap.size w0 w1 := hsb1.1; have hq2 : ShAt w0.heap.size b (acc ++ pre) w1 := hsb1.2; have hq3 := hq1.size; have hr1 := hrx.keep (hb1'.block g hrx.lt) hb1'.size; clear hb1)
        | (go_at_call 120; (with_reducible refine Calls.mono (swrite_any w0.heap.size b (acc ++ pre) _ _ hq2 HB.out hq3) ?_); rintro e w2 ⟨rfl, hsb2, hb2, hk2⟩))
      (try go_wp2_with (fail))
      go_roundw
      case rel => exact ⟨k + 1, by go_num, by omega, by rw [FT.out, ← List.append_assoc]; exact ⟨hq1.trans hb2, hsb2⟩, hr1.ku (by decide) hgb hk2 hb2.size, (hkx.trans (KUs.of_below hb1')).trans ⟨hk2, hb2.size⟩⟩
      case measure => simp [intOf]; omega
    · obtain rfl : k = ts.length := by omega
      rw [List.take_length] at hsb
      clear hrx
      go_wp2_with (fail)
      go_ret
      exact ⟨rfl, hsb, hkx⟩
end Go.Proofs.YtifiipmmgnmciaaGreatDoor.Cd
/- CdEvent, what a claim needs of it (prune.py). -/
namespace Go.Proofs.YtifiipmmgnmciaaGreatDoor.Cd
open Go.RowKit
open Ops (Rs Ev OkO Parts valOf evOf)
set_option linter.unusedVariables false
set_option maxRecDepth 100000
theorem text_at (w0 : World) (ht : Tab w0) (b : Nat) (acc : B) (ts : List ByteArray) (W0 : World) (hb : b < W0.heap.size) (hl : ts.length ≤ 1000) (hz : acc.length + (ts.flatMap fun t => Pk.text (tl t)).length ≤ 500000000) (wa w : World) (g : Nat) (k1 : KUs b (wa.alloc (.cells (ts.map Value.string).toArray 9)) w) (k0 : KUs b W0 wa) (eg : g = wa.heap.size) (hs : Sh w0 b acc w) :
    Calls Tryz.prog 186 #[.pointer (some ⟨b, 0, none⟩), .slice (some ⟨g, 0, none⟩) ts.length ts.length] w (Wrote w0 b (acc ++ ts.flatMap fun t => Pk.text (tl t)) w) := by
  subst eg
  exact stext_any w0 ht b _ acc _ ts _ w hs ((RowV.new _ wa _).kus (by decide) (by have := k0.2; omega) k1) hl hz
theorem num_at (w0 : World) (ht : Tab w0) (b : Nat) (acc : B) (ts : List Int) (W0 : World) (hb : b < W0.heap.size) (hl : ts.length ≤ 1000) (hi : ∀ n ∈ ts, -9223372036854775808 ≤ n ∧ n ≤ 9223372036854775807) (hz : acc.length + (ts.flatMap fun n => Pk.text (Lib.itoa n)).length ≤ 500000000) (wa w : World) (g : Nat) (k1 : KUs b (wa.alloc (.cells (ts.map (Value.int .i64)).toArray 3)) w) (k0 : KUs b W0 wa) (eg : g = wa.heap.size) (hs : Sh w0 b acc w) :
    Calls Tryz.prog 124 #[.pointer (some ⟨b, 0, none⟩), .slice (some ⟨g, 0, none⟩) ts.length ts.length] w (Wrote w0 b (acc ++ ts.flatMap fun n => Pk.text (Lib.itoa n)) w) := by
  subst eg
  exact snum_any w0 ht b _ acc _ ts _ w hs ((RowV.new _ wa _).kus (by decide) (by have := k0.2; omega) k1) hl hi hz
theorem Sh.lt {w0 w : World} {b : Nat} {acc : B} (h : Sh w0 b acc w) : b < w.heap.size := h.2.lt.1
theorem flen {l : List Fl} (h1 : l.length ≤ 60) (h2 : ∀ f ∈ l, f.Ok) : (Pk.text (Pk.list (l.map Fl.b))).length ≤ 300000 := by
  have := Fl.flat_ok h1 h2
  have h3 : (Pk.list (l.map Fl.b)).length ≤ 270000 := by
    show (Pk.text ((l.map Fl.b).flatMap Pk.text)).length ≤ _
    generalize (l.map Fl.b).flatMap Pk.text = f at *
    have := Pk.dec_len_le 7 f.length (by omega)
    unfold Pk.text
    simp only [List.length_append, List.length_cons, List.length_nil]
    omega
  generalize Pk.list (l.map Fl.b) = f at *
  have := Pk.dec_len_le 7 f.length (by omega)
  unfold Pk.text
  simp only [List.length_append, List.length_cons, List.length_nil]
  omega
theorem glen {l : List Tg} (h1 : l.length ≤ 20) (h2 : ∀ f ∈ l, f.Ok) : (Pk.text (Pk.list (l.map Tg.b))).length ≤ 300000 := by
  have := Tg.flat_ok h1 h2
  have h3 : (Pk.list (l.map Tg.b)).length ≤ 270000 := by
    show (Pk.text ((l.map Tg.b).flatMap Pk.text)).length ≤ _
    generalize (l.map Tg.b).flatMap Pk.text = f at *
    have := Pk.dec_len_le 7 f.length (by omega)
    unfold Pk.text
    simp only [List.length_append, List.length_cons, List.length_nil]
    omega
  generalize Pk.list (l.map Tg.b) = f at *
  have := Pk.dec_len_le 7 f.length (by omega)
  unfold Pk.text
  simp only [List.length_append, List.length_cons, List.length_nil]
  omega
theorem tlen {s : ByteArray} {n : Nat} (h : s.size ≤ n) (hn : n ≤ 1000000) : (Pk.text (tl s)).length ≤ n + 10 := by
  have h1 : (tl s).length = s.size := (Lib.size_eq s).symm
  generalize tl s = f at *
  have := Pk.dec_len_le 7 f.length (by omega)
  unfold Pk.text
  simp only [List.length_append, List.length_cons, List.length_nil]
  omega
theorem nlen {n : Int} (h0 : -9223372036854775808 ≤ n) (h1 : n ≤ 9223372036854775807) : (Pk.text (Lib.itoa n)).length ≤ 100 := by
  have h2 := itoa_len n h0 h1
  generalize Lib.itoa n = f at *
  have := Pk.dec_len_le 7 f.length (by omega)
  unfold Pk.text
  simp only [List.length_append, List.length_cons, List.length_nil]
  omega
theorem num1 (w0 : World) (ht : Tab w0) (b : Nat) (acc : B) (n : Int) (W0 : World) (hb : b < W0.heap.size) (h0 : -9223372036854775808 ≤ n) (h1 : n ≤ 9223372036854775807) (hz : acc.length ≤ 100000000) (w : World) (g : Nat) (hrow : ∃ wa : World, KUs b (wa.alloc (.cells #[.int .i64 n] 3)) w ∧ KUs b W0 wa ∧ g = wa.heap.size) (hs : Sh w0 b acc w) :
    Calls Tryz.prog 124 #[.pointer (some ⟨b, 0, none⟩), .slice (some ⟨g, 0, none⟩) 1 1] w fun e w' => e = .returned (.pointer (some ⟨b, 0, none⟩)) ∧ Sh w0 b (acc ++ Pk.text (Lib.itoa n)) w' ∧ KUs b w w' := by
  obtain ⟨wa, k1, k0, eg⟩ := hrow
  refine (num_at w0 ht b acc [n] W0 hb (by simp) (by simpa using ⟨h0, h1⟩) (by have := nlen h0 h1; simp; omega) wa w g k1 k0 eg hs).mono ?_
  rintro e w' ⟨h1, h2, h3⟩
  exact ⟨h1, by simpa using h2, h3⟩
theorem text1 (w0 : World) (ht : Tab w0) (b : Nat) (acc : B) (s : ByteArray) (W0 : World) (hb : b < W0.heap.size) (h0 : s.size ≤ 300000) (hz : acc.length ≤ 100000000) (w : World) (g : Nat) (hrow : ∃ wa : World, KUs b (wa.alloc (.cells #[.string s] 9)) w ∧ KUs b W0 wa ∧ g = wa.heap.size) (hs : Sh w0 b acc w) :
    Calls Tryz.prog 186 #[.pointer (some ⟨b, 0, none⟩), .slice (some ⟨g, 0, none⟩) 1 1] w fun e w' => e = .returned (.pointer (some ⟨b, 0, none⟩)) ∧ Sh w0 b (acc ++ Pk.text (tl s)) w' ∧ KUs b w w' := by
  obtain ⟨wa, k1, k0, eg⟩ := hrow
  refine (text_at w0 ht b acc [s] W0 hb (by simp) (by have := tlen h0 (by decide); simp only [List.flatMap_cons, List.flatMap_nil, List.append_nil]; omega) wa w g k1 k0 eg hs).mono ?_
  rintro e w' ⟨h1, h2, h3⟩
  exact ⟨h1, by simpa using h2, h3⟩
theorem text2 (w0 : World) (ht : Tab w0) (b : Nat) (acc : B) (s t : ByteArray) (W0 : World) (hb : b < W0.heap.size) (h0 : s.size ≤ 300000) (h1 : t.size ≤ 300000) (hz : acc.length ≤ 100000000) (w : World) (g : Nat) (hrow : ∃ wa : World, KUs b (wa.alloc (.cells #[.string s, .string t] 9)) w ∧ KUs b W0 wa ∧ g = wa.heap.size) (hs : Sh w0 b acc w) :
    Calls Tryz.prog 186 #[.pointer (some ⟨b, 0, none⟩), .slice (some ⟨g, 0, none⟩) 2 2] w fun e w' => e = .returned (.pointer (some ⟨b, 0, none⟩)) ∧ Sh w0 b (acc ++ (Pk.text (tl s) ++ Pk.text (tl t))) w' ∧ KUs b w w' := by
  obtain ⟨wa, k1, k0, eg⟩ := hrow
  refine (text_at w0 ht b acc [s, t] W0 hb (by simp) (by have := tlen h0 (by decide); have := tlen h1 (by decide); simp only [List.flatMap_cons, List.flatMap_nil, List.append_nil, List.length_append]; omega) wa w g k1 k0 eg hs).mono ?_
  rintro e w' ⟨h1, h2, h3⟩
  exact ⟨h1, by simpa using h2, h3⟩
set_option maxHeartbeats 2000000 in
theorem sfiles_any (w0 : World) (ht : Tab w0) (b : Nat) (acc : B) (A : Option Addr) (l : List Fl) (c : Nat) (hl : l.length ≤ 60) (hok : ∀ f ∈ l, f.Ok) (hr : Fs.Fls w0 A l) (hz : acc.length ≤ 100000000) (w : World) (h : Sh w0 b acc w) :
    Calls Tryz.prog 187 #[.pointer (some ⟨b, 0, none⟩), .slice A l.length c] w fun e w' => e = .returned (.pointer (some ⟨b, 0, none⟩)) ∧ Sh w0 b (acc ++ Pk.text (Pk.list (l.map Fl.b))) w' ∧ KUs b w w' := by
  have hn := flen hl hok
  have KF : Hid (Calls Tryz.prog 243 #[.slice A l.length c] w fun e w' => e = .returned (.string (bs (Pk.list (l.map Fl.b)))) ∧ Below w.heap.size w w') := Lib.hid (kfiles_any A l c hl hok w (ht.on h.1) (fls_root ((Reads.below hr h.1).more h.1.size)))
  have hb := h.lt
  have hq := text_len (Pk.list (l.map Fl.b))
  generalize Pk.list (l.map Fl.b) = q at *
  have TX : Hid (∀ w1, Below w.heap.size w w1 → Calls Tryz.prog 186 #[.pointer (some ⟨b, 0, none⟩), .slice (some ⟨w1.heap.size, 0, none⟩) 1 1] (w1.alloc (.cells #[.string (bs q)] 9)) fun e w' => e = .returned (.pointer (some ⟨b, 0, none⟩)) ∧ Sh w0 b (acc ++ Pk.text q) w' ∧ KUs b w w') := Lib.hid fun w1 hb1 =>
    (text1 w0 ht b acc (bs q) w hb (by rw [bs_size]; omega) hz _ _ ⟨w1, KUs.refl _ _, KUs.of_below hb1, rfl⟩ (h.later (hb1.alloc hb1.size _))).mono (by
      rintro e w' ⟨h1, h2, h3⟩
      exact ⟨h1, h2, (KUs.of_below (hb1.alloc hb1.size _)).trans h3⟩)
  clear h hr hz hn hq
  go_enter Tryz.func187, Tryz.ntmps187
  go_wp2_with (first
    | (go_at_call 243; (with_reducible refine (KF.out).mono ?_); rintro e w1 ⟨rfl, hb1⟩)
    | (go_at_call 186; (with_reducible refine (TX.out _ hb1).mono ?_); rintro e w2 ⟨rfl, h2, h3⟩))
  go_ret
  exact ⟨rfl, h2, h3⟩
theorem Sh.alloc {w0 w : World} {b : Nat} {acc : B} (h : Sh w0 b acc w) (o : Obj) : Sh w0 b acc (w.alloc o) := h.later ((Below.refl _ _).alloc (Nat.le_refl _) o)
theorem Sh.drew {w0 w : World} {b : Nat} {acc : B} (h : Sh w0 b acc w) : Sh w0 b acc w.drew := h.later (Below.refl _ _).drew
theorem Sh.new {w0 w : World} {b : Nat} (eb : b = w.heap.size) (h : Below w0.heap.size w0 w) : Sh w0 b [] (w.alloc (.cells #[.pointer none, .slice none 0 0] 219)) := by
  subst eb
  refine ⟨h.alloc h.size _, .inl ⟨h.size, .slice none 0 0, heap_alloc_new w _, World.ownsRow_nil _ _ _ _, by simp [Value.ownBlock]⟩⟩
theorem bl_alloc {w W : World} (h : Below w.heap.size w W) (o : Obj) : Below w.heap.size w (W.alloc o) := h.alloc h.size o
theorem box_kept {W0 W : World} {g b : Nat} {cs : Array Value} {T : TypeId} (h : W0.heap[g]? = some (.cells cs T (0, 0))) (hT : T ≠ 5) (hg : g ≠ b) (k : KUs b W0 W) : W.heap[g]? = some (.cells cs T (0, 0)) :=
  (k.1 g (Lg.lt_heap h) hg (fun cs' fr e => by rw [h] at e; injection e with e; injection e with _ e _; exact hT e)).trans h
set_option maxHeartbeats 4000000 in
theorem sresult_any (w0 : World) (ht : Tab w0) (b : Nat) (acc : B) (r : Rs) (Ar : Option Addr) (cr : Nat) (hl : r.fs.length ≤ 60) (hok : ∀ f ∈ r.fs, f.Ok) (hr : Fs.Fls w0 Ar r.fs) (i0 : -9223372036854775808 ≤ r.e) (i1 : r.e ≤ 9223372036854775807) (ha : r.at_.size ≤ 100000) (hx : r.tx.size ≤ 100000) (hz : acc.length ≤ 50000000) (w : World) (h : Sh w0 b acc w) :
    Calls Tryz.prog 188 #[.pointer (some ⟨b, 0, none⟩), .agg #[.int .i64 r.e, .string r.at_, .string r.tx, .slice Ar r.fs.length cr]] w fun e w' => e = .returned (.pointer (some ⟨b, 0, none⟩)) ∧ Sh w0 b (acc ++ resB r) w' ∧ KUs b w w' := by
  have hb := h.lt
  obtain ⟨W0, eW⟩ : ∃ W0, W0 = w.alloc (.cells #[.int .i64 r.e, .string r.at_, .string r.tx, .slice Ar r.fs.length cr] 27) := ⟨_, rfl⟩
  have g0 : W0.heap[w.heap.size]? = some (.cells #[.int .i64 r.e, .string r.at_, .string r.tx, .slice Ar r.fs.length cr] 27 (0, 0)) := by rw [eW]; exact heap_alloc_new _ _
  have B0 : Below w.heap.size w W0 := by rw [eW]; exact (Below.refl _ _).alloc (Nat.le_refl _) _
  have hb0 : b < W0.heap.size := Nat.lt_of_lt_of_le hb B0.size
  have s0 : Sh w0 b acc W0 := h.later B0
  have k00 : KUs b w W0 := KUs.of_below B0
  have HX : Hid (∀ W, KUs b W0 W → W.cell? ⟨w.heap.size, 0, none⟩ = some (.int .i64 r.e) ∧ W.cell? ⟨w.heap.size, 1, none⟩ = some (.string r.at_) ∧ W.cell? ⟨w.heap.size, 2, none⟩ = some (.string r.tx) ∧ W.cell? ⟨w.heap.size, 3, none⟩ = some (.slice Ar r.fs.length cr)) := Lib.hid fun W hk => by
    have h1 := box_kept g0 (by decide) (by omega) hk
    exact ⟨(cell_heap h1 0).trans rfl, (cell_heap h1 1).trans rfl, (cell_heap h1 2).trans rfl, (cell_heap h1 3).trans rfl⟩
  have z1 := nlen i0 i1
  have z2 := tlen ha (by decide)
  have z3 := tlen hx (by decide)
  have N1 := Lib.hid (num1 w0 ht b acc r.e W0 hb0 i0 i1 (by omega))
  have N2 := Lib.hid (text2 w0 ht b (acc ++ Pk.text (Lib.itoa r.e)) r.at_ r.tx W0 hb0 (by omega) (by omega) (by rw [List.length_append]; omega))
  have N3 := Lib.hid (fun w h (_ : KUs b W0 w) => sfiles_any w0 ht b (acc ++ Pk.text (Lib.itoa r.e) ++ (Pk.text (tl r.at_) ++ Pk.text (tl r.tx))) Ar r.fs cr hl hok hr (by simp only [List.length_append]; omega) w h)
  have F : Hid (acc ++ Pk.text (Lib.itoa r.e) ++ (Pk.text (tl r.at_) ++ Pk.text (tl r.tx)) ++ Pk.text (Pk.list (r.fs.map Fl.b)) = acc ++ resB r) := Lib.hid (by simp [resB])
  generalize acc ++ Pk.text (Lib.itoa r.e) ++ (Pk.text (tl r.at_) ++ Pk.text (tl r.tx)) ++ Pk.text (Pk.list (r.fs.map Fl.b)) = a3 at *
  generalize acc ++ Pk.text (Lib.itoa r.e) ++ (Pk.text (tl r.at_) ++ Pk.text (tl r.tx)) = a2 at *
  generalize acc ++ Pk.text (Lib.itoa r.e) = a1 at *
  clear h g0 B0 hr hl hok z1 z2 z3 ha hx hz i0 i1 hb
  go_enter Tryz.func188, Tryz.ntmps188
  go_upto_region 1 with (fail)
  rw [← eW]
  clear eW
  go_region_held3 (fun W => W.cell? ⟨w.heap.size, 0, none⟩ = some (.int .i64 r.e) ∧ W.cell? ⟨w.heap.size, 1, none⟩ = some (.string r.at_) ∧ W.cell? ⟨w.heap.size, 2, none⟩ = some (.string r.tx) ∧ W.cell? ⟨w.heap.size, 3, none⟩ = some (.slice Ar r.fs.length cr)) (exact HX.out _ (by (repeat (first | (with_reducible exact KUs.refl _ _) | (with_reducible refine KUs.alloc ?_ _) | (with_reducible refine KUs.drew ?_) | (with_reducible refine KUs.trans ?_ k6) | (with_reducible refine KUs.trans ?_ k5) | (with_reducible refine KUs.trans ?_ k4) | (with_reducible refine KUs.trans ?_ k3) | (with_reducible refine KUs.trans ?_ k2) | (with_reducible refine KUs.trans ?_ k1))))) (first
    | (go_at_call 124; (with_reducible refine Calls.mono (N1.out _ _ ?_ ?_) ?_); (focus (exact ⟨_, (by (repeat (first | (with_reducible exact KUs.refl _ _) | (with_reducible refine KUs.alloc ?_ _) | (with_reducible refine KUs.drew ?_) | (with_reducible refine KUs.trans ?_ k6) | (with_reducible refine KUs.trans ?_ k5) | (with_reducible refine KUs.trans ?_ k4) | (with_reducible refine KUs.trans ?_ k3) | (with_reducible refine KUs.trans ?_ k2) | (with_reducible refine KUs.trans ?_ k1)))), (by (repeat (first | (with_reducible exact KUs.refl _ _) | (with_reducible refine KUs.alloc ?_ _) | (with_reducible refine KUs.drew ?_) | (with_reducible refine KUs.trans ?_ k6) | (with_reducible refine KUs.trans ?_ k5) | (with_reducible refine KUs.trans ?_ k4) | (with_reducible refine KUs.trans ?_ k3) | (with_reducible refine KUs.trans ?_ k2) | (with_reducible refine KUs.trans ?_ k1)))), (by (first | (with_reducible rfl) | (simp; done) | rfl))⟩)); (focus (repeat (first | (with_reducible assumption) | (with_reducible refine Sh.alloc ?_ _) | (with_reducible refine Sh.drew ?_)))); rintro e w1 ⟨rfl, hs1, k1⟩)
    | (go_at_call 186; (with_reducible refine Calls.mono (N2.out _ _ ?_ ?_) ?_); (focus (exact ⟨_, (by (repeat (first | (with_reducible exact KUs.refl _ _) | (with_reducible refine KUs.alloc ?_ _) | (with_reducible refine KUs.drew ?_) | (with_reducible refine KUs.trans ?_ k6) | (with_reducible refine KUs.trans ?_ k5) | (with_reducible refine KUs.trans ?_ k4) | (with_reducible refine KUs.trans ?_ k3) | (with_reducible refine KUs.trans ?_ k2) | (with_reducible refine KUs.trans ?_ k1)))), (by (repeat (first | (with_reducible exact KUs.refl _ _) | (with_reducible refine KUs.alloc ?_ _) | (with_reducible refine KUs.drew ?_) | (with_reducible refine KUs.trans ?_ k6) | (with_reducible refine KUs.trans ?_ k5) | (with_reducible refine KUs.trans ?_ k4) | (with_reducible refine KUs.trans ?_ k3) | (with_reducible refine KUs.trans ?_ k2) | (with_reducible refine KUs.trans ?_ k1)))), (by (first | (with_reducible rfl) | (simp; done) | rfl))⟩)); (focus (repeat (first | (with_reducible assumption) | (with_reducible refine Sh.alloc ?_ _) | (with_reducible refine Sh.drew ?_)))); rintro e w2 ⟨rfl, hs2, k2⟩)
    | (go_at_call 187; (with_reducible refine Calls.mono (N3.out _ ?_ ?_) ?_); (focus (repeat (first | (with_reducible assumption) | (with_reducible refine Sh.alloc ?_ _) | (with_reducible refine Sh.drew ?_)))); (focus (repeat (first | (with_reducible exact KUs.refl _ _) | (with_reducible refine KUs.alloc ?_ _) | (with_reducible refine KUs.drew ?_) | (with_reducible refine KUs.trans ?_ k6) | (with_reducible refine KUs.trans ?_ k5) | (with_reducible refine KUs.trans ?_ k4) | (with_reducible refine KUs.trans ?_ k3) | (with_reducible refine KUs.trans ?_ k2) | (with_reducible refine KUs.trans ?_ k1)))); rintro e w3 ⟨rfl, hs3, k3⟩))
  all_goals
    go_wp2_with (fail)
    go_ret
    exact ⟨rfl, by rw [← F.out]; exact hs3, k00.trans (by (repeat (first | (with_reducible exact KUs.refl _ _) | (with_reducible refine KUs.alloc ?_ _) | (with_reducible refine KUs.drew ?_) | (with_reducible refine KUs.trans ?_ k6) | (with_reducible refine KUs.trans ?_ k5) | (with_reducible refine KUs.trans ?_ k4) | (with_reducible refine KUs.trans ?_ k3) | (with_reducible refine KUs.trans ?_ k2) | (with_reducible refine KUs.trans ?_ k1))))⟩
end Go.Proofs.YtifiipmmgnmciaaGreatDoor.Cd
