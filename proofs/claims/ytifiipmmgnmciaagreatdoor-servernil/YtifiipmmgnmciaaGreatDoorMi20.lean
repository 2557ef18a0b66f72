/- Joined by mkmerged.py: SvPush, SvIn, SvNilA, Rk. -/
import Derived.Test.YtifiipmmgnmciaaGreatDoorMi16
import Derived.Deep.RegionLaw
import Derived.BigRegion
import Derived.Deep.CutRange
import Derived.OrdersIn
import Derived.TacticsIn
import Derived.StillTail
import Derived.StillTailTactics
import Derived.Laws.Sem
import Derived.Test.YtifiipmmgnmciaaGreatDoorRows
import Derived.WalkKit
import Derived.ProofKit
import Derived.OpenShut
import Derived.ShutString
import Derived.Below
import Derived.ChangeSame
import Derived.Deep.Slices
import Derived.Deep.Fields
import Derived.ReadAgain
import Derived.ChangeBears
import Derived.SliceStrings
import Derived.ChangeMaps5
/- SvPush, what a claim needs of it (prune.py). -/
namespace Go.Proofs.YtifiipmmgnmciaaGreatDoor.Sv
open Go.RowKit
open Dk (Kp)
set_option linter.unusedVariables false
set_option maxRecDepth 100000
theorem infoTh : (Tryz.prog.info? 233).map (fun i => (i.zero, i.size, i.bytes)) = some (some (.agg #[.string ⟨#[]⟩, .int .i64 0, .int .i64 0, .int .i64 0, .int .i64 0, .int .i64 0, .int .i64 0]), 7, 64) := by kernel_rfl
theorem thing_cells (K : ByteArray) : ∀ u ∈ thing K, u.oneCell' = true := by
  intro u hu
  simp only [thing, List.mem_cons, List.not_mem_nil, or_false] at hu
  rcases hu with rfl | rfl | rfl | rfl | rfl | rfl | rfl <;> rfl
def PushSays (W : World) (q : Nat) (K : ByteArray) (e : Ending) (w' : World) : Prop := e = .returned (.int .i64 0) ∧ (∃ g, W.heap.size ≤ g ∧ Q1 w' q g K) ∧ Kp (fun k => k = q) W w'
set_option maxHeartbeats 8000000 in
theorem qpush_any (K : ByteArray) (W : World) (q : Nat) (h : QB W q 0 none 0 0) : Calls Tryz.prog 63 #[.pointer (some ⟨q, 0, none⟩), .agg #[.string K, .int .i64 0, .int .i64 1], .int .i64 0, .int .i64 1] W (PushSays W q K) := by
  obtain ⟨i0, hi, hz0, hz1, hz2⟩ := info_parts infoTh
  obtain ⟨W1, e1⟩ : ∃ W1, W1 = (W.setCell ⟨q, 1, none⟩ (.int .i64 1)).alloc (.cells #[.string K, .int .i64 0, .int .i64 1] 58) := ⟨_, rfl⟩
  have hlq := Lg.lt_heap h
  have z1 : W1.heap.size = W.heap.size + 1 := by rw [e1]; simp [World.setCell]
  have r1 : QB W1 q 1 none 0 0 := by rw [e1]; exact (Below.heap_alloc _ _ _ (by simpa [World.setCell] using hlq)).trans ((heap_set h).trans rfl)
  have x1 : W1.heap[W.heap.size]? = some (.cells #[.string K, .int .i64 0, .int .i64 1] 58 (0, 0)) := by rw [e1]; have := heap_alloc_new (W.setCell ⟨q, 1, none⟩ (.int .i64 1)) (.cells #[.string K, .int .i64 0, .int .i64 1] 58); simpa [World.setCell] using this
  have K1 : Kp (fun k => k = q) W W1 := by rw [e1]; exact (kp_set (S := fun k => k = q) q 1 _ rfl).then ((Below.refl _ _).alloc (Nat.le_refl _) _)
  have y1 : W.cell? ⟨q, 1, none⟩ = some (.int .i64 0) := (cell_heap h 1).trans rfl
  have y2 := frozen_heap h 1
  have a0 : W1.cell? ⟨q, 0, none⟩ = some (.int .i64 20) := (cell_heap r1 0).trans rfl
  have a1 : W1.cell? ⟨q, 1, none⟩ = some (.int .i64 1) := (cell_heap r1 1).trans rfl
  have a2 : W1.cell? ⟨q, 2, none⟩ = some (.slice none 0 0) := (cell_heap r1 2).trans rfl
  have f2 := frozen_heap r1 2
  have b0 : W1.cell? ⟨W.heap.size, 0, none⟩ = some (.string K) := (cell_heap x1 0).trans rfl
  have b1 : W1.cell? ⟨W.heap.size, 1, none⟩ = some (.int .i64 0) := (cell_heap x1 1).trans rfl
  have b2 : W1.cell? ⟨W.heap.size, 2, none⟩ = some (.int .i64 1) := (cell_heap x1 2).trans rfl
  have FN : Hid (∀ o w4 v', (W1.alloc o).drew.grownBy w4 none → w4.ownsRow W1.heap.size 233 7 v' 1 (thing K) → w4.cell? ⟨q, 2, none⟩ = some (.slice none 0 0) ∧ w4.frozen? ⟨q, 2, none⟩ = false ∧ ∃ g c, v' = .slice (some ⟨g, 0, none⟩) 1 c ∧ (w4.setCell ⟨q, 2, none⟩ (.slice (some ⟨g, 0, none⟩) 1 c)).cell? ⟨q, 2, none⟩ = some (.slice (some ⟨g, 0, none⟩) 1 c) ∧ PushSays W q K (.returned (.int .i64 0)) (w4.setCell ⟨q, 2, none⟩ (.slice (some ⟨g, 0, none⟩) 1 c))) := Lib.hid fun o w4 v' hg ho => by
    have q4 : QB w4 q 1 none 0 0 := (hg.block q (by simp; omega) (by simp)).trans ((Below.heap_alloc W1 _ _ (by omega)).trans r1)
    obtain ⟨g, c, cs, rfl, g1, g2, g3, g4, g5⟩ := own_one ho
    have gq : g ≠ q := by omega
    refine ⟨(cell_heap q4 2).trans rfl, frozen_heap q4 2, g, c, rfl, (cell_heap (heap_set q4) 2).trans rfl, rfl, ⟨g, by omega, c, cs, (heap_set q4).trans rfl, (heap_set_ne (fun e => gq e.symm)).trans g1, g2, g3⟩, ?_⟩
    exact (((K1.then ((Below.refl _ _).alloc (Nat.le_refl _) o)).drew).grown hg (fun k hk => by cases hk)).setCell (p := ⟨q, 2, none⟩) (by rfl) _
  have E1 := Lib.hid e1
  have l1 := Lg.lt_heap r1
  have l2 := Lg.lt_heap x1
  have hw0 : IntKind.i64.wrap 0 = 0 := rfl
  have hw1 : IntKind.i64.wrap 1 = 1 := rfl
  have hzs : (Value.agg #[.string ⟨#[]⟩, .int .i64 0, .int .i64 0, .int .i64 0, .int .i64 0, .int .i64 0, .int .i64 0]).cells.size = 7 := rfl
  clear h r1 x1 K1 e1 z1
  generalize PushSays W q K = Q at *
  go_enter Tryz.func63, Tryz.ntmps63
  go_upto_region 6 with (fail)
  rw [← E1.out]
  go_cut [] from 35 to 59 (fun wx => (∃ g c, wx.cell? ⟨q, 2, none⟩ = some (.slice (some ⟨g, 0, none⟩) 1 c)) ∧ Q (.returned (.int .i64 0)) wx)
  case first =>
    go_region_law (refine step_append_any _ rfl (.tmp 39) (.tmp 56) _ rfl W1.heap.size 233 i0 _ 7 64 Tryz.underlying229 hi hz0 hz1 hz2 hzs (by omega) (.slice none 0 0) 0 [] rfl (World.ownsRow_nil _ _ _ _) _ (some ⟨W1.heap.size, 0, none⟩) 1 1 (thing K) rfl (reads_one (heap_alloc_new W1 _) rfl) (thing_cells K) (by simp only [maxLen]; omega) (by omega) (by simp) ?_; intro v' w4 hown hgr hat; obtain ⟨u1, u2, g, c, rfl, u3, hQ⟩ := FN.out _ w4 v' hgr hown; have HQ := Lib.hid hQ; have U3 := Lib.hid u3; clear hown hgr hat hQ u3)
    all_goals
      go_wp2_with (fail)
      go_meet
      exact ⟨⟨g, c, U3.out⟩, HQ.out⟩
  case rest =>
    obtain ⟨⟨g, c, c2⟩, hQ⟩ := hcut
    have HQ := Lib.hid hQ
    clear hQ FN a0 a1 a2 b0 b1 b2 f2 y1 y2 E1
    go_wp2_with (fail)
    go_loopw [9] (fun v9 wr => v9 = .int .i64 0 ∧ wr = wc) (fun _ _ => 0)
    case atStart => exact ⟨rfl, rfl⟩
    case round =>
      obtain ⟨rfl, rfl⟩ := hrel
      go_wp2_with (fail)
      exact HQ.out
end Go.Proofs.YtifiipmmgnmciaaGreatDoor.Sv
/- SvIn, what a claim needs of it (prune.py). -/
namespace Go.Proofs.YtifiipmmgnmciaaGreatDoor
open Go
set_option linter.unusedVariables false
def plainOp : Op → Bool
  | .call _ | .go _ | .defer _ | .panic _ | .send .. | .recv .. | .select .. => false
  | _ => true
def tame : Result Next → Prop
  | .ok (.value _) _ | .ok .skip _ | .halt _ _ => True
  | _ => False
section
variable {P : Program} {ops : Array Oper} {md : Region.Mode} {w : World} {F : Fence} {m : Nat} {Q : Exit → Act → World → Prop}
theorem tame_bind {α : Type} (s : Sem α) (f : α → Sem Next) (h : ∀ x w', tame ((f x).run P w')) : tame ((s.bind f).run P w) := by
  rw [Sem.run_bind' P s _ w]
  cases s.run P w with
  | ok x w' => exact h x w'
  | halt h w' => trivial
theorem tame_v (s : Sem Value) : tame ((s.bind fun v => Sem.pure (Next.value v)).run P w) := by
  rw [Sem.run_bind' P s _ w]
  cases s.run P w <;> trivial
theorem tame_u (s : Sem Unit) : tame ((s.bind fun _ => Sem.pure Next.skip).run P w) := by
  rw [Sem.run_bind' P s _ w]
  cases s.run P w <;> trivial
theorem tame_nil (ρ : Operand → Value) (x : Operand) {o : Oper} (ho : o.op = .nilCheck x) : tame ((execOp ρ o).run P w) := by
  unfold execOp
  rw [ho]
  dsimp only
  cases ρ x with
  | pointer a => cases a <;> trivial
  | nilIface => trivial
  | nilFunc => trivial
  | func fn first captured =>
    cases fn with
    | method name =>
      dsimp only
      cases first[0]? with
      | none => trivial
      | some v =>
        cases v with
        | nilIface => trivial
        | iface t u =>
          dsimp only
          refine tame_bind _ _ fun p w1 => ?_
          refine tame_bind _ _ fun b w2 => ?_
          split
          · trivial
          · trivial
        | _ => trivial
    | _ => trivial
  | _ => trivial
theorem tame_plain {o : Oper} (ρ : Operand → Value) (h : plainOp o.op = true) : tame ((execOp ρ o).run P w) := by
  by_cases hn : ∃ x, o.op = .nilCheck x
  · obtain ⟨x, hx⟩ := hn
    exact tame_nil ρ x hx
  · unfold execOp
    cases ho : o.op <;> rw [ho] at h hn <;> first | (cases h; done) | exact (hn ⟨_, rfl⟩).elim | exact tame_v _ | exact tame_u _ | exact tame_bind _ _ (fun x w' => trivial) | trivial
theorem about_plain {o : Oper} (ρ : Operand → Value) (h : plainOp o.op = true) : o.about P w ρ = none := by
  unfold Oper.about
  cases ho : o.op <;> rw [ho] at h <;> first | (cases h; done) | rfl
theorem wpOpIn_of_stOp {i : Nat} {a : Act} {K : Act → Prop} {K' : Act → World → Prop} (hp : ∀ o, ops[i]? = some o → plainOp o.op = true) (h : ∀ a, K a → K' a w) (hh : stOp P ops w i K a) : wpOpIn F m P ops Q i K' a w := by
  unfold stOp at hh
  unfold wpOpIn
  cases ho : ops[i]? with
  | none => rw [ho] at hh; exact h _ hh
  | some o =>
    rw [ho] at hh
    have hpo := hp o ho
    have hab := about_plain (P := P) (w := w) a.eval hpo
    dsimp only at hh ⊢
    by_cases hw : Region.wanted o (yielded ops a.tmps) = true
    · rw [if_pos hw] at hh ⊢
      refine ⟨(fun f hf => by rw [hab] at hf; cases hf), ?_⟩
      rw [Oper.semAt_eq _ _ _ (fun c hc => by rw [hc] at hpo; cases hpo)]
      have ht := tame_plain (P := P) (w := w) a.eval hpo
      unfold Oper.still at hh
      generalize (execOp a.eval o).run P w = r at hh ht
      cases r with
      | halt x w' => exact hh.elim
      | ok x w' =>
        cases x <;> first | exact ht.elim | (obtain ⟨rfl, hh⟩ := hh; exact h _ hh)
    · rw [if_neg hw] at hh ⊢
      exact ⟨(fun f hf => by rw [hab] at hf; cases hf), h _ hh⟩
theorem wpAnyIn_of_head {n g : Nat} {L : Array Bool → Act → Prop} (hp : ∀ i o, i < n → ops[i]? = some o → plainOp o.op = true) (hL : ∀ listed a, L listed a → wpAnyIn F m P md ops Q g listed a w) :
    ∀ (f : Nat) (listed : Array Bool) (a : Act), wpAnyL P md ops w n L f listed a → wpAnyIn F m P md ops Q (f + g) listed a w
  | 0, listed, a, h => by rw [Nat.zero_add]; exact hL _ _ h
  | f + 1, listed, a, h => by
    rw [show f + 1 + g = (f + g) + 1 by omega]
    exact ⟨fun h0 => absurd h0 h.1, fun i hi => wpOpIn_of_stOp (fun o ho => hp i o (h.2 i hi).1 ho) (fun a' h' => wpAnyIn_of_head hp hL f _ a' h') (h.2 i hi).2⟩
theorem wpAnyIn_of_seq : ∀ (l : List Oper) (k : Nat) (listed : Array Bool) (a : Act) (w : World), (∀ j, l[j]? = ops[k + j]?) →
    Region.seqB md ops l.length k listed = true → wpListIn F m P ops Q l a w → wpAnyIn F m P md ops Q l.length listed a w
  | [], _, _, _, _, _, hB, h => ⟨by simpa [Region.seqB] using hB, h⟩
  | o :: l, k, listed, a, w, hl, hB, h => by
    have h0 : ops[k]? = some o := by simpa using (hl 0).symm
    simp only [List.length_cons, Region.seqB, Bool.and_eq_true, decide_eq_true_eq] at hB
    refine ⟨fun h1 => (by rw [hB.1] at h1; cases h1), fun i hi => ?_⟩
    rw [hB.1] at hi
    have hik : i = k := by simpa using hi
    subst hik
    have hw : wpOpIn F m P ops Q i (wpListIn F m P ops Q l) a w := by unfold wpOpIn; simp only [h0]; exact h
    exact wpOpIn_mono (fun a' w' h' => wpAnyIn_of_seq l (i + 1) _ a' w' (fun j => by have := hl (j + 1); simpa [Nat.add_assoc, Nat.add_comm 1 j] using this) hB.2 h') hw
theorem wpIn_region_still_tail {id : Nat} {a : Act} {w : World} {l : List Oper} (n : Nat) (hm : P.follows .mixedOrders = true) (hp : ((l.take n).all fun o => plainOp o.op) = true) (hB : Region.lexTailB .any l.toArray n = true)
    (h : wpStill P l.toArray w.drew (fun a' => wpListIn F m P l.toArray Q (l.drop n) a' w.drew) (l.take n) a) : (Code.region id l.toArray true).wpIn F m P Q a w := by
  simp only [Region.lexTailB, Bool.and_eq_true, decide_eq_true_eq] at hB
  obtain ⟨⟨⟨⟨hsel, hn⟩, hs⟩, hc⟩, hlex⟩ := hB
  have hn' : n < l.length := by simpa using hn
  have htl : (l.take n).length = n := by simp; omega
  have hdl : (l.drop n).length = l.toArray.size - n := by simp
  have inv0 : HeadInv .any l.toArray n (Array.replicate l.toArray.size false) :=
    ⟨by simp, fun j oj _ hl => (by rw [getD_replicate_false] at hl; cases hl), fun t _ ht => getD_in (by simpa using ht) (getD_replicate_false _ _)⟩
  have H := wpAnyL_lex (md := .any) (g := l.toArray.size - n) hsel hs hc hn (l.take n) 0 _ a (fun j hj => by
    have hj' : j < n := by rw [htl] at hj; exact hj
    simp [hj']) (by simpa using htl) inv0 (by rw [htl]; exact hlex) h
  refine wpIn_region_any hm ?_
  have := wpAnyIn_of_head (F := F) (m := m) (Q := Q) (g := l.toArray.size - n) (fun i o hi ho => by
    have h1 := List.all_eq_true.1 hp o (by
      have : (l.take n)[i]? = some o := by simpa [hi] using ho
      exact List.mem_of_getElem? this)
    exact h1) (fun listed a' hL => by
    have := wpAnyIn_of_seq (md := .any) (F := F) (m := m) (Q := Q) (l.drop n) n listed a' w.drew (fun j => by simp [List.getElem?_drop]) (by rw [hdl]; exact hL.1) hL.2
    rwa [hdl] at this) _ _ _ H
  rw [htl, show n + (l.toArray.size - n) = l.toArray.size by omega] at this
  exact this
end
end Go.Proofs.YtifiipmmgnmciaaGreatDoor
/- SvNilA, what a claim needs of it (prune.py). -/
namespace Go.Proofs.YtifiipmmgnmciaaGreatDoor.Sv
open Go.RowKit
open Dk (Kp)
set_option linter.unusedVariables false
set_option maxRecDepth 100000
abbrev zOp : Array Value := #[.string ⟨#[]⟩, .slice none 0 0, .slice none 0 0, .string ⟨#[]⟩, .int .i64 0, .int .i64 0, .string ⟨#[]⟩, .string ⟨#[]⟩, .slice none 0 0]
abbrev zOpN (s : ByteArray) : Array Value := #[.string s, .slice none 0 0, .slice none 0 0, .string ⟨#[]⟩, .int .i64 0, .int .i64 0, .string ⟨#[]⟩, .string ⟨#[]⟩, .slice none 0 0]
abbrev zTaskC : Array Value := #[.string ⟨#[]⟩, .int .i64 0, .string ⟨#[]⟩, .slice none 0 0, .slice none 0 0, .int .i64 0]
theorem poll_nil (s : ByteArray) (W : World) : Calls Tryz.prog 4 #[.pointer none, .string s] W fun e w' => e = .returned (.tuple #[.agg zOp, .int .i64 2]) ∧ Below W.heap.size W w' := by
  go_enter Tryz.func4, Tryz.ntmps4
  go_wp2_with (fail)
  refine bodyPost_ret_by (Lg.results_cell_row2 rfl _ _ W.heap.size 29 _ (0, 0) _ rfl (heap_alloc_new W _) rfl rfl (by kernel_rfl)) rfl ?_
  exact ⟨rfl, (Below.refl _ _).alloc (Nat.le_refl _) _⟩
theorem next_nil (s : ByteArray) (W : World) : Calls Tryz.prog 5 #[.pointer none, .string s] W fun e w' => e = .returned (.tuple #[.agg zTaskC, .int .i64 2]) ∧ Below W.heap.size W w' := by
  go_enter Tryz.func5, Tryz.ntmps5
  go_wp2_with (fail)
  refine bodyPost_ret_by (Lg.results_cell_row2 rfl _ _ W.heap.size 34 _ (0, 0) _ rfl (heap_alloc_new W _) rfl rfl (by kernel_rfl)) rfl ?_
  exact ⟨rfl, (Below.refl _ _).alloc (Nat.le_refl _) _⟩
theorem do_nil (k : Int) (s : ByteArray) (W : World) : Calls Tryz.prog 17 #[.pointer none, .int .i64 k, .agg (zOpN s)] W fun e w' => e = .returned (.int .i64 2) ∧ Below W.heap.size W w' := by
  go_enter Tryz.func17, Tryz.ntmps17
  go_wp2_with (fail)
  go_ret
  exact ⟨rfl, (Below.refl _ _).alloc (Nat.le_refl _) _⟩
theorem submit_nil (s : ByteArray) (W : World) : Calls Tryz.prog 6 #[.pointer none, .agg (zOpN s)] W fun e w' => e = .returned (.int .i64 2) ∧ Below W.heap.size W w' := by
  have B0 : Below W.heap.size W (W.alloc (.cells (zOpN s) 29)) := (Below.refl _ _).alloc (Nat.le_refl _) _
  have D := Lib.hid (do_nil 1 s (W.alloc (.cells (zOpN s) 29)))
  go_enter Tryz.func6, Tryz.ntmps6
  go_wp2_with (go_at_call 17; (with_reducible refine (D.out).mono ?_); rintro e w' ⟨rfl, hb⟩)
  go_ret
  exact ⟨rfl, B0.trans (hb.mono B0.size)⟩
theorem cancel_nil (s : ByteArray) (W : World) : Calls Tryz.prog 7 #[.pointer none, .string s] W fun e w' => e = .returned (.int .i64 2) ∧ Below W.heap.size W w' := by
  have D := Lib.hid (do_nil 4 s W)
  go_enter Tryz.func7, Tryz.ntmps7
  go_wp2_with (go_at_call 17; (with_reducible refine (D.out).mono ?_); rintro e w' ⟨rfl, hb⟩)
  go_ret
  exact ⟨rfl, hb⟩
theorem list_nilS (W : World) : Calls Tryz.prog 8 #[.pointer none] W fun e w' => e = .returned (.slice none 0 0) ∧ W = w' := by
  go_enter Tryz.func8, Tryz.ntmps8
  go_wp2_with (fail)
  go_ret
  exact ⟨rfl, rfl⟩
theorem join_nil (s : ByteArray) (W : World) : Calls Tryz.prog 9 #[.pointer none, .string s] W fun e w' => e = .returned (.int .i64 2) ∧ W = w' := by
  go_enter Tryz.func9, Tryz.ntmps9
  go_wp2_with (fail)
  go_ret
  exact ⟨rfl, rfl⟩
theorem leave_nil (s : ByteArray) (W : World) : Calls Tryz.prog 10 #[.pointer none, .string s] W fun e w' => e = .returned (.int .i64 2) ∧ W = w' := by
  go_enter Tryz.func10, Tryz.ntmps10
  go_wp2_with (fail)
  go_ret
  exact ⟨rfl, rfl⟩
theorem turn_nil (W : World) : Calls Tryz.prog 11 #[.pointer none] W fun e w' => e = .returned (.int .i64 2) ∧ W = w' := by
  go_enter Tryz.func11, Tryz.ntmps11
  go_wp2_with (fail)
  go_ret
  exact ⟨rfl, rfl⟩
theorem report_nil (s : ByteArray) (W : World) : Calls Tryz.prog 12 #[.pointer none, .agg #[.string s, .int .i64 0, .int .i64 0, .slice none 0 0, .string ⟨#[]⟩, .int .i64 0, .string ⟨#[]⟩, .int .i64 0]] W fun e w' => e = .returned (.int .i64 2) ∧ Below W.heap.size W w' := by
  go_enter Tryz.func12, Tryz.ntmps12
  go_wp2_with (fail)
  go_ret
  exact ⟨rfl, (Below.refl _ _).alloc (Nat.le_refl _) _⟩
set_option maxHeartbeats 1000000 in
theorem nil_of (s : ByteArray) (w : World) (hA : ∀ V, Below w.heap.size w V → Calls Tryz.prog 13 #[] V fun e w' => e = .returned (.bool true) ∧ Below V.heap.size V w') :
    Calls Tryz.prog 3 #[.string s] w fun e w' => e = .returned (.bool true) ∧ Below w.heap.size w w' := by
  have PO := Lib.hid (poll_nil s w)
  have NE := Lib.hid (fun V (hb : Below w.heap.size w V) => (next_nil s V).mono (R' := fun e w' => e = .returned (.tuple #[.agg zTaskC, .int .i64 2]) ∧ Below w.heap.size w w') fun e w' hh => ⟨hh.1, hb.trans (hh.2.mono hb.size)⟩)
  have SU := Lib.hid (fun V (hb : Below w.heap.size w V) => (submit_nil s V).mono (R' := fun e w' => e = .returned (.int .i64 2) ∧ Below w.heap.size w w') fun e w' hh => ⟨hh.1, hb.trans (hh.2.mono hb.size)⟩)
  have CA := Lib.hid (fun V (hb : Below w.heap.size w V) => (cancel_nil s V).mono (R' := fun e w' => e = .returned (.int .i64 2) ∧ Below w.heap.size w w') fun e w' hh => ⟨hh.1, hb.trans (hh.2.mono hb.size)⟩)
  have LI := Lib.hid list_nilS
  have JO := Lib.hid (join_nil s)
  have LE := Lib.hid (leave_nil s)
  have TU := Lib.hid turn_nil
  have RE := Lib.hid (fun V (hb : Below w.heap.size w V) => (report_nil s V).mono (R' := fun e w' => e = .returned (.int .i64 2) ∧ Below w.heap.size w w') fun e w' hh => ⟨hh.1, hb.trans (hh.2.mono hb.size)⟩)
  have AW := Lib.hid (fun V (hb : Below w.heap.size w V) => (hA V hb).mono (R' := fun e w' => e = .returned (.bool true) ∧ Below w.heap.size w w') fun e w' hh => ⟨hh.1, hb.trans (hh.2.mono hb.size)⟩)
  clear hA
  go_enter Tryz.func3, Tryz.ntmps3
  go_wp2_with (first
    | (go_at_call 4; (with_reducible refine (PO.out).mono ?_); rintro e w1 ⟨rfl, h1⟩; have h1a := h1.alloc h1.size (.cells zOp 29))
    | (go_at_call 5; (with_reducible refine (NE.out _ h1a).mono ?_); rintro e w2 ⟨rfl, h2⟩; have h2a := h2.alloc h2.size (.cells zTaskC 34))
    | (go_at_call 6; (with_reducible refine (SU.out _ h2a).mono ?_); rintro e w3 ⟨rfl, h3⟩)
    | (go_at_call 7; (with_reducible refine (CA.out _ h3).mono ?_); rintro e w4 ⟨rfl, h4⟩)
    | (go_at_call 8; (with_reducible refine (LI.out _).mono ?_); rintro e w' ⟨rfl, rfl⟩)
    | (go_at_call 9; (with_reducible refine (JO.out _).mono ?_); rintro e w' ⟨rfl, rfl⟩)
    | (go_at_call 10; (with_reducible refine (LE.out _).mono ?_); rintro e w' ⟨rfl, rfl⟩)
    | (go_at_call 11; (with_reducible refine (TU.out _).mono ?_); rintro e w' ⟨rfl, rfl⟩)
    | (go_at_call 12; (with_reducible refine (RE.out _ h4).mono ?_); rintro e w5 ⟨rfl, h5⟩)
    | (go_at_call 13; (with_reducible refine (AW.out _ h5).mono ?_); rintro e w6 ⟨rfl, h6⟩))
  go_ret
  exact ⟨rfl, h6⟩
end Go.Proofs.YtifiipmmgnmciaaGreatDoor.Sv
/- Rk, what a claim needs of it (prune.py). -/
namespace Go.Proofs.YtifiipmmgnmciaaGreatDoor
open Go.RowKit Go.WideShapes Go.ChangeShapes
section
variable {H : Type} {enc : TypeId × Value → H} {P : Program}
theorem post_of_below {f : Func} {s : ChangeSpec} {apart fresh handsOn again : Bool} {W W' : World} {args : Array Value} {v : Value} {ds gs : List (DataW H)} {before pa pv : List MemPlace}
    (hW : DataW.Whole enc P f.params.toList s.vars apart W args.toList ds gs before)
    (hres : ∀ (b : Nat) (sp : Nat → Bool) (hd : Bool), DataW.TrodAll enc P W' b sp hd f.resultTypes.toList (v.resultList f.resultTypes.size) (s.fn H (ds ++ gs)).results [])
    (hargs : ∀ sp : Nat → Bool, (∀ p ∈ before, sp p.block = true) → DataW.TrodAll enc P W' 0 sp true f.params.toList args.toList (s.fn H (ds ++ gs)).args pa)
    (hvars : ∀ sp : Nat → Bool, (∀ p ∈ before, sp p.block = true) → DataW.TrodVars enc P W' sp s.vars (s.fn H (ds ++ gs)).vars pv)
    (hps : before = pa ++ pv) (hb : Below W.heap.size W W')
    (hok : ∀ (j : Nat) (t : TypeId) (r : Value), f.resultTypes[j]? = some t → (v.resultList f.resultTypes.size)[j]? = some r → Value.okWide P W' .any 0 t r) :
    s.post enc P f apart fresh handsOn again W args v W' := by
  have hlt : ∀ p ∈ before, p.block < W.heap.size := fun p hp => hW.lt p hp
  have hold : ∀ p ∈ before, (fun b => decide (b < W.heap.size)) p.block = true := fun p hp => by simpa using hlt p hp
  refine ⟨ds, gs, before, [], pa, pv, hW, hres _ _ _, hargs _ hold, hvars _ hold, World.keptBut_mono (fun p hp => ⟨hp, ?_⟩) (hb.frame (· ∈ before)), fun _ => ?_⟩
  · rw [hps, List.mem_append] at hp
    exact Or.inr hp
  · obtain ⟨_, _, _, _, _, hz, hn⟩ := hW
    refine ⟨hok, _, _, ([] ++ pa) ++ pv, ⟨[] ++ pa, pv, trodAll_append (hargs _ (fun _ _ => rfl)) (hres _ _ _), hvars _ (fun _ _ => rfl), rfl, ?_, ?_⟩, ?_⟩
    · intro b off hp
      have hin : MemPlace.cell b off ∈ before := by rw [hps]; simpa using hp
      rw [hb.frozen (hlt _ hin)]
      exact hz b off hin
    · intro ha
      have := hn ha
      rw [hps] at this
      simpa using this
    · intro p hp _
      rw [hps]
      simpa using hp
end
end Go.Proofs.YtifiipmmgnmciaaGreatDoor
namespace Go.Proofs.YtifiipmmgnmciaaGreatDoor
open Go.ChangeShapes Go.WideShapes Go.Deep Go.RowKit Go.ChangeMaps
set_option linter.unusedVariables false
set_option maxRecDepth 100000
section
variable {H : Type} {enc : TypeId × Value → H} {P : Program} {w : World} {base : Nat} {spare : Nat → Bool} {held : Bool}
end
section
variable {H : Type} {enc : TypeId × Value → H} {W : World}
theorem sameAt_below {W W' : World} (hb : Below W.heap.size W W') (p : MemPlace) (h : p.block < W.heap.size) : W.sameAt W' p := by
  cases p with
  | cell b off => exact hb.cell (p := ⟨b, off, none⟩) h
  | map b => exact hb.block b h
theorem trodAll_carry {P : Program} {w w' : World} {sp : Nat → Bool} : ∀ {ts : List TypeId} {vs : List Value} {ds : List (DataW H)} {ps : List MemPlace}, DataW.TrodAll enc P w 0 sp true ts vs ds ps → (∀ p ∈ ps, w.sameAt w' p) → DataW.TrodAll enc P w' 0 sp true ts vs ds ps
  | [], [], [], _, h, _ => h
  | _ :: _, _ :: _, _ :: _, _, ⟨p, q, ⟨n, h1⟩, h2, e⟩, hs => ⟨p, q, ⟨n, DataW.trod_carry _ _ _ _ h1 (fun x hx => hs x (by rw [e]; exact List.mem_append_left _ hx))⟩, trodAll_carry h2 (fun x hx => hs x (by rw [e]; exact List.mem_append_right _ hx)), e⟩
theorem args_stay {P : Program} {W W' : World} (hl : laidOutB P = true) (hm : mapsRowed P = true) (hf : ((List.range P.types.size).all fun t => match P.underlying t with | some (.slice e) => decide (0 < P.cellsOf e) | _ => true) = true)
    {ts : List TypeId} {vs : List Value} {ds : List (DataW H)} {ps : List MemPlace} (hT : ts.all (fun t => decide (t < P.types.size)) = true) (h : DataW.TrodAll enc P W 0 (fun _ => true) true ts vs ds ps) (hlt : ∀ p ∈ ps, p.block < W.heap.size) (hb : Below W.heap.size W W')
    (sp : Nat → Bool) (hs : ∀ p ∈ ps, sp p.block = true) : DataW.TrodAll enc P W' 0 sp true ts vs ds ps :=
  trodAll_carry (DataW.TrodAll.respare (kids_rows hl hm) (slices_full_of P hf) (fun t ht => of_decide_eq_true (List.all_eq_true.1 hT t ht)) h hs) (fun p hp => sameAt_below hb p (hlt p hp))
end
end Go.Proofs.YtifiipmmgnmciaaGreatDoor
