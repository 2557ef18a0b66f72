/- The reference's cache: how it lies, and the contracts of its methods that read or make memory alone. -/
import Derived.Test.YtcifjhhofefpjaaCaBase
import Derived.Test.YtcifjhhofefpjaaRowMore
import Derived.Lib.Hide
import Derived.Deep.QuietTactic
import Derived.BigQuiet
import Derived.Lib.Strings
namespace Go.Proofs.Ytcifjhhofefpjaa.Cr
open Go.RowKit Go.Proofs.Ytcifjhhofefpjaa.Ca
set_option linter.unusedVariables false
set_option maxRecDepth 100000
def cells3 (l : List (Th Int)) : List Value := l.flatMap fun x => [.string x.k, .int .i64 x.v, .int .i64 x.p]
theorem cells3_nil : cells3 [] = [] := rfl
theorem cells3_cons (x : Th Int) (l : List (Th Int)) : cells3 (x :: l) = [.string x.k, .int .i64 x.v, .int .i64 x.p] ++ cells3 l := by simp [cells3]
theorem cells3_append (a b : List (Th Int)) : cells3 (a ++ b) = cells3 a ++ cells3 b := by simp [cells3]
theorem cells3_len : ∀ l : List (Th Int), (cells3 l).length = l.length * 3
  | [] => rfl
  | x :: l => by rw [cells3_cons, List.length_append, cells3_len l]; simp; omega
theorem cells3_take : ∀ (l : List (Th Int)) (k : Nat), (cells3 l).take (k * 3) = cells3 (l.take k)
  | [], k => by simp [cells3]
  | x :: l, 0 => by simp [cells3]
  | x :: l, k + 1 => by
    rw [cells3_cons, List.take_succ_cons, cells3_cons, show (k + 1) * 3 = k * 3 + 3 by omega, ← cells3_take l k]
    simp [List.take_append]
theorem cells3_drop : ∀ (l : List (Th Int)) (k : Nat), (cells3 l).drop (k * 3) = cells3 (l.drop k)
  | [], k => by simp [cells3]
  | x :: l, 0 => by simp [cells3]
  | x :: l, k + 1 => by
    rw [cells3_cons, List.drop_succ_cons, show (k + 1) * 3 = k * 3 + 3 by omega, ← cells3_drop l k]
    simp [List.drop_append]
theorem cells3_get (l : List (Th Int)) (k : Nat) (h : k < l.length) : (cells3 l)[k * 3]? = some (.string l[k].k) ∧ (cells3 l)[k * 3 + 1]? = some (.int .i64 l[k].v) ∧ (cells3 l)[k * 3 + 2]? = some (.int .i64 l[k].p) := by
  have e : (cells3 l).drop (k * 3) = [.string l[k].k, .int .i64 l[k].v, .int .i64 l[k].p] ++ cells3 (l.drop (k + 1)) := by
    rw [cells3_drop, List.drop_eq_getElem_cons h, cells3_cons]
  refine ⟨?_, ?_, ?_⟩
  · have := congrArg (fun l : List Value => l[0]?) e; simpa [List.getElem?_drop] using this
  · have := congrArg (fun l : List Value => l[1]?) e; simpa [List.getElem?_drop] using this
  · have := congrArg (fun l : List Value => l[2]?) e; simpa [List.getElem?_drop] using this
theorem cells3_set (a : List (Th Int)) (x : Th Int) (b : List (Th Int)) (p : Nat) : (cells3 (a ++ x :: b)).set (a.length * 3 + 2) (.int .i64 p) = cells3 (a ++ ⟨x.k, x.v, p⟩ :: b) := by
  rw [cells3_append, cells3_append, cells3_cons, cells3_cons, List.set_append_right _ _ (by rw [cells3_len]; omega), cells3_len]
  simp
/-- things as a slice at A reads them -/
def Ths (w : World) (A : Option Addr) (l : List (Th Int)) : Prop := 0 < l.length → ∃ ad : Addr, A = some ad ∧ ∀ k (h : k < l.length),
  w.cell? (ad.add (k * 3)) = some (.string l[k].k) ∧ w.cell? ⟨(ad.add (k * 3)).block, (ad.add (k * 3)).off + 1, none⟩ = some (.int .i64 l[k].v) ∧ w.cell? ⟨(ad.add (k * 3)).block, (ad.add (k * 3)).off + 2, none⟩ = some (.int .i64 l[k].p)
theorem add_eq (g k : Nat) : (⟨g, 0, none⟩ : Addr).add k = ⟨g, k, none⟩ := by
  unfold Addr.add
  by_cases h : k = 0
  · subst h; simp
  · simp [h]
theorem Ths.of_own {w : World} {B : Nat} {e : TypeId} {A : Option Addr} {cap : Nat} {l : List (Th Int)} (h : w.ownsRow B e 3 (.slice A l.length cap) l.length (cells3 l)) : Ths w A l := fun hp => by
  obtain ⟨g, cap', hv, _, _⟩ := h.form hp
  injection hv with hA _ _
  subst hA
  refine ⟨_, rfl, fun k hk => ?_⟩
  obtain ⟨h0, h1, h2⟩ := cells3_get l k hk
  have c0 := h.cells (g := g) rfl _ _ h0
  have c1 := h.cells (g := g) rfl _ _ h1
  have c2 := h.cells (g := g) rfl _ _ h2
  rw [add_eq] at c0 c1 c2
  rw [add_eq]
  exact ⟨c0, c1, c2⟩
theorem own_slice {w : World} {base : Nat} {e : TypeId} {size : Nat} {v : Value} {n : Nat} {xs : List Value} (h : w.ownsRow base e size v n xs) : ∃ A cap, v = .slice A n cap := by
  rcases h.2 with ⟨rfl, rfl⟩ | ⟨g, cap, cur, rfl, _⟩
  · exact ⟨_, _, rfl⟩
  · exact ⟨_, _, rfl⟩
/-- the reference's cache at r -/
def RefAt (w : World) (B r most : Nat) (l : List (Th Int)) : Prop := B ≤ r ∧ ∃ v, w.heap[r]? = some (.cells #[v, .int .i64 most] 70 (0, 0)) ∧ w.ownsRow B 72 3 v l.length (cells3 l)
/-- what a call of the reference's leaves as it was -/
def FrR (w w' : World) : Prop := w.heap.size ≤ w'.heap.size ∧ ∀ b, b < w.heap.size → (∀ cs, w.heap[b]? ≠ some (.cells cs 70 (0, 0))) → (∀ cs, w.heap[b]? ≠ some (.cells cs 72 (0, 0))) → w'.heap[b]? = w.heap[b]?
/-- where a key stands, or -1 -/
noncomputable def idx (k : ByteArray) (l : List (Th Int)) : Int := match at_ k l with | some (a, _, _) => a.length | none => -1
theorem idx_hit {k : ByteArray} {l : List (Th Int)} {j : Nat} (hj : j < l.length) (h : l[j].k = k) (hn : ∀ i (h : i < l.length), i < j → l[i].k ≠ k) : idx k l = j := by
  have e : l = l.take j ++ l[j] :: l.drop (j + 1) := by rw [← List.drop_eq_getElem_cons hj, List.take_append_drop]
  have hp : at_ k l = some (l.take j, l[j], l.drop (j + 1)) := by
    unfold at_
    conv => lhs; rw [e]
    refine part_of_some (has_iff.2 h) (fun y hy => has_not.2 ?_)
    obtain ⟨i, hi, rfl⟩ := List.mem_iff_getElem.1 hy
    rw [List.length_take] at hi
    rw [List.getElem_take]
    exact hn i (by omega) (by omega)
  unfold idx
  rw [hp]
  show ((l.take j).length : Int) = j
  rw [List.length_take]; omega
theorem idx_miss {k : ByteArray} {l : List (Th Int)} (hn : ∀ i (h : i < l.length), l[i].k ≠ k) : idx k l = -1 := by
  unfold idx
  rw [show at_ k l = none from part_of_none (fun x hx => by
    obtain ⟨i, hi, rfl⟩ := List.mem_iff_getElem.1 hx
    exact has_not.2 (hn i hi))]
theorem ret_int {k : IntKind} {a b : Int} (h : a = b) : Ending.returned (.int k a) = .returned (.int k b) := by rw [h]
theorem str_ne {a b : ByteArray} (h : a ≠ b) : (a.toList == b.toList) = false := by
  rw [Lib.toList_data, Lib.toList_data]
  exact beq_eq_false_iff_ne.2 (fun e => h (tl_inj e))
theorem upto_ne {l : List (Th Int)} {k : ByteArray} {j : Nat} (hj : j < l.length) (hn : ∀ q (h : q < l.length), q < j → l[q].k ≠ k) (hk : l[j].k ≠ k) : ∀ q (h : q < l.length), q < j + 1 → l[q].k ≠ k := by
  intro q hq hlt
  rcases Nat.lt_or_ge q j with h | h
  · exact hn q hq h
  · obtain rfl : q = j := by omega
    exact hk
theorem at_any (r most : Nat) (A : Option Addr) (cap : Nat) (l : List (Th Int)) (k : ByteArray) (w : World) (hl : l.length ≤ 1000000) (hr : w.heap[r]? = some (.cells #[.slice A l.length cap, .int .i64 most] 70 (0, 0))) (h : Ths w A l) :
    Calls Try.prog 37 #[.pointer (some ⟨r, 0, none⟩), .string k] w fun e w' => e = .returned (.int .i64 (idx k l)) ∧ w = w' := by
  have c0 : w.cell? ⟨r, 0, none⟩ = some (.slice A l.length cap) := (cell_at hr 0).trans rfl
  clear hr
  go_enter Try.func37, Try.ntmps37
  go_wp2_with (fail)
  go_loop [5] (fun i => ∃ j : Nat, i = .int .i64 j ∧ j ≤ l.length ∧ ∀ q (h : q < l.length), q < j → l[q].k ≠ k) (fun i => l.length - (intOf i).toNat)
  case atStart => exact ⟨0, rfl, Nat.zero_le _, fun q _ h => by omega⟩
  case round =>
    obtain ⟨j, rfl, hj, hn⟩ := hrel
    by_cases hlt : j < l.length
    · obtain ⟨ad, rfl, hc⟩ := h (by omega)
      obtain ⟨g0, _, _⟩ := hc j hlt
      have hjI : (j : Int) < (l.length : Int) := by omega
      by_cases hk : l[j].k = k
      · have HI := Lib.hid (idx_hit hlt hk hn)
        rw [hk] at g0
        have he : (k.toList == k.toList) = true := by simp
        clear hc hn hk
        go_wp2_with (fail)
        go_ret
        exact ⟨ret_int HI.out.symm, rfl⟩
      · have hne : (l[j].k.toList == k.toList) = false := str_ne hk
        have HN := Lib.hid (upto_ne hlt hn hk)
        clear hc hn hk
        generalize l[j].k = kk at g0 hne
        go_wp2_with (fail)
        go_round
        case rel => exact ⟨j + 1, by go_num, by omega, HN.out⟩
        case measure => simp [intOf]; omega
    · obtain rfl : j = l.length := by omega
      have HI := Lib.hid (idx_miss (fun q hq => hn q hq hq))
      clear hn
      go_wp2_with (fail)
      go_ret
      exact ⟨ret_int HI.out.symm, rfl⟩
theorem infoT : (Try.prog.info? 72).map (fun i => (i.zero, i.size, i.bytes)) = some (some (.agg #[.string ⟨#[]⟩, .int .i64 0, .int .i64 0]), 3, 32) := by kernel_rfl
theorem cells3_one : ∀ l : List (Th Int), ∀ u ∈ cells3 l, u.oneCell' = true := by
  intro l u hu
  obtain ⟨x, _, hx⟩ := List.mem_flatMap.1 hu
  simp at hx
  rcases hx with rfl | rfl | rfl <;> rfl
theorem Reads.own {w : World} {base : Nat} {e : TypeId} {A : Option Addr} {n c size : Nat} {xs : List Value} (h : w.ownsRow base e size (.slice A n c) n xs) : Reads w w.heap.size size A n xs := Reads.of_own h
theorem reads_take {w : World} {B size n i : Nat} {A : Option Addr} {xs : List Value} (h : Reads w B size A n xs) (hi : i ≤ n) : Reads w B size A i (xs.take (i * size)) := by
  refine ⟨by rw [List.length_take, h.1]; exact Nat.min_eq_left (Nat.mul_le_mul_right _ hi), fun hp => ?_⟩
  obtain ⟨ad, e, hb, hc⟩ := h.2 (by omega)
  refine ⟨ad, e, hb, fun j u hu => hc j u ?_⟩
  rw [List.getElem?_take] at hu
  split at hu
  · exact hu
  · cases hu
/-- the things without the one at i, in a new row -/
theorem without_any (r most B : Nat) (A : Option Addr) (cap : Nat) (a : List (Th Int)) (x : Th Int) (b : List (Th Int)) (w : World) (hl : (a ++ x :: b).length ≤ 1000000)
    (hr : w.heap[r]? = some (.cells #[.slice A (a ++ x :: b).length cap, .int .i64 most] 70 (0, 0))) (h : w.ownsRow B 72 3 (.slice A (a ++ x :: b).length cap) (a ++ x :: b).length (cells3 (a ++ x :: b))) :
    Calls Try.prog 38 #[.pointer (some ⟨r, 0, none⟩), .int .i64 a.length] w fun e w' => ∃ v, e = .returned v ∧ w'.ownsRow w.heap.size 72 3 v (a ++ b).length (cells3 (a ++ b)) ∧ Below w.heap.size w w' := by
  obtain ⟨i0, hi, hz0, hz1, hz2⟩ := info_parts infoT
  have c0 : w.cell? ⟨r, 0, none⟩ = some (.slice A (a ++ x :: b).length cap) := (cell_at hr 0).trans rfl
  have hrl := heap_lt hr
  have hcap : (a ++ x :: b).length ≤ cap ∧ cap ≤ maxLen := by
    rcases h.2 with ⟨h0, h1⟩ | ⟨g, cap', cur, hv, _, _, h1, h2, _⟩
    · simp at h1
    · injection hv with _ _ hc
      rw [hc]
      exact ⟨h1, h2⟩
  have hlen : (a ++ x :: b).length = a.length + 1 + b.length := by simp; omega
  have R := Reads.own h
  have R1 : Reads w w.heap.size 3 A a.length (cells3 a) := by
    have := reads_take R (i := a.length) (by omega)
    rw [cells3_take] at this
    simpa using this
  have R2 : Reads w w.heap.size 3 (if cap = a.length + 1 then A else A.map (·.add ((a.length + 1) * 3))) ((a ++ x :: b).length - (a.length + 1)) (cells3 b) := by
    have := R.cut (k := a.length + 1) (cap := cap) (by omega) hcap.1
    rw [cells3_drop] at this
    simpa using this
  unfold maxLen at hcap
  obtain ⟨n, en⟩ : ∃ n, n = (a ++ x :: b).length := ⟨_, rfl⟩
  rw [← en] at c0 hcap hlen R2 hl
  have hn1 : a.length + 1 ≤ n := by omega
  have hnb : n - (a.length + 1) = b.length := by omega
  have HNB := Lib.hid hnb
  have HN := Lib.hid hlen
  obtain ⟨hc1, hc2⟩ := hcap
  have i1 : (0 : Int) ≤ (a.length : Int) := by omega
  have i2 : (a.length : Int) ≤ (cap : Int) := by omega
  have i3 : (a.length : Int) + 1 ≤ (n : Int) := by omega
  have i4 : (n : Int) ≤ (cap : Int) := by omega
  have i5 : (cap : Int) ≤ 9223372036854775807 := by omega
  clear hr h R en hlen hnb
  go_enter Try.func38, Try.ntmps38
  go_wp2_with (first
    | (at_builtin; refine wpList_append_any _ rfl (.tmp 6) (.tmp 12) _ rfl w.heap.size 72 i0 _ 3 32 Try.underlying68 hi hz0 hz1 hz2 rfl (by omega) (.slice none 0 0) 0 [] rfl ⟨by simp, .inl ⟨rfl, rfl⟩⟩ w.heap.size A a.length cap (cells3 a) rfl R1 (cells3_one a) (by simp only [maxLen]; omega) (by omega) (Nat.le_refl _) ?_; intro v1 w1 hown1 hg1 hat1; have hbw1 : Below w.heap.size w w1 := (Below.refl _ _).grown hg1 (Nat.le_refl _) (by simp [Value.ownBlock]); have c0' : w1.cell? ⟨r, 0, none⟩ = some (.slice A n cap) := (hbw1.cell (p := ⟨r, 0, none⟩) hrl).trans c0; have R2' := R2.below hbw1; simp only [Nat.zero_add, List.nil_append] at hown1; clear R1 R2 c0 hg1)
    | (at_builtin; refine wpList_append_any _ rfl (.tmp 14) (.tmp 21) _ rfl w.heap.size 72 i0 _ 3 32 Try.underlying68 hi hz0 hz1 hz2 rfl (by omega) v1 a.length (cells3 a) rfl hown1 w.heap.size _ _ _ (cells3 b) rfl R2' (cells3_one b) (by simp only [maxLen]; omega) (by omega) hbw1.size ?_; intro v2 w2 hown2 hg2 hat2))
  all_goals
    go_ret
    refine ⟨v2, rfl, ?_, hbw1.grown hg2 hbw1.size (fun k hk => ?_)⟩
    · rw [HNB.out, ← cells3_append] at hown2
      exact hown2
    · rcases hat1 with e | e <;> rw [e] at hk <;> simp [Value.ownBlock] at hk
      omega
end Go.Proofs.Ytcifjhhofefpjaa.Cr
