/- The contract of the reference's Small: what it answers true at is small indeed. -/
import Derived.Test.YtimfljncibbdoaaGreatDoorLgPrP
import Derived.Test.YtimfljncibbdoaaGreatDoorLgSameB
import Derived.Test.YtimfljncibbdoaaGreatDoorLgRprint
namespace Go.Proofs.YtimfljncibbdoaaGreatDoor.Lg
open Go.RowKit
set_option linter.unusedVariables false
set_option maxRecDepth 100000
/-- no more than 20 texts a step, of no more than 200 bytes -/
def smallL : List Stp → Prop
  | [] => True
  | ⟨_, a, _, b⟩ :: r => (a.length ≤ 20 ∧ ∀ t ∈ a, t.length ≤ 200) ∧ smallL b ∧ smallL r
theorem smallL_cons {o n : Int} {a : List B} {b r : List Stp} : smallL (⟨o, a, n, b⟩ :: r) ↔ (a.length ≤ 20 ∧ ∀ t ∈ a, t.length ≤ 200) ∧ smallL b ∧ smallL r := by rw [smallL]
theorem smallL_nil : smallL [] := by rw [smallL]; trivial
theorem weight_app : ∀ a b : List Stp, weight (a ++ b) = weight a + weight b
  | [], b => by simp [weight]
  | ⟨_, _, _, c⟩ :: r, b => by
    have := weight_app r b
    simp only [List.cons_append, weight]; omega
theorem smallL_app : ∀ {a b : List Stp}, smallL a → smallL b → smallL (a ++ b)
  | [], b, _, h => h
  | ⟨_, _, _, c⟩ :: r, b, h, k => by
    rw [smallL_cons] at h
    rw [List.cons_append, smallL_cons]
    exact ⟨h.1, h.2.1, smallL_app (a := r) h.2.2 k⟩
theorem weight_take {l : List Stp} {k : Nat} (h : k < l.length) : weight (l.take (k + 1)) = weight (l.take k) + 1 + weight (l[k]).block := by
  rw [List.take_add_one, List.getElem?_eq_getElem h, weight_app]
  generalize l[k] = x
  obtain ⟨_, _, _, _⟩ := x
  simp only [Option.toList, weight, Stp.block]; omega
theorem smallL_take {l : List Stp} {k : Nat} (h : k < l.length) (h1 : smallL (l.take k)) (h2 : (l[k]).args.length ≤ 20) (h3 : ∀ t ∈ (l[k]).args, t.length ≤ 200) (h4 : smallL (l[k]).block) : smallL (l.take (k + 1)) := by
  rw [List.take_add_one, List.getElem?_eq_getElem h]
  refine smallL_app h1 ?_
  revert h2 h3 h4
  generalize l[k] = x
  intro h2 h3 h4
  obtain ⟨_, _, _, _⟩ := x
  exact smallL_cons.2 ⟨⟨h2, h3⟩, h4, smallL_nil⟩
theorem itoa_len {n : Int} (h1 : -9223372036854775808 ≤ n) (h2 : n ≤ 9223372036854775807) : (Lib.itoa n).length ≤ 20 := by
  unfold Lib.itoa
  by_cases h : n < 0
  · rw [if_pos h, List.length_cons]
    have := dec_len (n := n.natAbs) (by omega)
    omega
  · rw [if_neg h]
    have := dec_len (n := n.toNat) (by omega)
    omega
theorem args_len : ∀ {a : List B}, (∀ t ∈ a, t.length ≤ 200) → (argsW a).length ≤ 201 * a.length
  | [], _ => by simp [argsW]
  | t :: r, h => by
    have := args_len (a := r) (fun t ht => h t (List.mem_cons_of_mem _ ht))
    have h1 := h t (List.mem_cons_self ..)
    simp only [argsW, List.flatMap_cons, List.length_append, List.length_cons] at *
    omega
theorem printS_le (x : Stp) : (printS x).length ≤ (wordOf x.op).length + (argsW x.args).length + (1 + (Lib.itoa x.n).length) + 1 + ((print x.block).length + 4) := by
  rw [printS_len]
  split <;> split <;> omega
theorem print_small : ∀ {l : List Stp}, smallL l → numL l → (print l).length ≤ 4100 * weight l
  | [], _, _ => by simp [print_nil]
  | ⟨o, a, n, b⟩ :: r, h, k => by
    rw [numL] at k
    rw [smallL_cons] at h
    have h1 := print_small (l := b) h.2.1 k.2.1
    have h2 := print_small (l := r) h.2.2 k.2.2
    have h3 := args_len h.1.2
    have h4 := itoa_len k.1.1 k.1.2
    have h5 := words_len o
    have h6 := h.1.1
    have h7 := printS_le ⟨o, a, n, b⟩
    simp only [Stp.op, Stp.args, Stp.n, Stp.block] at h7
    rw [print_cons, List.length_append, weight]
    omega
def SmSays (W W' : World) (pb c : Nat) (l : List Stp) (e : Ending) : Prop :=
  ∃ b, e = .returned (.bool b) ∧ BelowX W.heap.size pb W W' ∧ (b = true → ∃ k : Nat, W'.heap[pb]? = some (.cells #[.int .i64 k] 3 (0, 0)) ∧ k + weight l = c ∧ smallL l)
theorem SmSays.no {W W' : World} {pb c : Nat} {l : List Stp} (h : BelowX W.heap.size pb W W') : SmSays W W' pb c l (.returned (.bool false)) := ⟨false, rfl, h, fun h => by cases h⟩
set_option maxHeartbeats 4000000 in
theorem small_any : ∀ (d : Nat), d ≤ 60 → ∀ (l : List Stp) (A : Option Addr) (n cp : Nat) (W : World) (pb c : Nat), StepsAt W (fun b => b ≠ pb) A n l → W.heap[pb]? = some (.cells #[.int .i64 c] 3 (0, 0)) → c ≤ 300 →
    Calls Tryz.prog 8 #[.slice A n cp, .pointer (some ⟨pb, 0, none⟩), .int .i64 d] W fun e W' => SmSays W W' pb c l e := by
  intro d
  induction d with
  | zero =>
    intro hd l A n cp W pb c hr hc hc3
    go_enter Tryz.func8, Tryz.ntmps8
    go_wp2_with (fail)
    go_ret
    exact SmSays.no (BelowX.refl _ _ _)
  | succ d ih =>
    intro hd l A n cp W pb c hr hc hc3
    obtain rfl : n = l.length := hr.1
    have q0 : W.cell? ⟨pb, 0, none⟩ = some (.int .i64 c) := (cell_heap hc 0).trans rfl
    have dn : ¬ ((d : Int) + 1 = 0) := by omega
    have dn2 : ((d : Int) + 1 == 0) = false := by simp; omega
    by_cases hgt : c < l.length
    · have hgI : (c : Int) < (l.length : Int) := by omega
      go_enter Tryz.func8, Tryz.ntmps8
      go_wp2_with (fail)
      go_ret
      exact SmSays.no (BelowX.refl _ _ _)
    have hgI : ¬ (c : Int) < (l.length : Int) := by omega
    have SR := Lib.hid hr
    have HC := Lib.hid hc
    have dW : IntKind.i64.wrap (d : Int) = (d : Int) := IntWalk.i64_in _ (by omega)
    clear hr hc
    go_enter Tryz.func8, Tryz.ntmps8
    go_wp2_with (fail)
    clear q0
    go_loopw [7] (fun t wr => ∃ i k : Nat, t = .int .i64 i ∧ i ≤ l.length ∧ wr.heap[pb]? = some (.cells #[.int .i64 k] 3 (0, 0)) ∧ k + weight (l.take i) = c ∧ smallL (l.take i) ∧ BelowX W.heap.size pb W wr) (fun t _ => l.length - (intOf t).toNat)
    case atStart => exact ⟨0, c, rfl, by omega, HC.out, by simp [weight], smallL_nil, BelowX.refl _ _ _⟩
    case round =>
      obtain ⟨i, k, rfl, hi, hk, hw, hsm, hb⟩ := hrel
      rename World => wr
      have q0 : wr.cell? ⟨pb, 0, none⟩ = some (.int .i64 k) := (cell_heap hk 0).trans rfl
      have fz : wr.frozen? ⟨pb, 0, none⟩ = false := frozen_heap hk 0
      have HSM := Lib.hid hsm
      have HW := Lib.hid hw
      have hk3 : k ≤ 300 := by omega
      clear hsm hw
      by_cases hlt : i < l.length
      · have hiI : (i : Int) < (l.length : Int) := by omega
        have hr2 : StepsAt wr (fun b => b ≠ pb) A l.length l := SR.out.mono (fun b ho hs => ⟨ho, hb.block b hs ho⟩)
        rcases k with _ | k
        · have q0 : wr.cell? ⟨pb, 0, none⟩ = some (.int .i64 0) := q0
          clear hr2 hk
          go_wp2_with (fail)
          go_ret
          exact SmSays.no (hb.setX rfl _)
        have q0 : wr.cell? ⟨pb, 0, none⟩ = some (.int .i64 ((k : Int) + 1)) := q0
        obtain ⟨w2, ew2⟩ : ∃ w2, w2 = wr.setCell ⟨pb, 0, none⟩ (.int .i64 (k : Int)) := ⟨_, rfl⟩
        have hr3 : StepsAt w2 (fun b => b ≠ pb) A l.length l := hr2.mono (fun b ho hs => ⟨ho, by rw [ew2]; exact Below.heap_setCell _ _ _ _ ho⟩)
        obtain ⟨ad, A', ka, ca, B', kb, cb, rfl, a0, a1, a2, a3, a4, hac, a5, hbc, a6⟩ := hr3.at_ hlt
        have hwt := weight_take hlt
        have hst := fun h2 h3 h4 => smallL_take hlt HSM.out h2 h3 h4
        generalize l[i] = x at *
        have A1 : w2.cell? ⟨(ad.add (i * 4)).block, (ad.add (i * 4)).off + 1, none⟩ = some (.slice A' ka ca) := by rw [← add_of_add] at a1; exact a1
        have A3 : w2.cell? ⟨(ad.add (i * 4)).block, (ad.add (i * 4)).off + 3, none⟩ = some (.slice B' kb cb) := by rw [← add_of_add] at a3; exact a3
        subst a4
        have hb2 : BelowX W.heap.size pb W w2 := by rw [ew2]; exact hb.setX rfl _
        have TA := Lib.hid (fun j (hj : j < x.args.length) => a5.text rfl hj)
        have HWT := Lib.hid hwt
        have HST := Lib.hid hst
        have hk2 : w2.heap[pb]? = some (.cells #[.int .i64 k] 3 (0, 0)) := by rw [ew2]; exact heap_setCell_same _ _ 0 _ _ (.int .i64 k) hk
        have IH := Lib.hid (ih (by omega) x.block B' kb cb w2 pb k a6 hk2 (by omega))
        have HB2 := Lib.hid hb2
        have kn : ¬ (k : Int) < 0 := by omega
        have q2 : w2.cell? ⟨pb, 0, none⟩ = some (.int .i64 k) := (cell_heap hk2 0).trans rfl
        have hi6 : i ≤ 300 := by omega
        clear a1 a2 a3 a5 a6 hwt hst hr2 hr3 hk a0 hk2 hb2
        go_upto_region 7 with (fail)
        rw [← ew2]
        clear ew2 q0 fz
        by_cases h20 : 20 < x.args.length
        · have hI : (20 : Int) < (x.args.length : Int) := by omega
          go_wp2_with (fail)
          go_ret
          exact SmSays.no HB2.out
        have hI : ¬ (20 : Int) < (x.args.length : Int) := by omega
        go_wp2_with (fail)
        clear q2
        go_loopw [8] (fun t wx => ∃ j : Nat, t = .int .i64 j ∧ j ≤ x.args.length ∧ wx = w2 ∧ ∀ p (hp : p < x.args.length), p < j → (x.args[p]).length ≤ 200) (fun t _ => x.args.length - (intOf t).toNat)
        case atStart => exact ⟨0, rfl, by omega, rfl, fun p _ h => absurd h (by omega)⟩
        case round =>
          obtain ⟨j, rfl, hj, rfl, hall⟩ := hrel
          have HALL := Lib.hid hall
          clear hall
          by_cases hjl : j < x.args.length
          · have hjI : (j : Int) < (x.args.length : Int) := by omega
            obtain ⟨a', rfl, hta⟩ := TA.out j hjl
            have hnext : (x.args[j]).length ≤ 200 → ∀ p (hp : p < x.args.length), p < j + 1 → (x.args[p]).length ≤ 200 := fun hu p hp hpj => by
              rcases Nat.lt_or_ge p j with h | h
              · exact HALL.out p hp h
              · obtain rfl : p = j := by omega
                exact hu
            generalize x.args[j] = u at *
            have HN := Lib.hid hnext
            clear hnext
            by_cases hu : 200 < u.length
            · have huI : (200 : Int) < ((bs u).size : Int) := by rw [bs_size]; omega
              go_wp2_with (fail)
              go_ret
              exact SmSays.no HB2.out
            · have huI : ¬ (200 : Int) < ((bs u).size : Int) := by rw [bs_size]; omega
              go_wp2_with (fail)
              go_roundw
              case rel => exact ⟨j + 1, by go_num, by omega, trivial, HN.out (by omega)⟩
              case measure => simp [intOf]; omega
          · obtain rfl : j = x.args.length := by omega
            go_upto_if 73 with (go_at_call 8; (with_reducible refine (IH.out).mono ?_); rintro e w4 ⟨bv, rfl, hb4, hres⟩; have HRES := Lib.hid hres; clear hres)
            have hb04 : BelowX W.heap.size pb W w4 := HB2.out.trans (hb4.mono HB2.out.size)
            cases bv
            · go_wp2_with (fail)
              go_ret
              exact SmSays.no hb04
            · obtain ⟨k', hk', hw', hs'⟩ := HRES.out rfl
              have HK' := Lib.hid hk'
              have HS' := Lib.hid (HST.out (by omega) (fun t ht => by obtain ⟨p, hp, rfl⟩ := List.mem_iff_getElem.1 ht; exact HALL.out p hp hp) hs')
              have HW' : Hid (k' + weight (l.take (i + 1)) = c) := Lib.hid (by rw [HWT.out]; have := HW.out; omega)
              clear hk' hw' hs'
              go_wp2_with (fail)
              go_roundw
              case rel => exact ⟨i + 1, k', by go_num, by omega, HK'.out, HW'.out, HS'.out, hb04⟩
              case measure => simp [intOf]; omega
      · obtain rfl : i = l.length := by omega
        have hw := HW.out
        have hsm := HSM.out
        rw [List.take_length] at hw hsm
        have HW2 := Lib.hid hw
        have HSM2 := Lib.hid hsm
        have HK := Lib.hid hk
        clear hw hsm hk
        go_wp2_with (fail)
        go_ret
        exact ⟨true, rfl, hb, fun _ => ⟨k, HK.out, HW2.out, HSM2.out⟩⟩
end Go.Proofs.YtimfljncibbdoaaGreatDoor.Lg
