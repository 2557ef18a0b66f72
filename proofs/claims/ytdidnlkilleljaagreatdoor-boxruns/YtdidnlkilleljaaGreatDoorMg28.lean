/- Joined by mkmerged.py: BxDelete, BxRight, BxWith. -/
import Derived.Test.YtdidnlkilleljaaGreatDoorMg27
import Derived.Test.YtdidnlkilleljaaGreatDoorMg23
import Derived.Test.YtdidnlkilleljaaGreatDoorMg03
/- BxDelete, what a claim needs of it (prune.py). -/
namespace Go.Proofs.YtdidnlkilleljaaGreatDoor.Bx
open Go.RowKit
open Fs (fc fc_len fc_at fc_cell fc_append fc_one Fls infoF B idx idx_cases NoneTo)
set_option linter.unusedVariables false
set_option maxRecDepth 100000
structure Kept (p : Fl → Bool) (l : List Fl) (i j : Nat) (dk : List Fl) : Prop where
  len : dk.length = l.length
  lt : i < j
  le : j ≤ l.length
  low : dk.take i = (l.take j).filter fun x => !p x
  high : dk.drop j = l.drop j
theorem Kept.start {p : Fl → Bool} {l : List Fl} {k : Nat} (hk : k < l.length) (hn : ∀ j (hj : j < l.length), j < k → p l[j] = false) (hp : p l[k] = true) : Kept p l k (k + 1) l := by
  refine ⟨rfl, by omega, by omega, ?_, rfl⟩
  rw [List.take_succ_eq_append_getElem hk, List.filter_append]
  have h1 : (l.take k).filter (fun x => !p x) = l.take k := by
    rw [List.filter_eq_self]
    intro x hx
    obtain ⟨j, hj, rfl⟩ := List.mem_iff_getElem.1 hx
    simp only [List.length_take] at hj
    rw [List.getElem_take, hn j (by omega) (by omega)]; rfl
  rw [h1]
  simp [hp]
theorem Kept.skip {p : Fl → Bool} {l dk : List Fl} {i j : Nat} (h : Kept p l i j dk) (hj : j < l.length) (hp : p l[j] = true) : Kept p l i (j + 1) dk := by
  refine ⟨h.len, by have := h.lt; omega, by omega, ?_, ?_⟩
  · rw [List.take_succ_eq_append_getElem hj, List.filter_append, h.low]
    simp [hp]
  · have := congrArg (List.drop 1) h.high
    simpa [List.drop_drop] using this
theorem Kept.at_ {p : Fl → Bool} {l dk : List Fl} {i j : Nat} (h : Kept p l i j dk) (hj : j < l.length) : dk[j]'(by rw [h.len]; exact hj) = l[j] := by
  have h1 := congrArg (fun x => x[0]?) h.high
  simp only [List.getElem?_drop, Nat.add_zero] at h1
  rw [List.getElem?_eq_getElem (by rw [h.len]; exact hj), List.getElem?_eq_getElem hj] at h1
  exact Option.some.inj h1
theorem Kept.keep {p : Fl → Bool} {l dk : List Fl} {i j : Nat} (h : Kept p l i j dk) (hj : j < l.length) (hp : p l[j] = false) : Kept p l (i + 1) (j + 1) (dk.set i l[j]) := by
  have hlt := h.lt
  have hlen := h.len
  refine ⟨by simp [h.len], by omega, by omega, ?_, ?_⟩
  · rw [List.take_succ_eq_append_getElem hj, List.filter_append, ← h.low, List.take_succ_eq_append_getElem (by simp; omega), List.take_set, List.set_eq_of_length_le (by simp only [List.length_take]; omega)]
    simp [hp]
  · have h1 := congrArg (List.drop 1) h.high
    rw [List.drop_set_of_lt (by omega)]
    simpa [List.drop_drop] using h1
def DelSays (B0 : Nat) (m : List Fl) (w : World) (e : Ending) (w' : World) : Prop := ∃ v', e = .returned v' ∧ w'.ownsRow B0 49 2 v' m.length (fc m) ∧ Below B0 w w'
theorem fc_set {cur : Array Value} {dk : List Fl} {i : Nat} (f : Fl) (h : cur.toList.take (dk.length * 2) = fc dk) (hi : i < dk.length) (hs : dk.length * 2 ≤ cur.size) :
    ((cur.setIfInBounds (i * 2) (.string f.p)).setIfInBounds (i * 2 + 1) (.string f.d)).toList.take ((dk.set i f).length * 2) = fc (dk.set i f) := by
  apply List.ext_getElem?
  intro j
  have hl := fc_len (dk.set i f)
  rw [List.length_set] at hl
  by_cases hj : j < dk.length * 2
  · have hq : j / 2 < (dk.set i f).length := by rw [List.length_set]; omega
    have hq2 : j / 2 < dk.length := by omega
    obtain ⟨e0, e1⟩ := fc_at hq
    obtain ⟨o0, o1⟩ := fc_at hq2
    have hcur : ∀ k v, (fc dk)[k]? = some v → cur[k]? = some v := fun k v hv => cur_at h hv
    rw [List.length_set, List.getElem?_take, if_pos hj]
    simp only [Array.toList_setIfInBounds, List.getElem?_set, List.length_set, Array.length_toList, List.getElem_set] at e0 e1 ⊢
    rcases Nat.mod_two_eq_zero_or_one j with h3 | h3
    · rw [show j / 2 * 2 = j by omega] at e0 o0
      rw [e0, if_neg (by omega)]
      by_cases h4 : i = j / 2
      · rw [if_pos (by omega), if_pos (by omega), if_pos h4]
      · rw [if_neg (by omega), if_neg h4]
        have := hcur _ _ o0
        simpa using this
    · rw [show j / 2 * 2 + 1 = j by omega] at e1 o1
      rw [e1]
      by_cases h4 : i = j / 2
      · rw [if_pos (by omega), if_pos (by omega), if_pos h4]
      · rw [if_neg (by omega), if_neg (by omega), if_neg h4]
        have := hcur _ _ o1
        simpa using this
  · rw [List.getElem?_eq_none (by rw [List.length_set]; simp; omega), List.getElem?_eq_none (by omega)]
def RowIn (B0 g cap : Nat) (w W : World) (dk : List Fl) : Prop := (∃ cur, W.heap[g]? = some (.cells cur 49 (0, 0)) ∧ cur.size = cap * 2 ∧ cur.toList.take (dk.length * 2) = fc dk) ∧ Below B0 w W
theorem RowIn.next {B0 g cap : Nat} {w W W' : World} {dk : List Fl} (h : RowIn B0 g cap w W dk) (hB : B0 ≤ W.heap.size) (hb : Below W.heap.size W W') : RowIn B0 g cap w W' dk := by
  obtain ⟨⟨cur, h1, h2, h3⟩, h4⟩ := h
  exact ⟨⟨cur, heap_below hb (lt_heap h1) h1, h2, h3⟩, h4.trans (hb.mono hB)⟩
theorem RowIn.put {B0 g cap : Nat} {w W : World} {dk : List Fl} (h : RowIn B0 g cap w W dk) (hg : B0 ≤ g) {i : Nat} (f : Fl) (hi : i < dk.length) (hc : dk.length ≤ cap) : RowIn B0 g cap w ((W.setCell ⟨g, i * 2, none⟩ (.string f.p)).setCell ⟨g, i * 2 + 1, none⟩ (.string f.d)) (dk.set i f) := by
  obtain ⟨⟨cur, h1, h2, h3⟩, h4⟩ := h
  exact ⟨⟨_, heap_set (heap_set h1), by simp [h2], fc_set f h3 hi (by omega)⟩, (h4.setCell (p := ⟨g, i * 2, none⟩) hg _).setCell (p := ⟨g, i * 2 + 1, none⟩) hg _⟩
theorem filter_none {p : Fl → Bool} {l : List Fl} (h : l.find? p = none) : l.filter (fun x => !p x) = l := by
  rw [List.filter_eq_self]
  intro x hx
  have := List.find?_eq_none.1 h x hx
  simpa using this
theorem idx_hits {p : Fl → Bool} {l : List Fl} {k : Nat} (hk : k < l.length) (h : l.find? p = some l[k]) (hi : idx p l = k) : p l[k] = true ∧ ∀ j (hj : j < l.length), j < k → p l[j] = false := by
  unfold idx at hi
  cases e : l.findIdx? p with
  | none => rw [e] at hi; simp only at hi; omega
  | some i =>
    rw [e] at hi
    have : i = k := by simp only at hi; omega
    subst this
    obtain ⟨_, h2, h3⟩ := List.findIdx?_eq_some_iff_getElem.1 e
    exact ⟨h2, fun j hj hjk => by simpa using h3 j hjk⟩
set_option maxHeartbeats 4000000 in
theorem delete_any (gf : Nat) (lb : Array Value) (eg : ∀ args w, (callFunc gf args).run Tryz.prog w = .ok (.enter gf args) w) (p : Fl → Bool) (B0 : Nat) (v : Value) (l : List Fl) (w : World) (ho : w.ownsRow B0 49 2 v l.length (fc l)) (hB : B0 ≤ w.heap.size) (hl : l.length ≤ 1000)
    (hp : ∀ f ∈ l, ∀ W, Below B0 w W → Calls Tryz.prog gf (#[.agg #[.string f.p, .string f.d]] ++ lb) W fun e w' => e = .returned (.bool (p f)) ∧ Below W.heap.size W w') :
    Calls Tryz.prog 221 #[v, .func (.func gf) #[] lb] w (DelSays B0 (l.filter fun x => !p x) w) := by
  have EN : Hid (∀ v' m w', m = (l.filter fun x => !p x) → w'.ownsRow B0 49 2 v' m.length (fc m) → Below B0 w w' → DelSays B0 (l.filter fun x => !p x) w (.returned v') w') := Lib.hid fun v' m w' h1 h2 h3 => ⟨v', rfl, by rw [← h1]; exact h2, h3⟩
  have IXA : ∀ A c, v = .slice A l.length c → Hid (Calls Tryz.prog 88 #[v, .func (.func gf) #[] lb] w fun e w' => e = .returned (.int .i64 (idx p l)) ∧ Below w.heap.size w w') := fun A c e => Lib.hid (by
    subst e
    exact Fs.indexF_any gf lb eg p A l c w (Reads.of_own ho) (by omega) (fun f hf W hW => hp f hf W (hW.mono hB)))
  have PR := Lib.hid hp
  have HO := Lib.hid ho
  generalize DelSays B0 (l.filter fun x => !p x) w = Q at *
  obtain ⟨_, h | ⟨g, cap, cur, rfl, hg, hh, hc, hc2, h3, h4⟩⟩ := own_open ho
  · obtain ⟨rfl, rfl⟩ := h
    have IX := IXA none 0 rfl
    clear hp ho IXA
    rw [show idx p [] = -1 from rfl] at IX
    go_enter Tryz.func221, Tryz.ntmps221
    go_wp2_with (go_at_call 88; (with_reducible refine (IX.out).mono ?_); rintro e w1 ⟨rfl, hb⟩)
    exact EN.out _ [] _ rfl (World.ownsRow_nil _ _ _ _) (hb.mono hB)
  · have IX := IXA _ _ rfl
    have R0 : Hid (RowIn B0 g cap w w l) := Lib.hid ⟨⟨cur, hh, h3, h4⟩, Below.refl _ _⟩
    clear hp ho IXA hh h3 h4
    unfold maxLen at hc2
    rcases idx_cases p l with ⟨e1, e2⟩ | ⟨k0, hk0, e1, e2⟩
    · rw [e1] at IX
      have F := Lib.hid (filter_none e2)
      clear e1 e2
      go_enter Tryz.func221, Tryz.ntmps221
      go_wp2_with (go_at_call 88; (with_reducible refine (IX.out).mono ?_); rintro e w1 ⟨rfl, hb⟩)
      exact EN.out _ l _ F.out.symm (own_on HO.out hb) (hb.mono hB)
    · obtain ⟨hp1, hp2⟩ := idx_hits hk0 e2 e1
      rw [e1] at IX
      have K0 := Lib.hid (Kept.start hk0 hp2 hp1)
      clear e1 e2 hp1 hp2
      have hne1 : ((k0 : Int) == -1) = false := beq_eq_false_iff_ne.2 (by omega)
      have hne2 : ¬ ((k0 : Int) = -1) := by omega
      go_enter Tryz.func221, Tryz.ntmps221
      go_wp2_with (go_at_call 88; (with_reducible refine (IX.out).mono ?_); rintro e w1 ⟨rfl, hb⟩)
      have R1 := Lib.hid (R0.out.next hB hb)
      clear hb R0
      go_loopw [5, 6] (fun a b W => ∃ (i j : Nat) (dk : List Fl), a = .int .i64 i ∧ b = .int .i64 j ∧ Kept p l i j dk ∧ RowIn B0 g cap w W dk) (fun _ b _ => l.length - (intOf b).toNat)
      case atStart => exact ⟨k0, k0 + 1, l, rfl, by go_num, K0.out, R1.out⟩
      case round =>
        obtain ⟨i, j, dk, rfl, rfl, hk, hr⟩ := hrel
        have KK := Lib.hid hk
        have RR := Lib.hid hr
        have hij := hk.lt
        have hjl := hk.le
        have hdl := hk.len
        have hBr : B0 ≤ wr.heap.size := Nat.le_trans hB hr.2.size
        obtain ⟨cur, hh, h3, h4⟩ := hr.1
        have hgl := lt_heap hh
        clear hk hr K0 R1
        by_cases hlt : j < l.length
        · have hltI : (j : Int) < (l.length : Int) := by omega
          have hiI : (i : Int) < (l.length : Int) := by omega
          have ej := KK.out.at_ hlt
          obtain ⟨f0, f1⟩ := fc_at (l := dk) (k := j) (by omega)
          rw [ej] at f0 f1
          have c0 : wr.cell? ⟨g, j * 2, none⟩ = some (.string l[j].p) := (cell_heap hh _).trans (cur_at h4 f0)
          have c1 : wr.cell? ⟨g, j * 2 + 1, none⟩ = some (.string l[j].d) := (cell_heap hh _).trans (cur_at h4 f1)
          obtain ⟨W1, eW⟩ : ∃ W1, W1 = wr.alloc (.cells #[.string l[j].p, .string l[j].d] 49) := ⟨_, rfl⟩
          have hb1 : Below wr.heap.size wr W1 := by rw [eW]; exact (Below.refl _ _).alloc (Nat.le_refl _) _
          have R1 := Lib.hid (RR.out.next hBr hb1)
          have q0 : W1.heap[wr.heap.size]? = some (.cells #[.string l[j].p, .string l[j].d] 49 (0, 0)) := by rw [eW]; exact heap_alloc_new wr _
          have hz1 := hb1.size
          have d0 : W1.cell? ⟨wr.heap.size, 0, none⟩ = some (.string l[j].p) := (cell_heap q0 0).trans rfl
          have d1 : W1.cell? ⟨wr.heap.size, 1, none⟩ = some (.string l[j].d) := (cell_heap q0 1).trans rfl
          have AF := Lib.hid (PR.out l[j] (List.getElem_mem hlt) W1 (R1.out.2))
          have Q0 := Lib.hid q0
          have hh1 := Lib.hid (heap_below hb1 hgl hh)
          have NK := Lib.hid (fun h => KK.out.keep hlt h)
          have NS := Lib.hid (fun h => KK.out.skip hlt h)
          have hng : ¬ g = wr.heap.size := by omega
          clear hh h4 f0 f1 ej q0 hb1
          have PUT : Hid (∀ W2, Below W1.heap.size W1 W2 → RowIn B0 g cap w ((W2.setCell ⟨g, i * 2, none⟩ (.string l[j].p)).setCell ⟨g, i * 2 + 1, none⟩ (.string l[j].d)) (dk.set i l[j])) := Lib.hid fun W2 h2 => (R1.out.next (Nat.le_trans hBr hz1) h2).put hg l[j] (by omega) (by omega)
          have CI : Hid (∀ W2, Below W1.heap.size W1 W2 → (∃ u, W2.cell? ⟨g, i * 2, none⟩ = some u) ∧ (∃ u, W2.cell? ⟨g, i * 2 + 1, none⟩ = some u) ∧ W2.frozen? ⟨g, i * 2, none⟩ = false ∧ W2.frozen? ⟨g, i * 2 + 1, none⟩ = false ∧ W2.cell? ⟨wr.heap.size, 0, none⟩ = some (.string l[j].p) ∧ W2.cell? ⟨wr.heap.size, 1, none⟩ = some (.string l[j].d)) := Lib.hid fun W2 h2 => by
            have hx := heap_below h2 (lt_heap hh1.out) hh1.out
            have hy := heap_below h2 (lt_heap Q0.out) Q0.out
            exact ⟨⟨_, (cell_heap hx _).trans (Array.getElem?_eq_getElem (by omega))⟩, ⟨_, (cell_heap hx _).trans (Array.getElem?_eq_getElem (by omega))⟩, frozen_heap hx _, frozen_heap hx _, (cell_heap hy 0).trans rfl, (cell_heap hy 1).trans rfl⟩
          cases hpf : p l[j]
          · rw [hpf] at AF
            have N1 := Lib.hid (NK.out hpf)
            clear hpf NK NS
            generalize l[j] = f at *
            go_wp2_with (go_at_fn gf; rw [← eW]; clear eW; (with_reducible refine (AF.out).mono ?_); rintro e w2 ⟨rfl, hb2⟩; obtain ⟨⟨u0, x0⟩, ⟨u1, x1⟩, x2, x3, x4, x5⟩ := CI.out _ hb2; have HP := Lib.hid (PUT.out _ hb2))
            go_roundw
            case rel => exact ⟨i + 1, j + 1, _, by go_num, by go_num, N1.out, HP.out⟩
            case measure => simp [intOf]; omega
          · rw [hpf] at AF
            have N1 := Lib.hid (NS.out hpf)
            clear hpf NK NS
            generalize l[j] = f at *
            go_wp2_with (go_at_fn gf; rw [← eW]; clear eW; (with_reducible refine (AF.out).mono ?_); rintro e w2 ⟨rfl, hb2⟩)
            go_roundw
            case rel => exact ⟨i, j + 1, dk, rfl, by go_num, N1.out, R1.out.next (Nat.le_trans hBr hz1) hb2⟩
            case measure => simp [intOf]; omega
        · obtain rfl : j = l.length := by omega
          have hci : ¬ cap = i := by omega
          have hil : i ≤ l.length := by omega
          obtain ⟨cur', k1, k2⟩ := setCells_at (fc (List.replicate (l.length - i) ⟨⟨#[]⟩, ⟨#[]⟩⟩)) (i * 2) wr cur hh (by rw [fc_len, List.length_replicate]; omega)
          have hs' : cur'.size = cap * 2 := by
            have := congrArg List.length k2
            simp only [Array.length_toList, List.length_append, List.length_take, List.length_drop, fc_len, List.length_replicate] at this
            omega
          obtain ⟨W3, eW3⟩ : ∃ W3, W3 = wr.setCells g (i * 2) (fc (List.replicate (l.length - i) ⟨⟨#[]⟩, ⟨#[]⟩⟩)) := ⟨_, rfl⟩
          have hcl : ∀ ty, (Builtin.clear_ #[23] ty #[.slice (some ⟨g, i * 2, none⟩) (l.length - i) (cap - i)]).run Tryz.prog wr = .ok (.tuple #[]) W3 := fun ty => by
            have hzc := zero_cells (l.length - i)
            have hl2 : (fc (List.replicate (l.length - i) (⟨⟨#[]⟩, ⟨#[]⟩⟩ : Fl))).length = (l.length - i) * 2 := by rw [fc_len, List.length_replicate]
            have := run_clear_cells (P := Tryz.prog) wr 23 49 ty (.agg #[.string ⟨#[]⟩, .string ⟨#[]⟩]) Tryz.underlying23 (fun _ => by kernel_rfl) g (i * 2) (l.length - i) (cap - i) (by omega)
              (by rw [hzc]; exact fc_cell _) (fun q hq => by rw [hzc, hl2] at hq; rw [cell_heap hh, Array.getElem?_eq_getElem (by omega)]; rfl) (fun q hq => frozen_heap hh _)
            rw [this, hzc, eW3]
          have FIN : Hid (Q (.returned (.slice (some ⟨g, 0, none⟩) i cap)) W3) := Lib.hid (by
            have hlow := KK.out.low
            rw [List.take_length] at hlow
            have hli : (dk.take i).length = i := by simp; omega
            have := own_shut (w := W3) (l := dk.take i) (cur := cur') hg (by rw [eW3]; exact k1) (by rw [hli]; omega) (by unfold maxLen; omega) hs' (by
              rw [k2, hli, List.append_assoc, List.take_append_of_le_length (by simp; omega), List.take_take, Nat.min_self, ← fc_take, ← h4, List.take_take, Nat.min_eq_left (by omega)])
            rw [hli] at this
            refine EN.out _ (dk.take i) _ hlow ?_ ?_
            · rw [hli]; exact this
            · rw [eW3]; exact RR.out.2.trans (setCells_below hg _ _ _))
          clear eW3 k1 k2 hh h3 h4 hs' KK RR
          go_wp2_with (fail)
          exact FIN.out
end Go.Proofs.YtdidnlkilleljaaGreatDoor.Bx
/- BxRight, what a claim needs of it (prune.py). -/
namespace Go.Proofs.YtdidnlkilleljaaGreatDoor.Bx
open Fs (B belowB under checkE badF Twice)
set_option linter.unusedVariables false
structure RightF (l : List Fl) : Prop where
  each : ∀ f ∈ l, Lg.pathOk (tl f.p) = true ∧ f.d.size ≤ 2048
  len : l.length ≤ 32
  up : l.Pairwise fun a b => tl a.p < tl b.p
  apart : ∀ a ∈ l, ∀ b ∈ l, (belowB (tl a.p) (tl b.p)).isSome = false
theorem rising {l : List Fl} (h : ∀ i (hi : i < l.length), 0 < i → tl (l[i - 1]'(Nat.lt_of_le_of_lt (Nat.sub_le i 1) hi)).p < tl l[i].p) : l.Pairwise fun a b => tl a.p < tl b.p := by
  rw [List.pairwise_iff_getElem]
  intro i j hi hj hij
  induction j with
  | zero => omega
  | succ j ih =>
    have h1 := h (j + 1) hj (by omega)
    simp only [Nat.add_sub_cancel] at h1
    rcases Nat.lt_or_ge i j with h2 | h2
    · exact List.lt_trans (ih (by omega) h2) h1
    · obtain rfl : i = j := by omega
      exact h1
theorem badF_none {f : Fl} : badF f = none ↔ Lg.pathOk (tl f.p) = true ∧ f.d.size ≤ 2048 := by
  unfold badF
  by_cases h : Lg.pathOk (tl f.p) = false
  · rw [if_pos h, h]; simp
  · rw [if_neg h]
    have h' : Lg.pathOk (tl f.p) = true := by simpa using h
    by_cases h2 : 2048 < f.d.size
    · rw [if_pos h2]; simp; omega
    · rw [if_neg h2]; simp [h']; omega
theorem right_iff {l : List Fl} : checkE l = 0 ↔ RightF l := by
  constructor
  · intro h
    unfold checkE at h
    cases hf : l.findSome? badF with
    | some c =>
      rw [hf] at h
      simp only at h
      subst h
      obtain ⟨f, hm, hb⟩ := List.exists_of_findSome?_eq_some hf
      unfold badF at hb
      split at hb
      · exact absurd (Option.some.inj hb) (by decide)
      · split at hb
        · exact absurd (Option.some.inj hb) (by decide)
        · cases hb
    | none =>
      rw [hf] at h
      simp only at h
      by_cases h32 : 32 < l.length
      · rw [if_pos h32] at h; exact absurd h (by decide)
      · rw [if_neg h32] at h
        by_cases ht : Twice l
        · rw [if_pos ht] at h; exact absurd h (by decide)
        · refine ⟨fun f hm => badF_none.1 (List.findSome?_eq_none_iff.1 hf f hm), by omega, rising fun i hi h0 => ?_, fun a ha b hb => ?_⟩
          · exact Decidable.byContradiction fun hn => ht (.inl ⟨i, hi, h0, hn⟩)
          · obtain ⟨i, hi, rfl⟩ := List.mem_iff_getElem.1 ha
            obtain ⟨k, hk, rfl⟩ := List.mem_iff_getElem.1 hb
            cases e : (belowB (tl l[i].p) (tl l[k].p)).isSome with
            | false => rfl
            | true => exact absurd (.inr ⟨i, hi, k, hk, e⟩) ht
  · intro h
    have hf : l.findSome? badF = none := List.findSome?_eq_none_iff.2 fun f hm => badF_none.2 (h.each f hm)
    unfold checkE
    rw [hf]
    simp only
    have h32 := h.len
    rw [if_neg (by omega)]
    refine if_neg ?_
    rintro (⟨i, hi, h0, h1⟩ | ⟨i, hi, k, hk, h1⟩)
    · exact h1 (List.pairwise_iff_getElem.1 h.up (i - 1) i (by omega) hi (by omega))
    · rw [h.apart _ (List.getElem_mem hi) _ (List.getElem_mem hk)] at h1
      cases h1
theorem below_is {s p r : B} (h : belowB s p = some r) : s = p ++ 47 :: r ∧ r ≠ [] := by
  obtain ⟨h1, h2⟩ := Fs.below_tl h
  obtain ⟨t, rfl⟩ := h2
  have hl := Fs.below_len h
  refine ⟨?_, fun e => by rw [e] at hl; simp at hl⟩
  rw [h1]
  simp
theorem below_some {s p : B} : (belowB s p).isSome = true ↔ ∃ r, r ≠ [] ∧ s = p ++ 47 :: r := by
  constructor
  · intro h
    obtain ⟨r, hr⟩ := Option.isSome_iff_exists.1 h
    exact ⟨r, (below_is hr).2, (below_is hr).1⟩
  · rintro ⟨r, hr, rfl⟩
    unfold belowB
    rw [if_pos]
    · rfl
    · refine ⟨⟨r, by simp⟩, ?_⟩
      cases r with
      | nil => exact absurd rfl hr
      | cons c r => simp
end Go.Proofs.YtdidnlkilleljaaGreatDoor.Bx
/- BxWith, what a claim needs of it (prune.py). -/
namespace Go.Proofs.YtdidnlkilleljaaGreatDoor.Bx
open Fs (B belowB)
set_option linter.unusedVariables false
def clashP (a b : B) : Bool := (belowB a b).isSome || (belowB b a).isSome
def atP (p : B) (g : Fl) : Bool := decide (tl g.p = p)
def insF (f : Fl) : List Fl → List Fl
  | [] => [f]
  | g :: l => if tl f.p < tl g.p then f :: g :: l else g :: insF f l
def putF (l : List Fl) (p d : B) : List Fl := if l.any (atP p) = true then l.set (l.findIdx (atP p)) ⟨bs p, bs d⟩ else insF ⟨bs p, bs d⟩ l
def withF (l : List Fl) (p d : B) : List Fl × Int :=
  if Lg.pathOk p = false then ([], 13) else if 2048 < d.length then ([], 15)
  else if l.any (fun g => clashP p (tl g.p)) = true then ([], 16)
  else if 32 < (putF l p d).length then ([], 15) else (putF l p d, 0)
def withoutF (l : List Fl) (p : B) : List Fl := l.filter fun f => !((belowB (tl f.p) p).isSome || decide (tl f.p = p))
theorem without_right {l : List Fl} (h : RightF l) (p : B) : RightF (withoutF l p) := by
  unfold withoutF
  exact ⟨fun f hf => h.each f (List.mem_filter.1 hf).1, Nat.le_trans (List.length_filter_le _ _) h.len, h.up.filter _, fun a ha b hb => h.apart a (List.mem_filter.1 ha).1 b (List.mem_filter.1 hb).1⟩
theorem mem_insF {f x : Fl} : ∀ {l : List Fl}, x ∈ insF f l ↔ x = f ∨ x ∈ l
  | [] => by simp [insF]
  | g :: l => by
    unfold insF
    split
    · simp
    · rw [List.mem_cons, mem_insF, List.mem_cons]
      constructor
      · rintro (h | h | h)
        · exact .inr (.inl h)
        · exact .inl h
        · exact .inr (.inr h)
      · rintro (h | h | h)
        · exact .inr (.inl h)
        · exact .inl h
        · exact .inr (.inr h)
theorem insF_up {f : Fl} : ∀ {l : List Fl}, (l.Pairwise fun a b => tl a.p < tl b.p) → (∀ g ∈ l, tl g.p ≠ tl f.p) → (insF f l).Pairwise fun a b => tl a.p < tl b.p
  | [], _, _ => by simp [insF]
  | g :: l, h, hn => by
    obtain ⟨h1, h2⟩ := List.pairwise_cons.1 h
    unfold insF
    by_cases hl : tl f.p < tl g.p
    · rw [if_pos hl]
      refine List.pairwise_cons.2 ⟨fun x hx => ?_, h⟩
      rcases List.mem_cons.1 hx with rfl | hx
      · exact hl
      · exact List.lt_trans hl (h1 x hx)
    · rw [if_neg hl]
      refine List.pairwise_cons.2 ⟨fun x hx => ?_, insF_up h2 fun x hx => hn x (List.mem_cons_of_mem _ hx)⟩
      rcases mem_insF.1 hx with rfl | hx
      · rcases Fs.lt_or (a := tl g.p) (b := tl x.p) with k | k | k
        · exact k
        · exact absurd k (hn g (List.mem_cons_self ..))
        · exact absurd k hl
      · exact h1 x hx
theorem insF_len (f : Fl) : ∀ l : List Fl, (insF f l).length = l.length + 1
  | [] => rfl
  | g :: l => by
    unfold insF
    split
    · rfl
    · rw [List.length_cons, insF_len f l, List.length_cons]
theorem below_self (p : B) : (belowB p p).isSome = false := by
  cases e : (belowB p p).isSome with
  | false => rfl
  | true =>
    obtain ⟨r, _, h⟩ := below_some.1 e
    have := congrArg List.length h
    simp at this
theorem put_mem {l : List Fl} {p d : B} {x : Fl} (hx : x ∈ putF l p d) : x = ⟨bs p, bs d⟩ ∨ x ∈ l := by
  unfold putF at hx
  split at hx
  · rcases List.mem_or_eq_of_mem_set hx with h | h
    · exact .inr h
    · exact .inl h
  · exact mem_insF.1 hx
theorem put_up {l : List Fl} (h : l.Pairwise fun a b => tl a.p < tl b.p) (p d : B) : (putF l p d).Pairwise fun a b => tl a.p < tl b.p := by
  unfold putF
  by_cases ha : l.any (atP p) = true
  · rw [if_pos ha]
    have hi : l.findIdx (atP p) < l.length := List.findIdx_lt_length_of_exists (by simpa using ha)
    have hp : tl l[l.findIdx (atP p)].p = p := by
      have := List.findIdx_getElem (w := hi) (p := atP p) (xs := l)
      unfold atP at this ⊢
      simpa using this
    have key : ∀ j (hj : j < l.length), tl ((l.set (l.findIdx (atP p)) ⟨bs p, bs d⟩)[j]'(by simpa using hj)).p = tl l[j].p := fun j hj => by
      rw [List.getElem_set]
      by_cases e : l.findIdx (atP p) = j
      · rw [if_pos e]
        subst e
        exact hp.symm
      · rw [if_neg e]
    rw [List.pairwise_iff_getElem] at h ⊢
    intro i j hi' hj' hij
    have hi2 : i < l.length := by simpa using hi'
    have hj2 : j < l.length := by simpa using hj'
    rw [key i hi2, key j hj2]
    exact h i j hi2 hj2 hij
  · rw [if_neg ha]
    refine insF_up h fun g hg e => ha (List.any_eq_true.2 ⟨g, hg, ?_⟩)
    unfold atP
    exact decide_eq_true e
theorem with_right {l : List Fl} (h : RightF l) {p d : B} (h0 : (withF l p d).2 = 0) : RightF (withF l p d).1 := by
  unfold withF at h0 ⊢
  by_cases h1 : Lg.pathOk p = false
  · rw [if_pos h1] at h0; exact absurd h0 (by decide)
  rw [if_neg h1] at h0 ⊢
  by_cases h2 : 2048 < d.length
  · rw [if_pos h2] at h0; exact absurd h0 (by decide)
  rw [if_neg h2] at h0 ⊢
  by_cases h3 : l.any (fun g => clashP p (tl g.p)) = true
  · rw [if_pos h3] at h0; exact absurd h0 (by decide)
  rw [if_neg h3] at h0 ⊢
  by_cases h4 : 32 < (putF l p d).length
  · rw [if_pos h4] at h0; exact absurd h0 (by decide)
  rw [if_neg h4] at h0 ⊢
  have hc : ∀ g ∈ l, (belowB p (tl g.p)).isSome = false ∧ (belowB (tl g.p) p).isSome = false := fun g hg => by
    have := List.any_eq_false.1 (by simpa using h3 : l.any (fun g => clashP p (tl g.p)) = false) g hg
    unfold clashP at this
    simpa using this
  refine ⟨fun f hf => ?_, by show (putF l p d).length ≤ 32; omega, put_up h.up p d, fun a ha b hb => ?_⟩
  · rcases put_mem hf with rfl | hf
    · refine ⟨by show Lg.pathOk p = true; simpa using h1, ?_⟩
      show (bs d).size ≤ 2048
      rw [Fs.bs_len]; omega
    · exact h.each f hf
  · rcases put_mem ha with rfl | ha <;> rcases put_mem hb with rfl | hb
    · exact below_self p
    · exact (hc b hb).1
    · exact (hc a ha).2
    · exact h.apart a ha b hb
end Go.Proofs.YtdidnlkilleljaaGreatDoor.Bx
