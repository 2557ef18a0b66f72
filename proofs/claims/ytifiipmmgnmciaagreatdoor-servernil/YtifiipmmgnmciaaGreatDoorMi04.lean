/- Joined by mkmerged.py: LgSplit, LgNum, LgMix, LgLaw. -/
import Derived.Test.YtifiipmmgnmciaaGreatDoorMi01
import Derived.Test.YtifiipmmgnmciaaGreatDoorMi03
import Derived.Lib.SplitLaws
import Derived.Shelf.Strings.PiecesUse
import Derived.Lib.AtoiTie
import Derived.Lib.AtoiAllCases
import Derived.Lib.AppendIntMem
import Derived.Test.YtifiipmmgnmciaaGreatDoorMiKm
/- LgSplit, what a claim needs of it (prune.py). -/
namespace Go.Proofs.YtifiipmmgnmciaaGreatDoor.Lg
open Go.RowKit
set_option linter.unusedVariables false
set_option maxRecDepth 100000
theorem split_one (c : UInt8) : ∀ s : List UInt8, Lib.splitK [c] 0 (Lib.count s [c]) s = splitB c s
  | [] => by rw [Lib.count_one]; rfl
  | b :: r => by
    have ih := split_one c r
    by_cases h : b = c
    · subst h
      have hix : Lib.index (b :: r) [b] = 0 := by rw [Lib.index]; simp [List.isPrefixOf]
      rw [Lib.count_cons_eq, Nat.add_comm 1, Lib.splitK, hix, splitB, if_pos rfl, ← ih]
      simp
    · have hp : ([c] : List UInt8).isPrefixOf (b :: r) = false := by simp [List.isPrefixOf, Ne.symm h]
      have hix : Lib.index (b :: r) [c] = if Lib.index r [c] == -1 then -1 else Lib.index r [c] + 1 := by rw [Lib.index, hp]; simp
      rw [Lib.count_cons_ne b c r h, splitB, if_neg h, ← ih]
      by_cases hm : Lib.index r [c] = -1
      · rw [Lib.count_miss hm]; rfl
      · have hge := Lib.index_ge r [c]
        obtain ⟨j, hj⟩ : ∃ j : Nat, Lib.index r [c] = j := ⟨(Lib.index r [c]).toNat, by omega⟩
        have hc := Lib.count_hit (by simp : [c] ≠ ([] : List UInt8)) hj
        rw [hc, Nat.add_comm 1, Lib.splitK, Lib.splitK]
        have hm1 : (Lib.index r [c] == -1) = false := by simp [hm]
        rw [hm1] at hix ⊢
        have hm2 : (Lib.index (b :: r) [c] == -1) = false := by rw [hix]; simp; omega
        rw [hm2]
        simp only [Bool.false_eq_true, if_false] at hix ⊢
        have e1 : (Lib.index (b :: r) [c]).toNat = j + 1 := by rw [hix, hj]; omega
        have e2 : (Lib.index r [c]).toNat = j := by rw [hj]; rfl
        rw [e1, e2]
        simp
def pieces (c : UInt8) (s : ByteArray) : List ByteArray := (splitB c (tl s)).map bs
theorem map_tl_bs (l : List (List UInt8)) : (l.map bs).map tl = l := by simp [List.map_map, Function.comp_def, tl, bs]
theorem map_bs_tl (l : List ByteArray) : (l.map tl).map bs = l := by
  rw [List.map_map]
  conv => rhs; rw [← List.map_id l]
  rfl
theorem splitB_pieces (c : UInt8) (s : ByteArray) : Lib.splitB ⟨#[c]⟩ 0 (Lib.countB s ⟨#[c]⟩) s = pieces c s := by
  have h := Lib.splitB_data ⟨#[c]⟩ 0 (Lib.countB s ⟨#[c]⟩) s
  have h2 : Lib.countB s ⟨#[c]⟩ = Lib.count (tl s) [c] := rfl
  rw [h2] at h ⊢
  have h3 : (Lib.splitB ⟨#[c]⟩ 0 (Lib.count (tl s) [c]) s).map tl = splitB c (tl s) := by rw [← split_one]; exact h
  rw [pieces, ← h3, map_bs_tl]
theorem pieces_ne (c : UInt8) (s : ByteArray) : pieces c s ≠ [] := by simp [pieces, splitB_ne]
theorem pieces_len (c : UInt8) (s : ByteArray) : (pieces c s).length ≤ s.size + 1 := by
  have := split_len c (tl s)
  rw [tl_len] at this
  simpa [pieces] using this
theorem pieces_count (c : UInt8) (s : ByteArray) : Lib.countB s ⟨#[c]⟩ + 1 = (pieces c s).length := by
  rw [← splitB_pieces, Lib.splitB_all ⟨#[c]⟩ (by show 1 ≤ 1; omega) 0 _ s rfl]
theorem pieces_part (c : UInt8) (s : ByteArray) : ∀ p ∈ pieces c s, p.size ≤ s.size := by
  intro p hp
  obtain ⟨q, hq, rfl⟩ := List.mem_map.1 hp
  have := split_part c (tl s) q hq
  rw [tl_len] at this
  rw [← tl_len, tl_bs]; exact this
theorem Strs.new (w : World) (l : List ByteArray) (t : TypeId) : Strs (w.alloc (.cells (l.map Value.string).toArray t)) (some ⟨w.heap.size, 0, none⟩) l := by
  refine ⟨by simp, fun hn => ⟨_, rfl, by simp, fun j u hu => ?_⟩⟩
  rw [List.getElem?_map] at hu
  obtain ⟨x, hx, rfl⟩ := Option.map_eq_some_iff.1 hu
  have h : (⟨w.heap.size, 0, none⟩ : Addr).add j = ⟨w.heap.size, j, none⟩ := by
    unfold Addr.add; split <;> simp_all
  rw [h]; exact Lib.pieces_cell_at w l t j x hx
theorem split_any (s : ByteArray) (c : UInt8) (m : Int) (w : World) (hs : s.size ≤ 1000000000) (hm : w.cell? ⟨2, 0, none⟩ = some (.int .i64 m)) :
    Calls Tryz.prog 85 #[.string s, .string ⟨#[c]⟩] w fun e w' => e = .returned (.slice (some ⟨w.heap.size, 0, none⟩) (pieces c s).length (pieces c s).length) ∧ w' = w.alloc (.cells ((pieces c s).map Value.string).toArray 9) := by
  refine (Tryz.strings_Split s ⟨#[c]⟩ m w (by omega) hm (by show 1 ≤ 1; omega)).mono ?_
  rintro e w' ⟨h1, h2⟩
  rw [splitB_pieces] at h2
  rw [pieces_count] at h1
  exact ⟨h1, h2⟩
end Go.Proofs.YtifiipmmgnmciaaGreatDoor.Lg
namespace Go.Proofs.YtifiipmmgnmciaaGreatDoor.Lg
open Go.RowKit
set_option linter.unusedVariables false
set_option maxRecDepth 100000
theorem l_ne {a : ByteArray} {l : List UInt8} (h : a ≠ bs l) : ¬ a.toList = l := by
  rw [Lib.toList_data]
  exact fun e => h (tl_inj e)
def dots (p : ByteArray) : Bool := (tl p).isEmpty || tl p == [46] || tl p == [46, 46]
def oddTo (p : ByteArray) (j : Nat) : Bool := dots p || !((tl p).take j).all printable
theorem oddTo_zero (p : ByteArray) : oddTo p 0 = dots p := by simp [oddTo]
theorem oddTo_next {p : ByteArray} {j : Nat} (hj : j < p.size) : oddTo p (j + 1) = (oddTo p j || !printable (p[j]'hj)) := by
  simp only [oddTo, all_next hj, Bool.not_and, Bool.or_assoc]
theorem oddTo_end (p : ByteArray) : oddTo p p.size = !partOk (tl p) := by
  simp only [oddTo, take_all, dots, partOk, Bool.not_and, Bool.not_not]
  cases (tl p).all printable <;> cases (tl p).isEmpty <;> cases tl p == [46] <;> cases tl p == [46, 46] <;> rfl
def pathE (s : List UInt8) : Int := if pathOk s = true then 0 else 13
theorem pathE_no {s : ByteArray} (h : s.size < 1 ∨ 48 < s.size) : pathE (tl s) = 13 := by
  have : pathOk (tl s) = false := by
    have e : (decide (1 ≤ s.size) && decide (s.size ≤ 48)) = false := by
      simp only [Bool.and_eq_false_iff, decide_eq_false_iff_not]; omega
    unfold pathOk
    rw [tl_len, e]; rfl
  rw [pathE, this]; rfl
theorem pieces_get {c : UInt8} {s : ByteArray} {k : Nat} (hk : k < (pieces c s).length) : (splitB c (tl s))[k]? = some (tl ((pieces c s)[k]'hk)) := by
  have hk' : k < (splitB c (tl s)).length := by simpa [pieces] using hk
  rw [List.getElem?_eq_getElem hk']
  simp [pieces, tl_bs]
theorem pathE_bad {s : ByteArray} {k : Nat} (hk : k < (pieces 47 s).length) (h : partOk (tl ((pieces 47 s)[k]'hk)) = false) : pathE (tl s) = 13 := by
  have : pathOk (tl s) = false := by
    cases e : pathOk (tl s) with
    | false => rfl
    | true =>
      simp only [pathOk, Bool.and_eq_true, List.all_eq_true] at e
      have := e.2 _ (List.mem_of_getElem? (pieces_get hk))
      rw [h] at this; cases this
  rw [pathE, this]; rfl
theorem pathE_ok {s : ByteArray} (h1 : 1 ≤ s.size) (h2 : s.size ≤ 48) (h : ∀ j (hj : j < (pieces 47 s).length), j < (pieces 47 s).length → partOk (tl ((pieces 47 s)[j]'hj)) = true) : pathE (tl s) = 0 := by
  have : pathOk (tl s) = true := by
    have ha : (splitB 47 (tl s)).all partOk = true := by
      rw [List.all_eq_true]
      intro x hx
      obtain ⟨j, hj⟩ := List.mem_iff_getElem?.1 hx
      obtain ⟨hj', e⟩ := List.getElem?_eq_some_iff.1 hj
      have hj2 : j < (pieces 47 s).length := by simpa [pieces] using hj'
      have := pieces_get hj2
      rw [hj] at this
      injection this with this
      rw [this]
      exact h j hj2 hj2
    rw [pathOk, ha, tl_len]; simp; omega
  rw [pathE, this]; rfl
theorem upto_next {l : List ByteArray} {p : ByteArray → Bool} {k : Nat} (hk : k < l.length) (h : ∀ j (hj : j < l.length), j < k → p l[j] = true) (h2 : p l[k] = true) : ∀ j (hj : j < l.length), j < k + 1 → p l[j] = true := by
  intro j hj hlt
  rcases Nat.lt_or_ge j k with h3 | h3
  · exact h j hj h3
  · obtain rfl : j = k := by omega
    exact h2
theorem dots_false {p : ByteArray} (h1 : p ≠ ⟨#[]⟩) (h2 : p ≠ ⟨#[46]⟩) (h3 : p ≠ ⟨#[46, 46]⟩) : dots p = false := by
  unfold dots
  rw [Bool.or_eq_false_iff, Bool.or_eq_false_iff, beq_eq_false_iff_ne, beq_eq_false_iff_ne]
  refine ⟨⟨?_, fun e => h2 (tl_inj e)⟩, fun e => h3 (tl_inj e)⟩
  cases e : tl p with
  | nil => exact absurd (tl_inj e) h1
  | cons a l => rfl
theorem pr_cases2 (c : UInt8) : (printable c = true ∧ ¬ (c.toNat : Int) ≤ 32 ∧ ¬ (126 : Int) < c.toNat) ∨ (printable c = false ∧ ((c.toNat : Int) ≤ 32 ∨ (¬ (c.toNat : Int) ≤ 32 ∧ (126 : Int) < c.toNat))) := by
  unfold printable
  generalize c.toNat = n
  simp only [Bool.and_eq_true, decide_eq_true_eq, Bool.and_eq_false_iff, decide_eq_false_iff_not]
  omega
set_option maxHeartbeats 4000000 in
theorem ppath_any (s : ByteArray) (m : Int) (w : World) (hs : s.size ≤ 1000000000) (hm : w.cell? ⟨2, 0, none⟩ = some (.int .i64 m)) :
    Calls Tryz.prog 132 #[.string s] w fun e w' => e = .returned (.int .i64 (pathE (tl s))) ∧ Below w.heap.size w w' := by
  by_cases h0 : s.size = 0
  · have HN := Lib.hid (pathE_no (s := s) (.inl (by omega)))
    obtain rfl := empty_of h0
    go_enter Tryz.func132, Tryz.ntmps132
    go_wp2_with (fail)
    go_ret
    exact ⟨ret_int HN.out, Below.refl _ _⟩
  · have hne := some_ne h0
    by_cases h16 : (48 : Int) < (s.size : Int)
    · have HN := Lib.hid (pathE_no (s := s) (.inr (by omega)))
      go_enter Tryz.func132, Tryz.ntmps132
      go_wp2_with (fail)
      go_ret
      exact ⟨ret_int HN.out, Below.refl _ _⟩
    · have OK := Lib.hid (pathE_ok (s := s) (by omega) (by omega))
      have BAD : Hid (∀ k (hk : k < (pieces 47 s).length), partOk (tl ((pieces 47 s)[k]'hk)) = false → pathE (tl s) = 13) := Lib.hid (fun k hk h => pathE_bad hk h)
      have SP := Lib.hid (split_any s 47 m w hs hm)
      have hpl : (pieces 47 s).length ≤ 1000000001 := by have := pieces_len 47 s; omega
      have PS : Hid (∀ k (hk : k < (pieces 47 s).length) p, p = (pieces 47 s)[k]'hk → p.size ≤ 1000000000) := Lib.hid (fun k hk p e => by
        have := pieces_part 47 s _ (List.getElem_mem hk)
        rw [e]; omega)
      have CL := Lib.hid (Strs.new w (pieces 47 s) 9)
      have BW : Hid (Below w.heap.size w (w.alloc (.cells ((pieces 47 s).map Value.string).toArray 9))) := Lib.hid ((Below.refl _ _).alloc (Nat.le_refl _) _)
      go_enter Tryz.func132, Tryz.ntmps132
      go_wp2_with (go_at_call 85; ((with_reducible refine (SP.out).mono ?_); rintro e w1 ⟨rfl, rfl⟩))
      generalize w.alloc (.cells ((pieces 47 s).map Value.string).toArray 9) = W1 at *
      generalize pieces 47 s = P at *
      go_loop [17] (fun i => ∃ k : Nat, i = .int .i64 k ∧ k ≤ P.length ∧ ∀ j (hj : j < P.length), j < k → partOk (tl P[j]) = true) (fun i => P.length - (intOf i).toNat)
      case atStart => exact ⟨0, rfl, by omega, fun j _ h => by omega⟩
      case round =>
        obtain ⟨k, rfl, hk, ha⟩ := hrel
        have HA := Lib.hid ha
        clear ha
        by_cases hlt : k < P.length
        · have hkI : (k : Int) < (P.length : Int) := by omega
          obtain ⟨ad, ead, _, hc⟩ := CL.out.at_ hlt
          injection ead with ead
          subst ead
          have c0 : W1.cell? ⟨w.heap.size, k, none⟩ = some (.string P[k]) := by
            have : (⟨w.heap.size, 0, none⟩ : Addr).add k = ⟨w.heap.size, k, none⟩ := by unfold Addr.add; split <;> simp_all
            rw [← this]; exact hc
          clear hc
          have B1 := Lib.hid (BAD.out k hlt)
          have NX := Lib.hid (upto_next (p := fun p => partOk (tl p)) hlt HA.out)
          obtain ⟨p, ep⟩ : ∃ p, p = P[k] := ⟨_, rfl⟩
          rw [← ep] at c0 B1 NX
          have ON : Hid (∀ j (hj : j < p.size), oddTo p (j + 1) = (oddTo p j || !printable (p[j]'hj))) := Lib.hid (fun j hj => oddTo_next hj)
          have OE := Lib.hid (oddTo_end p)
          have hps : p.size ≤ 1000000000 := PS.out _ hlt _ ep
          clear ep
          have hcase : (dots p = true ∧ (p.toList.isEmpty = true ∨ (p.toList.isEmpty = false ∧ p.toList = [46]) ∨ (p.toList.isEmpty = false ∧ ¬ p.toList = [46] ∧ p.toList = [46, 46]))) ∨ (dots p = false ∧ p.toList.isEmpty = false ∧ ¬ p.toList = [46] ∧ ¬ p.toList = [46, 46]) := by
            by_cases h1 : p = ⟨#[]⟩
            · exact .inl ⟨by rw [h1]; rfl, .inl (by rw [h1, Lib.toList_data]; rfl)⟩
            · have n1 := some_ne (s := p) (fun h => h1 (empty_of h))
              by_cases h2 : p = ⟨#[46]⟩
              · exact .inl ⟨by rw [h2]; rfl, .inr (.inl ⟨n1, by rw [h2, Lib.toList_data]⟩)⟩
              · by_cases h3 : p = ⟨#[46, 46]⟩
                · exact .inl ⟨by rw [h3]; rfl, .inr (.inr ⟨n1, l_ne h2, by rw [h3, Lib.toList_data]⟩)⟩
                · exact .inr ⟨dots_false h1 h2 h3, n1, l_ne h2, l_ne h3⟩
          rcases hcase with ⟨hd, d1 | ⟨d1, d2⟩ | ⟨d1, d2, d3⟩⟩ | ⟨hd, d1, d2, d3⟩
          all_goals
            have DZ := Lib.hid hd
            clear hd
            go_wp2_with (fail)
            go_loop [5, 33] (fun v i => ∃ j : Nat, v = .bool (oddTo p j) ∧ i = .int .i64 j ∧ j ≤ p.size) (fun _ i => p.size - (intOf i).toNat)
            case atStart => exact ⟨0, by first | (rw [oddTo_zero, DZ.out]; done) | (rw [oddTo_zero, DZ.out]; simp [d2, d3]), rfl, by omega⟩
            case round =>
              obtain ⟨j, rfl, rfl, hj⟩ := hrel
              by_cases hjl : j < p.size
              · have hjI : (j : Int) < (p.size : Int) := by omega
                have O1 := Lib.hid (ON.out j hjl)
                cases eo : oddTo p j
                · rcases pr_cases2 (p[j]'hjl) with ⟨hb, g1, g2⟩ | ⟨hb, g⟩
                  · have HB := Lib.hid hb
                    clear hb
                    go_wp2_with (fail)
                    go_round
                    case rel => exact ⟨j + 1, by rw [O1.out, eo, HB.out]; rfl, by go_num, by omega⟩
                    case measure => simp [intOf]; omega
                  · have HB := Lib.hid hb
                    clear hb
                    rcases g with g1 | ⟨g1, g2⟩
                    all_goals
                      go_wp2_with (fail)
                      go_round
                      case rel => exact ⟨j + 1, by rw [O1.out, eo, HB.out]; rfl, by go_num, by omega⟩
                      case measure => simp [intOf]; omega
                · go_wp2_with (fail)
                  go_round
                  case rel => exact ⟨j + 1, by rw [O1.out, eo]; rfl, by go_num, by omega⟩
                  case measure => simp [intOf]; omega
              · obtain rfl : j = p.size := by omega
                cases eo : oddTo p p.size
                · have hp : partOk (tl p) = true := by rw [OE.out] at eo; simpa using eo
                  have NX1 := Lib.hid (NX.out hp)
                  clear hp
                  go_wp2_with (fail)
                  go_round
                  case rel => exact ⟨k + 1, by go_num, by omega, NX1.out⟩
                  case measure => simp [intOf]; omega
                · have hp : partOk (tl p) = false := by rw [OE.out] at eo; simpa using eo
                  have B2 := Lib.hid (B1.out hp)
                  clear hp
                  go_wp2_with (fail)
                  go_ret
                  exact ⟨ret_int B2.out, BW.out⟩
        · obtain rfl : k = P.length := by omega
          go_wp2_with (fail)
          go_ret
          exact ⟨ret_int (OK.out (fun j hj h => HA.out j hj h)), BW.out⟩
def good (l : List UInt8) : Bool := (splitB 47 l).all partOk
end Go.Proofs.YtifiipmmgnmciaaGreatDoor.Lg
/- LgNum, what a claim needs of it (prune.py). -/
namespace Go.Proofs.YtifiipmmgnmciaaGreatDoor.Lg
open Go.RowKit
set_option linter.unusedVariables false
set_option maxRecDepth 100000
def Env (w : World) : Prop :=
  (∃ m, w.cell? ⟨2, 0, none⟩ = some (.int .i64 m)) ∧ Lib.TabIs Tryz.prog w "internal/strconv.uint64pow10" .u64 Lib.pow10Tab ∧ Lib.TabIs Tryz.prog w "strings.asciiSpace" .u8 Lib.asciiSpaceTab ∧
  (∃ t p, w.cell? ⟨5, 0, none⟩ = some (.iface t p)) ∧ (∃ t p, w.cell? ⟨6, 0, none⟩ = some (.iface t p))
theorem cell_lt {w : World} {a : Addr} {v : Value} (h : w.cell? a = some v) : a.block < w.heap.size := by
  unfold World.cell? at h
  rcases Nat.lt_or_ge a.block w.heap.size with h1 | h1
  · exact h1
  · rw [Array.getElem?_eq_none h1] at h; cases h
theorem Env.below {w w' : World} (h : Env w) (hb : Below w.heap.size w w') : Env w' := by
  obtain ⟨⟨m, h1⟩, h2, h3, ⟨t, p, h4⟩, ⟨t', p', h5⟩⟩ := h
  exact ⟨⟨m, (hb.cell (cell_lt h1)).trans h1⟩, Lib.tabBelow_of_tabIs h2 w' hb, Lib.tabBelow_of_tabIs h3 w' hb, ⟨t, p, (hb.cell (cell_lt h4)).trans h4⟩, ⟨t', p', (hb.cell (cell_lt h5)).trans h5⟩⟩
theorem atoi_two {s : List UInt8} {n : Nat} (h : number s = some n) : Lib.atoiAll s = .ok (n : Int) := by
  have hd := number_some h
  match s, h with
  | [c], h =>
    simp only [number] at h
    split at h
    · next hc =>
      injection h with h
      subst h
      rw [Lib.atoiAll_short _ (by simp)]
      have n1 : (c == 45) = false := by simp; intro e; subst e; simp at hc
      have n2 : (c == 43) = false := by simp; intro e; subst e; simp at hc
      simp only [Lib.atoi, n1, n2, Lib.decNat, Lib.decFrom, Lib.digitVal, hc]
      simp [Lib.NumEnd.ofOption]
    · cases h
  | [c, d], h =>
    simp only [number] at h
    split at h
    · next hc =>
      injection h with h
      subst h
      rw [Lib.atoiAll_short _ (by simp)]
      have n1 : (c == 45) = false := by simp; intro e; subst e; simp at hc
      have n2 : (c == 43) = false := by simp; intro e; subst e; simp at hc
      have hc1 : 48 ≤ c.toNat ∧ c.toNat ≤ 57 := by omega
      simp only [Lib.atoi, n1, n2, Lib.decNat, Lib.decFrom, Lib.digitVal, hc.2.2, hc1]
      simp [Lib.NumEnd.ofOption]
      omega
    · cases h
def TimesSays (s : List UInt8) (e : Ending) : Prop := ∃ n : Int, e = .returned (.tuple #[.int .i64 n, .bool (number s).isSome]) ∧ ∀ k, number s = some k → n = k
set_option maxHeartbeats 1000000 in
theorem times_any (s : ByteArray) (hs : s.size ≤ 1000000000) (w : World) (hE : Env w) :
    Calls Tryz.prog 168 #[.string s] w fun e w' => TimesSays (tl s) e ∧ Below w.heap.size w w' := by
  cases hn : number (tl s) with
  | some n =>
    obtain ⟨h1, h2⟩ := number_some hn
    have AT := Lib.hid (Tryz.strconv_Atoi_ok s (by omega) n (atoi_two hn) w)
    have IT : Hid (∀ W, Calls Tryz.prog 180 #[.int .i64 n] W fun e w' => e = .returned (.string s) ∧ W = w') := Lib.hid (fun W => (Tryz.strconv_Itoa_small n h1 W).mono (fun e w' ⟨h3, h4⟩ => ⟨by rw [h3, h2], h4.symm⟩))
    have FIN : Hid (TimesSays (tl s) (.returned (.tuple #[.int .i64 n, .bool true]))) := Lib.hid ⟨n, by rw [hn]; rfl, fun k hk => by rw [hn] at hk; injection hk with hk; rw [hk]⟩
    have e1 : (0 : Int) ≤ (n : Int) := by omega
    have e2 : (n : Int) ≤ 99 := by omega
    have e3 : (s.toList == s.toList) = true := by simp
    clear hn h2
    go_enter Tryz.func168, Tryz.ntmps168
    go_wp2_with (go_at_call 225; ((with_reducible refine (AT.out).mono ?_); rintro e w1 ⟨rfl, hw1⟩))
    have B1 : Hid (Below w.heap.size w w1) := Lib.hid (by
      rcases hw1 with rfl | ⟨t, rfl⟩
      · exact Below.refl _ _
      · exact Lib.bytesWorld_below _ _ _)
    clear hw1
    go_wp2_with (go_at_call 180; ((with_reducible refine (IT.out _).mono ?_); rintro e w2 ⟨rfl, rfl⟩))
    go_ret2
    exact ⟨FIN.out, B1.out⟩
  | none =>
    have FIN : Hid (∀ n : Int, TimesSays (tl s) (.returned (.tuple #[.int .i64 n, .bool false]))) := Lib.hid fun n => ⟨n, by rw [hn]; rfl, fun k hk => by rw [hn] at hk; cases hk⟩
    have NO : Hid (∀ v : Int, 0 ≤ v → v ≤ 99 → (⟨(Lib.itoa v).toArray⟩ : ByteArray) ≠ s) := Lib.hid fun v h0 h1 e => by
      obtain ⟨n, rfl⟩ : ∃ n : Nat, v = n := ⟨v.toNat, by omega⟩
      rw [itoa_nat'] at e
      have h2 := number_dec (n := n) (by omega)
      rw [← e] at hn
      have h3 : tl (⟨(Lib.decDigits n).toArray⟩ : ByteArray) = Lib.decDigits n := rfl
      rw [h3, h2] at hn
      cases hn
    clear hn
    obtain ⟨_, hT, _, ⟨t1, p1, hS⟩, ⟨t2, p2, hR⟩⟩ := hE
    rcases ha : Lib.atoiAll (tl s) with v | _ | _
    · skip
      have hb := Lib.atoiAll_bounds ha
      have AT := Lib.hid (Tryz.strconv_Atoi_ok s (by omega) v ha w)
      have IT : Hid (∀ W, Below w.heap.size w W → Calls Tryz.prog 180 #[.int .i64 v] W fun e w' => e = .returned (.string ⟨(Lib.itoa v).toArray⟩) ∧ Below W.heap.size W w') := Lib.hid (fun W hW => (Tryz.strconv_Itoa v hb.1 hb.2 W (Lib.tabBelow_of_tabIs hT W hW)).mono (fun e w' ⟨h3, k, os, h4⟩ => ⟨h3, by rw [h4]; exact Lib.below_grow _ _ (Nat.le_refl _) _ _⟩))
      clear ha hT hS hR hb
      go_enter Tryz.func168, Tryz.ntmps168
      go_wp2_with (go_at_call 225; ((with_reducible refine (AT.out).mono ?_); rintro e w1 ⟨rfl, hw1⟩))
      have B1 : Hid (Below w.heap.size w w1) := Lib.hid (by
        rcases hw1 with rfl | ⟨t, rfl⟩
        · exact Below.refl _ _
        · exact Lib.bytesWorld_below _ _ _)
      clear hw1
      have I1 := Lib.hid (IT.out w1 B1.out)
      by_cases h0 : 0 ≤ v
      · by_cases h9 : v ≤ 99
        · have e1 := s_ne (NO.out v h0 h9)
          generalize (⟨(Lib.itoa v).toArray⟩ : ByteArray) = sv at *
          go_wp2_with (go_at_call 180; ((with_reducible refine (I1.out).mono ?_); rintro e w2 ⟨rfl, hw2⟩))
          go_ret2
          exact ⟨FIN.out _, B1.out.trans (hw2.mono B1.out.size)⟩
        · by_cases he : (⟨(Lib.itoa v).toArray⟩ : ByteArray) = s
          · have e3 : (s.toList == s.toList) = true := by simp
            rw [he] at I1
            clear he
            go_wp2_with (go_at_call 180; ((with_reducible refine (I1.out).mono ?_); rintro e w2 ⟨rfl, hw2⟩))
            go_ret2
            refine ⟨?_, B1.out.trans (hw2.mono B1.out.size)⟩
            show TimesSays (tl s) (.returned (.tuple #[.int .i64 v, .bool (decide (v ≤ 99))]))
            rw [decide_eq_false (by omega : ¬ v ≤ 99)]
            exact FIN.out _
          · have e1 := s_ne he
            clear he
            generalize (⟨(Lib.itoa v).toArray⟩ : ByteArray) = sv at *
            go_wp2_with (go_at_call 180; ((with_reducible refine (I1.out).mono ?_); rintro e w2 ⟨rfl, hw2⟩))
            go_ret2
            exact ⟨FIN.out _, B1.out.trans (hw2.mono B1.out.size)⟩
      · by_cases he : (⟨(Lib.itoa v).toArray⟩ : ByteArray) = s
        · have e3 : (s.toList == s.toList) = true := by simp
          rw [he] at I1
          clear he
          go_wp2_with (go_at_call 180; ((with_reducible refine (I1.out).mono ?_); rintro e w2 ⟨rfl, hw2⟩))
          go_ret2
          exact ⟨FIN.out _, B1.out.trans (hw2.mono B1.out.size)⟩
        · have e1 := s_ne he
          clear he
          generalize (⟨(Lib.itoa v).toArray⟩ : ByteArray) = sv at *
          go_wp2_with (go_at_call 180; ((with_reducible refine (I1.out).mono ?_); rintro e w2 ⟨rfl, hw2⟩))
          go_ret2
          exact ⟨FIN.out _, B1.out.trans (hw2.mono B1.out.size)⟩
    · skip
      have AT := Lib.hid (Tryz.strconv_Atoi_syntax s (by omega) ha _ w hS (.inr ⟨t1, p1, rfl⟩))
      clear ha hT hS hR
      go_enter Tryz.func168, Tryz.ntmps168
      go_wp2_with (go_at_call 225; ((with_reducible refine (AT.out).mono ?_); rintro e w1 ⟨N, rfl, _, _, hb⟩))
      go_ret2
      exact ⟨FIN.out _, hb⟩
    · skip
      have AT := Lib.hid (Tryz.strconv_Atoi_range s (by omega) ha _ w hR (.inr ⟨t2, p2, rfl⟩))
      clear ha hT hS hR
      go_enter Tryz.func168, Tryz.ntmps168
      go_wp2_with (go_at_call 225; ((with_reducible refine (AT.out).mono ?_); rintro e w1 ⟨N, rfl, _, _, hb⟩))
      go_ret2
      exact ⟨FIN.out _, hb⟩
end Go.Proofs.YtifiipmmgnmciaaGreatDoor.Lg
/- LgMix, what a claim needs of it (prune.py). -/
namespace Go.Proofs.YtifiipmmgnmciaaGreatDoor
open Go
set_option linter.unusedVariables false
section
variable {P : Program} {ops : Array Oper} {Q : Exit → Act → World → Prop} {C : World → Prop}
theorem yieldsIn_of {o : Oper} {v : Value} {a : Act} (h : Yields P ops o v a) : YieldsIn P ops C o v a := by
  rcases h with ⟨hw, h⟩ | h
  · refine .inl ⟨hw, fun w _ => ?_⟩
    unfold Oper.quietAt
    rw [h w]
    exact ⟨rfl, rfl⟩
  · exact .inr h
theorem yields_same {o : Oper} {v : Value} {a a' : Act} (hy : Yields P ops o v a) (he : execOp a'.eval o = execOp a.eval o)
    (hw : Region.wanted o (yielded ops a'.tmps) = Region.wanted o (yielded ops a.tmps)) : Yields P ops o v a' := by
  unfold Yields at *
  rw [he, hw]
  exact hy
theorem qOp_putY {j : Nat} {oi oj : Oper} {v : Value} (hj : ops[j]? = some oj) (hap : oi.apart ops oj = true)
    (hsi : ∀ cs b, oi.op ≠ .select cs b) (hsj : ∀ cs b, oj.op ≠ .select cs b) {K : Act → Prop} {a : Act}
    (hy : Yields P ops oi v a) (h : qOp P ops C j K (a.put oi.dst v)) :
    qOp P ops C j (fun a' => Yields P ops oi v a' ∧ K (a'.put oi.dst v)) a := by
  obtain ⟨h1, h2, h3⟩ := Oper.apart_spec hap
  have keep : ∀ (a : Act), Yields P ops oi v a → ∀ u, Yields P ops oi v (a.put oj.dst u) := fun a hy u =>
    yields_same hy (execOp_put oi hsi a oj.dst u h3) (wanted_put oi a oj.dst u h3)
  unfold qOp at *
  simp only [hj] at *
  rw [wanted_put oj a oi.dst v h1] at h
  split
  · rename_i hw
    simp only [hw, if_true] at h
    obtain ⟨u, hu, hn⟩ := h
    refine ⟨u, fun w hw' => ?_, keep a hy u, by rw [← Act.put_comm a v u h2]; exact hn⟩
    have := hu w hw'
    unfold Oper.quietAt at *
    rwa [execOp_put oj hsj a oi.dst v h1] at this
  · rename_i hw
    simp only [hw] at h
    exact ⟨keep a hy _, by rw [← Act.put_comm a v undef h2]; exact h⟩
theorem wpAnyM_firstY {n i : Nat} {oi : Oper} {v : Value} (hi : ops[i]? = some oi) (hsel : ∀ (j : Nat) (o : Oper) cs b, ops[j]? = some o → o.op ≠ .select cs b)
    (hQ : ∀ c a w, Q (.panic c) (a.put oi.dst v) w → Q (.panic c) a w) (hin : i ≠ n) :
    ∀ (f : Nat) (listed : Array Bool) (a : Act),
      (∀ j oj, ops[j]? = some oj → j ≠ i → listed.getD j true = false → (∀ e ∈ oj.after, Region.binds .any e = true → e.on ≠ i) → oi.apart ops oj = true) →
      i ∈ Region.ready .any ops listed → Yields P ops oi v a →
      wpAnyM P ops Q C n f (listed.setIfInBounds i true) (a.put oi.dst v) → wpAnyM P ops Q C n (f + 1) listed a := by
  intro f
  induction f with
  | zero => intro listed a _ _ _ H; exact H.elim
  | succ f ih =>
    intro listed a hfree hr hy H
    have hun := (mem_ready.1 hr).1
    refine ⟨fun h => (by rw [h] at hr; cases hr), fun j hj => ?_⟩
    obtain ⟨hjun, oj, hoj, hall⟩ := mem_ready.1 hj
    by_cases hji : j = i
    · subst hji
      rw [if_neg hin]
      exact (yieldsIn_of hy).qOp hi H
    have hnot : ∀ e ∈ oj.after, Region.binds .any e = true → e.on ≠ i := fun e he hb heq => by
      have h1 := hall e he hb
      rw [heq, getD_both hun] at h1
      cases h1
    have hap := hfree j oj hoj hji hjun hnot
    have hfree' : ∀ k ok, ops[k]? = some ok → k ≠ i → (listed.setIfInBounds j true).getD k true = false →
        (∀ e ∈ ok.after, Region.binds .any e = true → e.on ≠ i) → oi.apart ops ok = true := fun k ok hk hki hun hno => by
      refine hfree k ok hk hki ?_ hno
      by_cases hjk : j = k
      · subst hjk; exact hjun
      · rw [getD_set_ne true hjk] at hun; exact hun
    have h1 := H.2 j (ready_mono hj hji)
    by_cases hjn : j = n
    · subst hjn
      rw [if_pos rfl] at h1 ⊢
      intro w hw
      have h2 := wpOp_put hoj hap (fun cs b => hsel i oi cs b hi) (fun cs b => hsel j oj cs b hoj) hQ hy (h1 w hw)
      refine wpOp_mono (fun a' w' h3 => wpAny_first hi hsel hQ f _ a' w' hfree' (ready_mono hr (Ne.symm hji)) h3.1 ?_) h2
      rw [Array.setIfInBounds_comm _ _ hji]
      exact h3.2
    · rw [if_neg hjn] at h1 ⊢
      have h2 := qOp_putY hoj hap (fun cs b => hsel i oi cs b hi) (fun cs b => hsel j oj cs b hoj) hy h1
      refine qOp_mono (fun a' h3 => ih (listed.setIfInBounds j true) a' hfree' (ready_mono hr (Ne.symm hji)) h3.1 ?_) h2
      rw [Array.setIfInBounds_comm _ _ hji]
      exact h3.2
def wpQ2 (P : Program) (ops : Array Oper) (C : World → Prop) (m : Nat) (Lq : Act → Prop) : Nat → List Oper → Act → Prop
  | _, [], a => Lq a
  | k, o :: l, a => ∃ v, (if k < m then YieldsIn P ops C o v a else Yields P ops o v a) ∧ wpQ2 P ops C m Lq (k + 1) l (a.put o.dst v)
def wpLate (P : Program) (ops : Array Oper) (Lq : Act → Prop) : List Oper → Act → Prop
  | [], a => Lq a
  | o :: l, a => ∃ v, Yields P ops o v a ∧ wpLate P ops Lq l (a.put o.dst v)
theorem wpQ2_late {m : Nat} {Lq : Act → Prop} : ∀ (l : List Oper) (k : Nat) (a : Act), m ≤ k → wpLate P ops Lq l a → wpQ2 P ops C m Lq k l a
  | [], _, _, _, h => h
  | o :: l, k, a, hk, ⟨v, h1, h2⟩ => ⟨v, by rw [if_neg (by omega)]; exact h1, wpQ2_late l (k + 1) _ (by omega) h2⟩
theorem wpQ2_of {m : Nat} {Lq : Act → Prop} (l2 : List Oper) : ∀ (l1 : List Oper) (k : Nat) (a : Act), k + l1.length = m → (∀ j, j < l1.length → l1[j]? = ops[k + j]?) →
    wpQuiet P ops C (fun a1 => wpLate P ops Lq l2 a1) l1 a → wpQ2 P ops C m Lq k (l1 ++ l2) a
  | [], k, a, hk, _, h => wpQ2_late l2 k a (by simp at hk; omega) h
  | o :: l1, k, a, hk, hl, h => by
    have h0 : ops[k]? = some o := by simpa using (hl 0 (by simp)).symm
    simp only [List.length_cons] at hk
    have hst : qOp P ops C k (wpQuiet P ops C (fun a1 => wpLate P ops Lq l2 a1) l1) a := by unfold qOp; simp only [h0]; exact h
    obtain ⟨v, hy, hK⟩ := yieldsIn_of_qOp h0 hst
    exact ⟨v, by rw [if_pos (by omega)]; exact hy, wpQ2_of l2 l1 (k + 1) _ (by omega) (fun j hj => by have := hl (j + 1) (by simp; omega); simpa [Nat.add_assoc, Nat.add_comm 1 j] using this) hK⟩
def lateB (ops : Array Oper) (m n : Nat) : Bool :=
  Region.noSelect ops && decide (m ≤ n) && decide (n < ops.size) && ((List.range m).all fun i => ((ops[i]?).map mover).getD false || leads ops n n i) && Region.lexHead .any ops (ops.size - n) n 0 (Array.replicate ops.size false)
theorem wpAnyM_lexY {n m g : Nat} {Lq : Act → Prop} (hmn : m ≤ n) (hsel : Region.noSelect ops = true) (hh : ((List.range m).all fun i => ((ops[i]?).map mover).getD false || leads ops n n i) = true)
    (hQ : ∀ c a d v w, Q (.panic c) (a.put d v) w → Q (.panic c) a w) (w0 : World) (hw0 : C w0)
    (hend : ∀ listed a, Region.seqB .any ops (g + 1) n listed = true → Lq a → wpAnyM P ops Q C n (g + 1) listed a) :
    ∀ (l : List Oper) (k : Nat) (listed : Array Bool) (a : Act), Closed ops listed → (∀ j, j < l.length → l[j]? = ops[k + j]?) → k + l.length = n →
    Region.lexHead .any ops (g + 1) l.length k listed = true → wpQ2 P ops C m Lq k l a → wpAnyM P ops Q C n (l.length + (g + 1)) listed a
  | [], k, listed, a, _, _, hk, hB, h => by
    have : k = n := by simpa using hk
    subst this
    rw [show ([] : List Oper).length + (g + 1) = g + 1 by simp]
    exact hend listed a (by simpa [Region.lexHead] using hB) h
  | o :: l, k, listed, a, hcl, hl, hk, hB, h => by
    have h0 : ops[k]? = some o := by simpa using (hl 0 (by simp)).symm
    simp only [List.length_cons, Region.lexHead, Bool.and_eq_true] at hB
    obtain ⟨⟨hr, hf⟩, hB'⟩ := hB
    have hkn : k < n := by simp only [List.length_cons] at hk; omega
    have hr' : k ∈ Region.ready .any ops listed := by simpa using hr
    obtain ⟨v, hy, hK⟩ := h
    rw [show (o :: l).length + (g + 1) = (l.length + (g + 1)) + 1 by simp only [List.length_cons]; omega]
    have hrest := wpAnyM_lexY hmn hsel hh hQ w0 hw0 hend l (k + 1) (listed.setIfInBounds k true) (a.put o.dst v) (hcl.set hr') (fun j hj => by have := hl (j + 1) (by simp; omega); simpa [Nat.add_assoc, Nat.add_comm 1 j] using this) (by simp only [List.length_cons] at hk; omega) hB' hK
    by_cases hkm : k < m
    · rw [if_pos hkm] at hy
      have hk' : leads ops n n k = true ∨ mover o = true := by
        have := List.all_eq_true.1 hh k (List.mem_range.2 hkm)
        simpa [h0, or_comm] using this
      exact wpAnyM_first h0 (Region.noSelect_spec hsel) (fun c a w => hQ c a _ _ w) (by omega) w0 hw0 n hk' (l.length + (g + 1)) listed a hcl (Region.free_spec h0 hf) hr' hy hrest
    · rw [if_neg hkm] at hy
      exact wpAnyM_firstY h0 (Region.noSelect_spec hsel) (fun c a w => hQ c a _ _ w) (by omega) (l.length + (g + 1)) listed a (Region.free_spec h0 hf) hr' hy hrest
theorem wp_region_late {id : Nat} {a : Act} {w : World} {l : List Oper} (m n : Nat) (hm : P.follows .mixedOrders = true) (hB : lateB l.toArray m n = true)
    (hQ : ∀ c a d v w, Q (.panic c) (a.put d v) w → Q (.panic c) a w) (hC : C w.drew)
    (h : wpQuiet P l.toArray C (fun a1 => wpLate P l.toArray (fun a' => ∀ w', C w' → wpList P l.toArray Q (l.drop n) a' w') ((l.take n).drop m) a1) ((l.take n).take m) a) : (Code.region id l.toArray true).wp P Q a w := by
  simp only [lateB, Bool.and_eq_true, decide_eq_true_eq] at hB
  obtain ⟨⟨⟨⟨hsel, hmn⟩, hn⟩, hh⟩, hlex⟩ := hB
  have hn' : n < l.length := by simpa using hn
  have htl : (l.take n).length = n := by simp; omega
  obtain ⟨g, hg⟩ : ∃ g, l.toArray.size - n = g + 1 := ⟨l.toArray.size - n - 1, by simp at hn ⊢; omega⟩
  rw [hg] at hlex
  refine wp_region_any hm (wpAny_of_M (C := C) (n := n) _ _ _ _ hC ?_)
  have hq := wpQ2_of (P := P) (ops := l.toArray) (C := C) (m := m) ((l.take n).drop m) ((l.take n).take m) 0 a (by simp; omega) (fun j hj => by
    have hj' : j < m := by simp at hj; omega
    have hj2 : j < n := by omega
    simp [hj', hj2]) h
  rw [List.take_append_drop] at hq
  have H := wpAnyM_lexY (P := P) (Q := Q) (C := C) (g := g) hmn hsel hh hQ _ hC (fun listed a' hs hL => ?_) (l.take n) 0 _ a (fun j oj _ hl => (by rw [getD_replicate_false] at hl; cases hl)) (fun j hj => by
    have hj' : j < n := by rw [htl] at hj; exact hj
    simp [hj']) (by simpa using htl) (by rw [htl]; exact hlex) hq
  · rw [htl, show n + (g + 1) = l.toArray.size by omega] at H
    exact H
  · have hd : (l.drop n).length = g + 1 := by simp at hg ⊢; omega
    simp only [Region.seqB, Bool.and_eq_true, decide_eq_true_eq] at hs
    refine ⟨fun h0 => (by rw [hs.1] at h0; cases h0), fun i hi => ?_⟩
    rw [hs.1] at hi
    have hin : i = n := by simpa using hi
    subst hin
    rw [if_pos rfl]
    intro w1 hw1
    have hs' : Region.seqB .any l.toArray (l.drop i).length i listed = true := by
      rw [hd]; simp only [Region.seqB, Bool.and_eq_true, decide_eq_true_eq]; exact hs
    have := wpAny_of_seq (P := P) (md := .any) (Q' := Q) (l.drop i) i listed a' w1 (fun j => by simp [List.getElem?_drop]) hs' (hL w1 hw1)
    rw [hd] at this
    exact this.2 i (by rw [hs.1]; simp)
end
end Go.Proofs.YtifiipmmgnmciaaGreatDoor
/- LgLaw, what a claim needs of it (prune.py). -/
namespace Go.Proofs.YtifiipmmgnmciaaGreatDoor.Lg
set_option linter.unusedVariables false
theorem bk_lines : ∀ (k deep : Nat) (out o : List Stp) (lines r : List B), lines.length ≤ k → bk deep out lines = .ok o r →
    ∃ l, o = out ++ l ∧ lines = linesOf l ++ (if 0 < deep then endW :: r else []) ∧ (deep = 0 → r = [])
  | k, deep, out, o, [], r, hk, h => by
    rw [bk_nil] at h
    split at h
    · cases h
    · next hd =>
      cases h
      exact ⟨[], by simp, by simp [linesOf, hd], fun _ => rfl⟩
  | 0, deep, out, o, line :: rest, r, hk, h => absurd hk (by simp)
  | k + 1, deep, out, o, line :: rest, r, hk, h => by
    simp only [List.length_cons] at hk
    rw [bk_cons] at h
    split at h
    · next e =>
      split at h
      · next hd =>
        cases h
        exact ⟨[], by simp, by simp [linesOf, hd, e], fun h0 => by omega⟩
      · cases h
    · split at h
      · cases h
      · next op args n e =>
        obtain ⟨_, _, _, _, hl⟩ := stepOf_says e
        split at h
        · next hb =>
          split at h
          · cases h
          · split at h
            · cases h
            · next inn rest' e2 =>
              have hle := bk_le e2
              obtain ⟨l1, h1, h2, _⟩ := bk_lines k (deep + 1) [] _ rest _ (by omega) e2
              obtain ⟨l2, h3, h4, h5⟩ := bk_lines k deep _ _ rest' _ (by omega) h
              have h1 : inn = l1 := by simpa using h1
              subst h1
              refine ⟨⟨op, args, n, inn⟩ :: l2, by simp [h3], ?_, h5⟩
              rw [if_pos (by omega)] at h2
              rw [linesOf, if_pos hb, ← hl, h2, h4]
              simp
        · next hb =>
          obtain ⟨l2, h3, h4, h5⟩ := bk_lines k deep _ _ rest _ (by omega) h
          refine ⟨⟨op, args, n, []⟩ :: l2, by simp [h3], ?_, h5⟩
          rw [linesOf, if_neg hb, ← hl, h4]
          simp
theorem bk_err : ∀ (k deep : Nat) (out : List Stp) (lines : List B) (e : Nat), lines.length ≤ k → bk deep out lines = .err e → e ≠ 0
  | k, deep, out, [], e, hk, h => by
    rw [bk_nil] at h
    split at h <;> cases h
    omega
  | 0, deep, out, line :: rest, e, hk, h => absurd hk (by simp)
  | k + 1, deep, out, line :: rest, e, hk, h => by
    simp only [List.length_cons] at hk
    rw [bk_cons] at h
    split at h
    · split at h <;> cases h
      omega
    · split at h
      · cases h; omega
      · split at h
        · split at h
          · cases h; omega
          · split at h
            · next e2 => cases h; exact bk_err k _ _ rest _ (by omega) e2
            · next e2 =>
              have hle := bk_le e2
              exact bk_err k _ _ _ _ (by omega) h
        · exact bk_err k _ _ rest _ (by omega) h
theorem flat_join : ∀ {l : List B}, l ≠ [] → l.flatMap (fun s => s ++ [10]) = joinB 10 l ++ [10]
  | [], h => absurd rfl h
  | [x], _ => by simp [joinB]
  | x :: y :: r, _ => by
    rw [List.flatMap_cons, flat_join (by simp), joinB]
    simp
theorem last_nl {c : B} (h0 : c ≠ []) (h : ¬ c.getLast? ≠ some 10) : c = c.dropLast ++ [10] := by
  have h1 : c.getLast? = some 10 := Classical.byContradiction h
  rw [List.getLast?_eq_some_getLast h0] at h1
  injection h1 with h1
  rw [← h1, List.dropLast_concat_getLast]
theorem parse_print {cmd : B} {m : List Stp} (h : parse cmd = (m, 0)) : print m = cmd := by
  unfold parse at h
  rcases ite_or h with ⟨_, h⟩ | ⟨_, h⟩
  · cases h
  rcases ite_or h with ⟨rfl, h⟩ | ⟨h0, h⟩
  · cases h; simp [print, linesOf]
  rcases ite_or h with ⟨_, h⟩ | ⟨hl, h⟩
  · cases h
  rcases ite_or h with ⟨_, h⟩ | ⟨_, h⟩
  · cases h
  cases e : bk 0 [] (splitB 10 cmd.dropLast) with
  | err k => 
    simp only [e, Prod.mk.injEq] at h
    obtain ⟨rfl, rfl⟩ := h
    exact absurd rfl (bk_err _ _ _ _ _ (Nat.le_refl _) e)
  | ok o r =>
    simp only [e, Prod.mk.injEq, and_true] at h
    subst h
    obtain ⟨l, h1, h2, _⟩ := bk_lines _ _ _ _ _ _ (Nat.le_refl _) e
    have h1 : o = l := by simpa using h1
    subst h1
    simp only [Nat.lt_irrefl, if_false, List.append_nil] at h2
    rw [print, ← h2, flat_join (splitB_ne _ _), join_split, ← last_nl h0 hl]
theorem parse_ok {cmd : B} {m : List Stp} (h : parse cmd = (m, 0)) : (cmd = [] ∧ m = []) ∨ (cmd ≠ [] ∧ cmd.length ≤ 8192 ∧ cmd = cmd.dropLast ++ [10] ∧ ∃ r, bk 0 [] (splitB 10 cmd.dropLast) = .ok m r) := by
  unfold parse at h
  rcases ite_or h with ⟨_, h⟩ | ⟨hb, h⟩
  · cases h
  rcases ite_or h with ⟨rfl, h⟩ | ⟨h0, h⟩
  · cases h; exact .inl ⟨rfl, rfl⟩
  rcases ite_or h with ⟨_, h⟩ | ⟨hl, h⟩
  · cases h
  rcases ite_or h with ⟨_, h⟩ | ⟨_, h⟩
  · cases h
  cases e : bk 0 [] (splitB 10 cmd.dropLast) with
  | err k =>
    simp only [e, Prod.mk.injEq] at h
    obtain ⟨rfl, rfl⟩ := h
    exact absurd rfl (bk_err _ _ _ _ _ (Nat.le_refl _) e)
  | ok o r =>
    simp only [e, Prod.mk.injEq, and_true] at h
    subst h
    exact .inr ⟨h0, by omega, last_nl h0 hl, r, rfl⟩
theorem parse_no {cmd : B} (h : (parse cmd).2 ≠ 0) : (parse cmd).1 = [] := by
  rcases hp : parse cmd with ⟨m, e⟩
  rw [hp] at h
  unfold parse at hp
  rcases ite_or hp with ⟨_, hp⟩ | ⟨_, hp⟩
  · cases hp; rfl
  rcases ite_or hp with ⟨_, hp⟩ | ⟨_, hp⟩
  · cases hp; rfl
  rcases ite_or hp with ⟨_, hp⟩ | ⟨_, hp⟩
  · cases hp; rfl
  rcases ite_or hp with ⟨_, hp⟩ | ⟨_, hp⟩
  · cases hp; rfl
  cases e2 : bk 0 [] (splitB 10 cmd.dropLast) with
  | err k => simp only [e2, Prod.mk.injEq] at hp; exact hp.1.symm
  | ok o r => simp only [e2, Prod.mk.injEq] at hp; exact absurd hp.2.symm h
def Res.pre (out : List Stp) : Res → Res
  | .ok o r => .ok (out ++ o) r
  | .err e => .err e
end Go.Proofs.YtifiipmmgnmciaaGreatDoor.Lg
