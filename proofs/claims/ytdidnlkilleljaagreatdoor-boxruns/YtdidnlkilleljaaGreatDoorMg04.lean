/- Joined by mkmerged.py: LgSplit, LgLaw, LgMach. -/
import Derived.Test.YtdidnlkilleljaaGreatDoorMg01
import Derived.Test.YtdidnlkilleljaaGreatDoorMg03
import Derived.Lib.SplitLaws
import Derived.Shelf.Strings.PiecesUse
/- LgSplit, what a claim needs of it (prune.py). -/
namespace Go.Proofs.YtdidnlkilleljaaGreatDoor.Lg
open Go.RowKit
set_option linter.unusedVariables false
set_option maxRecDepth 100000
theorem split_one (c : UInt8) : ∀ s : List UInt8, Lib.splitK [c] 0 (Lib.count s [c]) s = splitB c s
  | [] => by rw [Lib.count_one]; rfl
  | b :: r => by
    have ih := split_one c r
    by_cases h : b = c
    · subst h
      have hix : Lib.index (b :: r) [b] = 0 := by rw [Lib.index]; simp [List.isPrefixOf]
      rw [Lib.count_cons_eq, Nat.add_comm 1, Lib.splitK, hix, splitB, if_pos rfl, ← ih]
      simp
    · have hp : ([c] : List UInt8).isPrefixOf (b :: r) = false := by simp [List.isPrefixOf, Ne.symm h]
      have hix : Lib.index (b :: r) [c] = if Lib.index r [c] == -1 then -1 else Lib.index r [c] + 1 := by rw [Lib.index, hp]; simp
      rw [Lib.count_cons_ne b c r h, splitB, if_neg h, ← ih]
      by_cases hm : Lib.index r [c] = -1
      · rw [Lib.count_miss hm]; rfl
      · have hge := Lib.index_ge r [c]
        obtain ⟨j, hj⟩ : ∃ j : Nat, Lib.index r [c] = j := ⟨(Lib.index r [c]).toNat, by omega⟩
        have hc := Lib.count_hit (by simp : [c] ≠ ([] : List UInt8)) hj
        rw [hc, Nat.add_comm 1, Lib.splitK, Lib.splitK]
        have hm1 : (Lib.index r [c] == -1) = false := by simp [hm]
        rw [hm1] at hix ⊢
        have hm2 : (Lib.index (b :: r) [c] == -1) = false := by rw [hix]; simp; omega
        rw [hm2]
        simp only [Bool.false_eq_true, if_false] at hix ⊢
        have e1 : (Lib.index (b :: r) [c]).toNat = j + 1 := by rw [hix, hj]; omega
        have e2 : (Lib.index r [c]).toNat = j := by rw [hj]; rfl
        rw [e1, e2]
        simp
def pieces (c : UInt8) (s : ByteArray) : List ByteArray := (splitB c (tl s)).map bs
theorem map_tl_bs (l : List (List UInt8)) : (l.map bs).map tl = l := by simp [List.map_map, Function.comp_def, tl, bs]
theorem map_bs_tl (l : List ByteArray) : (l.map tl).map bs = l := by
  rw [List.map_map]
  conv => rhs; rw [← List.map_id l]
  rfl
theorem splitB_pieces (c : UInt8) (s : ByteArray) : Lib.splitB ⟨#[c]⟩ 0 (Lib.countB s ⟨#[c]⟩) s = pieces c s := by
  have h := Lib.splitB_data ⟨#[c]⟩ 0 (Lib.countB s ⟨#[c]⟩) s
  have h2 : Lib.countB s ⟨#[c]⟩ = Lib.count (tl s) [c] := rfl
  rw [h2] at h ⊢
  have h3 : (Lib.splitB ⟨#[c]⟩ 0 (Lib.count (tl s) [c]) s).map tl = splitB c (tl s) := by rw [← split_one]; exact h
  rw [pieces, ← h3, map_bs_tl]
theorem pieces_ne (c : UInt8) (s : ByteArray) : pieces c s ≠ [] := by simp [pieces, splitB_ne]
theorem pieces_len (c : UInt8) (s : ByteArray) : (pieces c s).length ≤ s.size + 1 := by
  have := split_len c (tl s)
  rw [tl_len] at this
  simpa [pieces] using this
theorem pieces_count (c : UInt8) (s : ByteArray) : Lib.countB s ⟨#[c]⟩ + 1 = (pieces c s).length := by
  rw [← splitB_pieces, Lib.splitB_all ⟨#[c]⟩ (by show 1 ≤ 1; omega) 0 _ s rfl]
theorem pieces_part (c : UInt8) (s : ByteArray) : ∀ p ∈ pieces c s, p.size ≤ s.size := by
  intro p hp
  obtain ⟨q, hq, rfl⟩ := List.mem_map.1 hp
  have := split_part c (tl s) q hq
  rw [tl_len] at this
  rw [← tl_len, tl_bs]; exact this
theorem Strs.new (w : World) (l : List ByteArray) (t : TypeId) : Strs (w.alloc (.cells (l.map Value.string).toArray t)) (some ⟨w.heap.size, 0, none⟩) l := by
  refine ⟨by simp, fun hn => ⟨_, rfl, by simp, fun j u hu => ?_⟩⟩
  rw [List.getElem?_map] at hu
  obtain ⟨x, hx, rfl⟩ := Option.map_eq_some_iff.1 hu
  have h : (⟨w.heap.size, 0, none⟩ : Addr).add j = ⟨w.heap.size, j, none⟩ := by
    unfold Addr.add; split <;> simp_all
  rw [h]; exact Lib.pieces_cell_at w l t j x hx
theorem split_any (s : ByteArray) (c : UInt8) (m : Int) (w : World) (hs : s.size ≤ 1000000000) (hm : w.cell? ⟨2, 0, none⟩ = some (.int .i64 m)) :
    Calls Tryz.prog 84 #[.string s, .string ⟨#[c]⟩] w fun e w' => e = .returned (.slice (some ⟨w.heap.size, 0, none⟩) (pieces c s).length (pieces c s).length) ∧ w' = w.alloc (.cells ((pieces c s).map Value.string).toArray 9) := by
  refine (Tryz.strings_Split s ⟨#[c]⟩ m w (by omega) hm (by show 1 ≤ 1; omega)).mono ?_
  rintro e w' ⟨h1, h2⟩
  rw [splitB_pieces] at h2
  rw [pieces_count] at h1
  exact ⟨h1, h2⟩
end Go.Proofs.YtdidnlkilleljaaGreatDoor.Lg
namespace Go.Proofs.YtdidnlkilleljaaGreatDoor.Lg
open Go.RowKit
set_option linter.unusedVariables false
set_option maxRecDepth 100000
theorem l_ne {a : ByteArray} {l : List UInt8} (h : a ≠ bs l) : ¬ a.toList = l := by
  rw [Lib.toList_data]
  exact fun e => h (tl_inj e)
def dots (p : ByteArray) : Bool := (tl p).isEmpty || tl p == [46] || tl p == [46, 46]
def oddTo (p : ByteArray) (j : Nat) : Bool := dots p || !((tl p).take j).all printable
theorem oddTo_zero (p : ByteArray) : oddTo p 0 = dots p := by simp [oddTo]
theorem oddTo_next {p : ByteArray} {j : Nat} (hj : j < p.size) : oddTo p (j + 1) = (oddTo p j || !printable (p[j]'hj)) := by
  simp only [oddTo, all_next hj, Bool.not_and, Bool.or_assoc]
theorem oddTo_end (p : ByteArray) : oddTo p p.size = !partOk (tl p) := by
  simp only [oddTo, take_all, dots, partOk, Bool.not_and, Bool.not_not]
  cases (tl p).all printable <;> cases (tl p).isEmpty <;> cases tl p == [46] <;> cases tl p == [46, 46] <;> rfl
def pathE (s : List UInt8) : Int := if pathOk s = true then 0 else 13
theorem pathE_no {s : ByteArray} (h : s.size < 1 ∨ 48 < s.size) : pathE (tl s) = 13 := by
  have : pathOk (tl s) = false := by
    have e : (decide (1 ≤ s.size) && decide (s.size ≤ 48)) = false := by
      simp only [Bool.and_eq_false_iff, decide_eq_false_iff_not]; omega
    unfold pathOk
    rw [tl_len, e]; rfl
  rw [pathE, this]; rfl
theorem pieces_get {c : UInt8} {s : ByteArray} {k : Nat} (hk : k < (pieces c s).length) : (splitB c (tl s))[k]? = some (tl ((pieces c s)[k]'hk)) := by
  have hk' : k < (splitB c (tl s)).length := by simpa [pieces] using hk
  rw [List.getElem?_eq_getElem hk']
  simp [pieces, tl_bs]
theorem pathE_bad {s : ByteArray} {k : Nat} (hk : k < (pieces 47 s).length) (h : partOk (tl ((pieces 47 s)[k]'hk)) = false) : pathE (tl s) = 13 := by
  have : pathOk (tl s) = false := by
    cases e : pathOk (tl s) with
    | false => rfl
    | true =>
      simp only [pathOk, Bool.and_eq_true, List.all_eq_true] at e
      have := e.2 _ (List.mem_of_getElem? (pieces_get hk))
      rw [h] at this; cases this
  rw [pathE, this]; rfl
theorem pathE_ok {s : ByteArray} (h1 : 1 ≤ s.size) (h2 : s.size ≤ 48) (h : ∀ j (hj : j < (pieces 47 s).length), j < (pieces 47 s).length → partOk (tl ((pieces 47 s)[j]'hj)) = true) : pathE (tl s) = 0 := by
  have : pathOk (tl s) = true := by
    have ha : (splitB 47 (tl s)).all partOk = true := by
      rw [List.all_eq_true]
      intro x hx
      obtain ⟨j, hj⟩ := List.mem_iff_getElem?.1 hx
      obtain ⟨hj', e⟩ := List.getElem?_eq_some_iff.1 hj
      have hj2 : j < (pieces 47 s).length := by simpa [pieces] using hj'
      have := pieces_get hj2
      rw [hj] at this
      injection this with this
      rw [this]
      exact h j hj2 hj2
    rw [pathOk, ha, tl_len]; simp; omega
  rw [pathE, this]; rfl
theorem upto_next {l : List ByteArray} {p : ByteArray → Bool} {k : Nat} (hk : k < l.length) (h : ∀ j (hj : j < l.length), j < k → p l[j] = true) (h2 : p l[k] = true) : ∀ j (hj : j < l.length), j < k + 1 → p l[j] = true := by
  intro j hj hlt
  rcases Nat.lt_or_ge j k with h3 | h3
  · exact h j hj h3
  · obtain rfl : j = k := by omega
    exact h2
theorem dots_false {p : ByteArray} (h1 : p ≠ ⟨#[]⟩) (h2 : p ≠ ⟨#[46]⟩) (h3 : p ≠ ⟨#[46, 46]⟩) : dots p = false := by
  unfold dots
  rw [Bool.or_eq_false_iff, Bool.or_eq_false_iff, beq_eq_false_iff_ne, beq_eq_false_iff_ne]
  refine ⟨⟨?_, fun e => h2 (tl_inj e)⟩, fun e => h3 (tl_inj e)⟩
  cases e : tl p with
  | nil => exact absurd (tl_inj e) h1
  | cons a l => rfl
theorem pr_cases2 (c : UInt8) : (printable c = true ∧ ¬ (c.toNat : Int) ≤ 32 ∧ ¬ (126 : Int) < c.toNat) ∨ (printable c = false ∧ ((c.toNat : Int) ≤ 32 ∨ (¬ (c.toNat : Int) ≤ 32 ∧ (126 : Int) < c.toNat))) := by
  unfold printable
  generalize c.toNat = n
  simp only [Bool.and_eq_true, decide_eq_true_eq, Bool.and_eq_false_iff, decide_eq_false_iff_not]
  omega
set_option maxHeartbeats 4000000 in
theorem ppath_any (s : ByteArray) (m : Int) (w : World) (hs : s.size ≤ 1000000000) (hm : w.cell? ⟨2, 0, none⟩ = some (.int .i64 m)) :
    Calls Tryz.prog 47 #[.string s] w fun e w' => e = .returned (.int .i64 (pathE (tl s))) ∧ Below w.heap.size w w' := by
  by_cases h0 : s.size = 0
  · have HN := Lib.hid (pathE_no (s := s) (.inl (by omega)))
    obtain rfl := empty_of h0
    go_enter Tryz.func47, Tryz.ntmps47
    go_wp2_with (fail)
    go_ret
    exact ⟨ret_int HN.out, Below.refl _ _⟩
  · have hne := some_ne h0
    by_cases h16 : (48 : Int) < (s.size : Int)
    · have HN := Lib.hid (pathE_no (s := s) (.inr (by omega)))
      go_enter Tryz.func47, Tryz.ntmps47
      go_wp2_with (fail)
      go_ret
      exact ⟨ret_int HN.out, Below.refl _ _⟩
    · have OK := Lib.hid (pathE_ok (s := s) (by omega) (by omega))
      have BAD : Hid (∀ k (hk : k < (pieces 47 s).length), partOk (tl ((pieces 47 s)[k]'hk)) = false → pathE (tl s) = 13) := Lib.hid (fun k hk h => pathE_bad hk h)
      have SP := Lib.hid (split_any s 47 m w hs hm)
      have hpl : (pieces 47 s).length ≤ 1000000001 := by have := pieces_len 47 s; omega
      have PS : Hid (∀ k (hk : k < (pieces 47 s).length) p, p = (pieces 47 s)[k]'hk → p.size ≤ 1000000000) := Lib.hid (fun k hk p e => by
        have := pieces_part 47 s _ (List.getElem_mem hk)
        rw [e]; omega)
      have CL := Lib.hid (Strs.new w (pieces 47 s) 9)
      have BW : Hid (Below w.heap.size w (w.alloc (.cells ((pieces 47 s).map Value.string).toArray 9))) := Lib.hid ((Below.refl _ _).alloc (Nat.le_refl _) _)
      go_enter Tryz.func47, Tryz.ntmps47
      go_wp2_with (go_at_call 84; ((with_reducible refine (SP.out).mono ?_); rintro e w1 ⟨rfl, rfl⟩))
      generalize w.alloc (.cells ((pieces 47 s).map Value.string).toArray 9) = W1 at *
      generalize pieces 47 s = P at *
      go_loop [17] (fun i => ∃ k : Nat, i = .int .i64 k ∧ k ≤ P.length ∧ ∀ j (hj : j < P.length), j < k → partOk (tl P[j]) = true) (fun i => P.length - (intOf i).toNat)
      case atStart => exact ⟨0, rfl, by omega, fun j _ h => by omega⟩
      case round =>
        obtain ⟨k, rfl, hk, ha⟩ := hrel
        have HA := Lib.hid ha
        clear ha
        by_cases hlt : k < P.length
        · have hkI : (k : Int) < (P.length : Int) := by omega
          obtain ⟨ad, ead, _, hc⟩ := CL.out.at_ hlt
          injection ead with ead
          subst ead
          have c0 : W1.cell? ⟨w.heap.size, k, none⟩ = some (.string P[k]) := by
            have : (⟨w.heap.size, 0, none⟩ : Addr).add k = ⟨w.heap.size, k, none⟩ := by unfold Addr.add; split <;> simp_all
            rw [← this]; exact hc
          clear hc
          have B1 := Lib.hid (BAD.out k hlt)
          have NX := Lib.hid (upto_next (p := fun p => partOk (tl p)) hlt HA.out)
          obtain ⟨p, ep⟩ : ∃ p, p = P[k] := ⟨_, rfl⟩
          rw [← ep] at c0 B1 NX
          have ON : Hid (∀ j (hj : j < p.size), oddTo p (j + 1) = (oddTo p j || !printable (p[j]'hj))) := Lib.hid (fun j hj => oddTo_next hj)
          have OE := Lib.hid (oddTo_end p)
          have hps : p.size ≤ 1000000000 := PS.out _ hlt _ ep
          clear ep
          have hcase : (dots p = true ∧ (p.toList.isEmpty = true ∨ (p.toList.isEmpty = false ∧ p.toList = [46]) ∨ (p.toList.isEmpty = false ∧ ¬ p.toList = [46] ∧ p.toList = [46, 46]))) ∨ (dots p = false ∧ p.toList.isEmpty = false ∧ ¬ p.toList = [46] ∧ ¬ p.toList = [46, 46]) := by
            by_cases h1 : p = ⟨#[]⟩
            · exact .inl ⟨by rw [h1]; rfl, .inl (by rw [h1, Lib.toList_data]; rfl)⟩
            · have n1 := some_ne (s := p) (fun h => h1 (empty_of h))
              by_cases h2 : p = ⟨#[46]⟩
              · exact .inl ⟨by rw [h2]; rfl, .inr (.inl ⟨n1, by rw [h2, Lib.toList_data]⟩)⟩
              · by_cases h3 : p = ⟨#[46, 46]⟩
                · exact .inl ⟨by rw [h3]; rfl, .inr (.inr ⟨n1, l_ne h2, by rw [h3, Lib.toList_data]⟩)⟩
                · exact .inr ⟨dots_false h1 h2 h3, n1, l_ne h2, l_ne h3⟩
          rcases hcase with ⟨hd, d1 | ⟨d1, d2⟩ | ⟨d1, d2, d3⟩⟩ | ⟨hd, d1, d2, d3⟩
          all_goals
            have DZ := Lib.hid hd
            clear hd
            go_wp2_with (fail)
            go_loop [5, 33] (fun v i => ∃ j : Nat, v = .bool (oddTo p j) ∧ i = .int .i64 j ∧ j ≤ p.size) (fun _ i => p.size - (intOf i).toNat)
            case atStart => exact ⟨0, by first | (rw [oddTo_zero, DZ.out]; done) | (rw [oddTo_zero, DZ.out]; simp [d2, d3]), rfl, by omega⟩
            case round =>
              obtain ⟨j, rfl, rfl, hj⟩ := hrel
              by_cases hjl : j < p.size
              · have hjI : (j : Int) < (p.size : Int) := by omega
                have O1 := Lib.hid (ON.out j hjl)
                cases eo : oddTo p j
                · rcases pr_cases2 (p[j]'hjl) with ⟨hb, g1, g2⟩ | ⟨hb, g⟩
                  · have HB := Lib.hid hb
                    clear hb
                    go_wp2_with (fail)
                    go_round
                    case rel => exact ⟨j + 1, by rw [O1.out, eo, HB.out]; rfl, by go_num, by omega⟩
                    case measure => simp [intOf]; omega
                  · have HB := Lib.hid hb
                    clear hb
                    rcases g with g1 | ⟨g1, g2⟩
                    all_goals
                      go_wp2_with (fail)
                      go_round
                      case rel => exact ⟨j + 1, by rw [O1.out, eo, HB.out]; rfl, by go_num, by omega⟩
                      case measure => simp [intOf]; omega
                · go_wp2_with (fail)
                  go_round
                  case rel => exact ⟨j + 1, by rw [O1.out, eo]; rfl, by go_num, by omega⟩
                  case measure => simp [intOf]; omega
              · obtain rfl : j = p.size := by omega
                cases eo : oddTo p p.size
                · have hp : partOk (tl p) = true := by rw [OE.out] at eo; simpa using eo
                  have NX1 := Lib.hid (NX.out hp)
                  clear hp
                  go_wp2_with (fail)
                  go_round
                  case rel => exact ⟨k + 1, by go_num, by omega, NX1.out⟩
                  case measure => simp [intOf]; omega
                · have hp : partOk (tl p) = false := by rw [OE.out] at eo; simpa using eo
                  have B2 := Lib.hid (B1.out hp)
                  clear hp
                  go_wp2_with (fail)
                  go_ret
                  exact ⟨ret_int B2.out, BW.out⟩
        · obtain rfl : k = P.length := by omega
          go_wp2_with (fail)
          go_ret
          exact ⟨ret_int (OK.out (fun j hj h => HA.out j hj h)), BW.out⟩
def good (l : List UInt8) : Bool := (splitB 47 l).all partOk
theorem split_pre {c : UInt8} {p : List UInt8} (h : c ∉ p) (s : List UInt8) : ∃ hd t, splitB c s = hd :: t ∧ splitB c (p ++ s) = (p ++ hd) :: t := by
  induction p with
  | nil =>
    cases e : splitB c s with
    | nil => exact absurd e (splitB_ne c s)
    | cons a b => exact ⟨a, b, rfl, by simpa using e⟩
  | cons x p ih =>
    obtain ⟨hd, t, h1, h2⟩ := ih (fun e => h (List.mem_cons_of_mem _ e))
    have hx : x ≠ c := fun e => h (by simp [e])
    exact ⟨hd, t, h1, by rw [List.cons_append, splitB, if_neg hx, h2]; rfl⟩
def RInv (s : ByteArray) (a i : Nat) : Prop :=
  a ≤ i ∧ i ≤ s.size + 1 ∧ (i ≤ s.size → good (tl s) = good ((tl s).drop a) ∧ ∀ c ∈ ((tl s).drop a).take (i - a), c ≠ 47 ∧ printable c = true) ∧ (i = s.size + 1 → good (tl s) = true)
theorem RInv.zero (s : ByteArray) : RInv s 0 0 := ⟨by omega, by omega, fun _ => ⟨by simp, by simp⟩, fun h => by omega⟩
theorem drop_at {s : ByteArray} {a i : Nat} (hai : a ≤ i) (hi : i < s.size) : (tl s).drop a = ((tl s).drop a).take (i - a) ++ s[i]'hi :: (tl s).drop (i + 1) := by
  have h1 : ((tl s).drop a).drop (i - a) = (tl s).drop i := by rw [List.drop_drop, Nat.add_sub_cancel' hai]
  have h2 : (tl s).drop i = s[i]'hi :: (tl s).drop (i + 1) := by
    have hl : i < (tl s).length := by rw [tl_len]; exact hi
    rw [List.drop_eq_getElem_cons hl]; first | done | rfl
  conv => lhs; rw [← List.take_append_drop (i - a) ((tl s).drop a), h1, h2]
theorem extract_tl (s : ByteArray) (a i : Nat) : tl (s.extract a i) = ((tl s).drop a).take (i - a) := by
  simp only [tl]; rw [Lib.extract_data]; try simp [List.drop_take]
theorem RInv.plain {s : ByteArray} {a i : Nat} (h : RInv s a i) (hi : i < s.size) (h1 : s[i]'hi ≠ 47) (h2 : printable (s[i]'hi) = true) : RInv s a (i + 1) := by
  obtain ⟨ha, _, hg, _⟩ := h
  obtain ⟨g1, g2⟩ := hg (by omega)
  refine ⟨by omega, by omega, fun _ => ⟨g1, fun c hc => ?_⟩, fun h => by omega⟩
  have e : i + 1 - a = (i - a) + 1 := by omega
  have hl : ((tl s).drop a)[i - a]? = some (s[i]'hi) := by
    rw [List.getElem?_drop, show a + (i - a) = i by omega]; exact tl_get hi
  rw [e, List.take_add_one, hl] at hc
  rcases List.mem_append.1 hc with hc | hc
  · exact g2 c hc
  · have : c = s[i]'hi := by simpa using hc
    rw [this]; exact ⟨h1, h2⟩
theorem good_pathE {s : ByteArray} (h1 : 1 ≤ s.size) (h2 : s.size ≤ 48) : pathE (tl s) = if good (tl s) = true then 0 else 13 := by
  have : pathOk (tl s) = good (tl s) := by
    rw [pathOk, tl_len, good]
    have e : (decide (1 ≤ s.size) && decide (s.size ≤ 48)) = true := by simp; omega
    rw [e]; rfl
  rw [pathE, this]
theorem RInv.bad {s : ByteArray} {a i : Nat} (h : RInv s a i) (hi : i < s.size) (h1 : s[i]'hi ≠ 47) (h2 : printable (s[i]'hi) = false) : good (tl s) = false := by
  obtain ⟨ha, _, hg, _⟩ := h
  obtain ⟨g1, g2⟩ := hg (by omega)
  rw [g1, drop_at ha hi]
  have hn : (47 : UInt8) ∉ ((tl s).drop a).take (i - a) ++ [s[i]'hi] := by
    intro hm
    rcases List.mem_append.1 hm with hm | hm
    · exact (g2 _ hm).1 rfl
    · exact h1 (List.mem_singleton.1 hm).symm
  obtain ⟨hd, t, _, e⟩ := split_pre hn ((tl s).drop (i + 1))
  rw [List.append_assoc] at e
  simp only [List.singleton_append] at e
  rw [good, e, List.all_cons]
  have : partOk (((tl s).drop a).take (i - a) ++ [s[i]'hi] ++ hd) = false := by
    simp [partOk, h2]
  rw [List.append_assoc] at this
  simp only [List.singleton_append, List.append_assoc] at this ⊢
  rw [this]; rfl
theorem part_dots {p : ByteArray} (h : ∀ c ∈ tl p, c ≠ 47 ∧ printable c = true) : partOk (tl p) = !dots p := by
  have ha : (tl p).all printable = true := List.all_eq_true.2 fun c hc => (h c hc).2
  rw [partOk, ha, dots]
  cases (tl p).isEmpty <;> cases tl p == [46] <;> cases tl p == [46, 46] <;> rfl
theorem RInv.part {s : ByteArray} {a i : Nat} (h : RInv s a i) (hi : i ≤ s.size) (h1 : ∀ hk : i < s.size, s[i]'hk = 47) :
    (dots (s.extract a i) = true → good (tl s) = false) ∧ (dots (s.extract a i) = false → RInv s (i + 1) (i + 1)) := by
  obtain ⟨ha, _, hg, _⟩ := h
  obtain ⟨g1, g2⟩ := hg hi
  have hp := part_dots (p := s.extract a i) (by rw [extract_tl]; exact g2)
  rw [extract_tl] at hp
  rcases Nat.lt_or_ge i s.size with hlt | hge
  · have e := drop_at ha hlt
    rw [h1 hlt] at e
    have e2 : good ((tl s).drop a) = (partOk (((tl s).drop a).take (i - a)) && good ((tl s).drop (i + 1))) := by
      conv => lhs; rw [e, good, split_app (fun hm => (g2 _ hm).1 rfl), List.all_cons]
      rfl
    refine ⟨fun h => by rw [g1, e2, hp, h]; rfl, fun h => ⟨by omega, by omega, fun _ => ⟨by rw [g1, e2, hp, h]; simp, by simp⟩, fun h2 => by omega⟩⟩
  · obtain rfl : i = s.size := by omega
    have e : ((tl s).drop a).take (s.size - a) = (tl s).drop a := List.take_of_length_le (by rw [List.length_drop, tl_len]; exact Nat.le_refl _)
    rw [e] at hp g2
    have e2 : good ((tl s).drop a) = partOk ((tl s).drop a) := by
      rw [good, split_free (fun hm => (g2 _ hm).1 rfl)]; simp
    refine ⟨fun h => by rw [g1, e2, hp, h]; rfl, fun h => ⟨by omega, by omega, fun h2 => by omega, fun _ => ?_⟩⟩
    rw [g1, e2, hp, h]; rfl
theorem rpath_any (s : ByteArray) (hs : s.size ≤ 1000000000) (w : World) :
    Calls Tryz.prog 71 #[.string s] w fun e w' => e = .returned (.int .i64 (pathE (tl s))) ∧ w = w' := by
  by_cases h0 : (s.size : Int) < 1
  · have HN := Lib.hid (pathE_no (s := s) (.inl (by omega)))
    go_enter Tryz.func71, Tryz.ntmps71
    go_wp2_with (fail)
    go_ret
    exact ⟨ret_int HN.out, rfl⟩
  · by_cases h16 : (48 : Int) < (s.size : Int)
    · have HN := Lib.hid (pathE_no (s := s) (.inr (by omega)))
      go_enter Tryz.func71, Tryz.ntmps71
      go_wp2_with (fail)
      go_ret
      exact ⟨ret_int HN.out, rfl⟩
    · have GE := Lib.hid (good_pathE (s := s) (by omega) (by omega))
      go_enter Tryz.func71, Tryz.ntmps71
      go_wp2_with (fail)
      go_loop [3, 4] (fun x i => ∃ a k : Nat, x = .int .i64 a ∧ i = .int .i64 k ∧ RInv s a k) (fun _ i => s.size + 1 - (intOf i).toNat)
      case atStart => exact ⟨0, 0, rfl, rfl, RInv.zero s⟩
      case round =>
        obtain ⟨a, k, rfl, rfl, hr⟩ := hrel
        have hak := hr.1
        have hks := hr.2.1
        have HR := Lib.hid hr
        clear hr
        have hakI : (a : Int) ≤ (k : Int) := by omega
        have hdots : ∀ p : ByteArray, (dots p = true ∧ (p.toList.isEmpty = true ∨ (p.toList.isEmpty = false ∧ p.toList = [46]) ∨ (p.toList.isEmpty = false ∧ ¬ p.toList = [46] ∧ p.toList = [46, 46]))) ∨ (dots p = false ∧ p.toList.isEmpty = false ∧ ¬ p.toList = [46] ∧ ¬ p.toList = [46, 46]) := by
          intro p
          by_cases h1 : p = ⟨#[]⟩
          · exact .inl ⟨by rw [h1]; rfl, .inl (by rw [h1, Lib.toList_data]; rfl)⟩
          · have n1 := some_ne (s := p) (fun h => h1 (empty_of h))
            by_cases h2 : p = ⟨#[46]⟩
            · exact .inl ⟨by rw [h2]; rfl, .inr (.inl ⟨n1, by rw [h2, Lib.toList_data]⟩)⟩
            · by_cases h3 : p = ⟨#[46, 46]⟩
              · exact .inl ⟨by rw [h3]; rfl, .inr (.inr ⟨n1, l_ne h2, by rw [h3, Lib.toList_data]⟩)⟩
              · exact .inr ⟨dots_false h1 h2 h3, n1, l_ne h2, l_ne h3⟩
        rcases Nat.lt_or_ge k s.size with hlt | hge
        · have hkI : (k : Int) < (s.size : Int) := by omega
          have hkL : (k : Int) ≤ (s.size : Int) := by omega
          by_cases h47 : s[k]'hlt = 47
          · have PT := Lib.hid (HR.out.part (by omega) (fun _ => h47))
            have g47 : ((s[k]'hlt).toNat : Int) = 47 := by rw [h47]; rfl
            clear h47
            have HD := hdots (s.extract a k)
            clear hdots
            rcases HD with ⟨hd, hc⟩ | ⟨hd, d1, d2, d3⟩
            · have F := Lib.hid (PT.out.1 hd)
              clear hd PT
              rcases hc with d1 | ⟨d1, d2⟩ | ⟨d1, d2, d3⟩
              all_goals
                go_wp2_with (fail)
                go_ret
                exact ⟨ret_int (by rw [GE.out, F.out]; rfl), rfl⟩
            · have F := Lib.hid (PT.out.2 hd)
              have d4 : ((s.extract a k).toList == [46]) = false := by simpa using d2
              have d5 : ((s.extract a k).toList == [46, 46]) = false := by simpa using d3
              clear hd PT 
              go_wp2_with (fail)
              go_round
              case rel => exact ⟨k + 1, k + 1, by go_num, by go_num, F.out⟩
              case measure => simp [intOf]; omega
          · have g47 : ((s[k]'hlt).toNat : Int) ≠ 47 := fun e => h47 (UInt8.toNat_inj.1 (by have : (47 : UInt8).toNat = 47 := rfl; omega))
            clear hdots
            rcases pr_cases (s[k]'hlt) with ⟨hb, g1, g2⟩ | ⟨hb, g⟩
            · have F := Lib.hid (HR.out.plain hlt h47 hb)
              clear hb h47
              go_wp2_with (fail)
              go_round
              case rel => exact ⟨a, k + 1, rfl, by go_num, F.out⟩
              case measure => simp [intOf]; omega
            · have F := Lib.hid (HR.out.bad hlt h47 hb)
              clear hb h47
              rcases g with g1 | ⟨g1, g2⟩
              all_goals
                go_wp2_with (fail)
                go_ret
                exact ⟨ret_int (by rw [GE.out, F.out]; rfl), rfl⟩
        · by_cases hk : k = s.size
          · subst hk
            have PT := Lib.hid (HR.out.part (by omega) (fun h => by omega))
            have HD := hdots (s.extract a s.size)
            clear hdots
            rcases HD with ⟨hd, hc⟩ | ⟨hd, d1, d2, d3⟩
            · have F := Lib.hid (PT.out.1 hd)
              clear hd PT
              rcases hc with d1 | ⟨d1, d2⟩ | ⟨d1, d2, d3⟩
              all_goals
                go_wp2_with (fail)
                go_ret
                exact ⟨ret_int (by rw [GE.out, F.out]; rfl), rfl⟩
            · have F := Lib.hid (PT.out.2 hd)
              have d4 : ((s.extract a s.size).toList == [46]) = false := by simpa using d2
              have d5 : ((s.extract a s.size).toList == [46, 46]) = false := by simpa using d3
              clear hd PT 
              go_wp2_with (fail)
              go_round
              case rel => exact ⟨s.size + 1, s.size + 1, by go_num, by go_num, F.out⟩
              case measure => simp [intOf] <;> omega
          · obtain rfl : k = s.size + 1 := by omega
            have F := Lib.hid (HR.out.2.2.2 rfl)
            have hkL : ¬ ((s.size + 1 : Nat) : Int) ≤ (s.size : Int) := by omega
            clear hdots
            go_wp2_with (fail)
            go_ret
            exact ⟨ret_int (by rw [GE.out, F.out]; rfl), rfl⟩
end Go.Proofs.YtdidnlkilleljaaGreatDoor.Lg
/- LgLaw, what a claim needs of it (prune.py). -/
namespace Go.Proofs.YtdidnlkilleljaaGreatDoor.Lg
set_option linter.unusedVariables false
theorem bk_lines : ∀ (k deep : Nat) (out o : List Stp) (lines r : List B), lines.length ≤ k → bk deep out lines = .ok o r →
    ∃ l, o = out ++ l ∧ lines = linesOf l ++ (if 0 < deep then endW :: r else []) ∧ (deep = 0 → r = [])
  | k, deep, out, o, [], r, hk, h => by
    rw [bk_nil] at h
    split at h
    · cases h
    · next hd =>
      cases h
      exact ⟨[], by simp, by simp [linesOf, hd], fun _ => rfl⟩
  | 0, deep, out, o, line :: rest, r, hk, h => absurd hk (by simp)
  | k + 1, deep, out, o, line :: rest, r, hk, h => by
    simp only [List.length_cons] at hk
    rw [bk_cons] at h
    split at h
    · next e =>
      split at h
      · next hd =>
        cases h
        exact ⟨[], by simp, by simp [linesOf, hd, e], fun h0 => by omega⟩
      · cases h
    · split at h
      · cases h
      · next op args n e =>
        obtain ⟨_, _, _, _, hl⟩ := stepOf_says e
        split at h
        · next hb =>
          split at h
          · cases h
          · split at h
            · cases h
            · next inn rest' e2 =>
              have hle := bk_le e2
              obtain ⟨l1, h1, h2, _⟩ := bk_lines k (deep + 1) [] _ rest _ (by omega) e2
              obtain ⟨l2, h3, h4, h5⟩ := bk_lines k deep _ _ rest' _ (by omega) h
              have h1 : inn = l1 := by simpa using h1
              subst h1
              refine ⟨⟨op, args, n, inn⟩ :: l2, by simp [h3], ?_, h5⟩
              rw [if_pos (by omega)] at h2
              rw [linesOf, if_pos hb, ← hl, h2, h4]
              simp
        · next hb =>
          obtain ⟨l2, h3, h4, h5⟩ := bk_lines k deep _ _ rest _ (by omega) h
          refine ⟨⟨op, args, n, []⟩ :: l2, by simp [h3], ?_, h5⟩
          rw [linesOf, if_neg hb, ← hl, h4]
          simp
theorem bk_err : ∀ (k deep : Nat) (out : List Stp) (lines : List B) (e : Nat), lines.length ≤ k → bk deep out lines = .err e → e ≠ 0
  | k, deep, out, [], e, hk, h => by
    rw [bk_nil] at h
    split at h <;> cases h
    omega
  | 0, deep, out, line :: rest, e, hk, h => absurd hk (by simp)
  | k + 1, deep, out, line :: rest, e, hk, h => by
    simp only [List.length_cons] at hk
    rw [bk_cons] at h
    split at h
    · split at h <;> cases h
      omega
    · split at h
      · cases h; omega
      · split at h
        · split at h
          · cases h; omega
          · split at h
            · next e2 => cases h; exact bk_err k _ _ rest _ (by omega) e2
            · next e2 =>
              have hle := bk_le e2
              exact bk_err k _ _ _ _ (by omega) h
        · exact bk_err k _ _ rest _ (by omega) h
theorem flat_join : ∀ {l : List B}, l ≠ [] → l.flatMap (fun s => s ++ [10]) = joinB 10 l ++ [10]
  | [], h => absurd rfl h
  | [x], _ => by simp [joinB]
  | x :: y :: r, _ => by
    rw [List.flatMap_cons, flat_join (by simp), joinB]
    simp
theorem last_nl {c : B} (h0 : c ≠ []) (h : ¬ c.getLast? ≠ some 10) : c = c.dropLast ++ [10] := by
  have h1 : c.getLast? = some 10 := Classical.byContradiction h
  rw [List.getLast?_eq_some_getLast h0] at h1
  injection h1 with h1
  rw [← h1, List.dropLast_concat_getLast]
theorem parse_print {cmd : B} {m : List Stp} (h : parse cmd = (m, 0)) : print m = cmd := by
  unfold parse at h
  rcases ite_or h with ⟨_, h⟩ | ⟨_, h⟩
  · cases h
  rcases ite_or h with ⟨rfl, h⟩ | ⟨h0, h⟩
  · cases h; simp [print, linesOf]
  rcases ite_or h with ⟨_, h⟩ | ⟨hl, h⟩
  · cases h
  rcases ite_or h with ⟨_, h⟩ | ⟨_, h⟩
  · cases h
  cases e : bk 0 [] (splitB 10 cmd.dropLast) with
  | err k => 
    simp only [e, Prod.mk.injEq] at h
    obtain ⟨rfl, rfl⟩ := h
    exact absurd rfl (bk_err _ _ _ _ _ (Nat.le_refl _) e)
  | ok o r =>
    simp only [e, Prod.mk.injEq, and_true] at h
    subst h
    obtain ⟨l, h1, h2, _⟩ := bk_lines _ _ _ _ _ _ (Nat.le_refl _) e
    have h1 : o = l := by simpa using h1
    subst h1
    simp only [Nat.lt_irrefl, if_false, List.append_nil] at h2
    rw [print, ← h2, flat_join (splitB_ne _ _), join_split, ← last_nl h0 hl]
theorem parse_ok {cmd : B} {m : List Stp} (h : parse cmd = (m, 0)) : (cmd = [] ∧ m = []) ∨ (cmd ≠ [] ∧ cmd.length ≤ 8192 ∧ cmd = cmd.dropLast ++ [10] ∧ ∃ r, bk 0 [] (splitB 10 cmd.dropLast) = .ok m r) := by
  unfold parse at h
  rcases ite_or h with ⟨_, h⟩ | ⟨hb, h⟩
  · cases h
  rcases ite_or h with ⟨rfl, h⟩ | ⟨h0, h⟩
  · cases h; exact .inl ⟨rfl, rfl⟩
  rcases ite_or h with ⟨_, h⟩ | ⟨hl, h⟩
  · cases h
  rcases ite_or h with ⟨_, h⟩ | ⟨_, h⟩
  · cases h
  cases e : bk 0 [] (splitB 10 cmd.dropLast) with
  | err k =>
    simp only [e, Prod.mk.injEq] at h
    obtain ⟨rfl, rfl⟩ := h
    exact absurd rfl (bk_err _ _ _ _ _ (Nat.le_refl _) e)
  | ok o r =>
    simp only [e, Prod.mk.injEq, and_true] at h
    subst h
    exact .inr ⟨h0, by omega, last_nl h0 hl, r, rfl⟩
theorem parse_no {cmd : B} (h : (parse cmd).2 ≠ 0) : (parse cmd).1 = [] := by
  rcases hp : parse cmd with ⟨m, e⟩
  rw [hp] at h
  unfold parse at hp
  rcases ite_or hp with ⟨_, hp⟩ | ⟨_, hp⟩
  · cases hp; rfl
  rcases ite_or hp with ⟨_, hp⟩ | ⟨_, hp⟩
  · cases hp; rfl
  rcases ite_or hp with ⟨_, hp⟩ | ⟨_, hp⟩
  · cases hp; rfl
  rcases ite_or hp with ⟨_, hp⟩ | ⟨_, hp⟩
  · cases hp; rfl
  cases e2 : bk 0 [] (splitB 10 cmd.dropLast) with
  | err k => simp only [e2, Prod.mk.injEq] at hp; exact hp.1.symm
  | ok o r => simp only [e2, Prod.mk.injEq] at hp; exact absurd hp.2.symm h
end Go.Proofs.YtdidnlkilleljaaGreatDoor.Lg
/- LgMach, what a claim needs of it (prune.py). -/
namespace Go.Proofs.YtdidnlkilleljaaGreatDoor.Lg
set_option linter.unusedVariables false
structure Frame where
  op : Int
  args : List B
  n : Int
  out : List Stp
def mach : List Frame → List Stp → List B → Res
  | fs, cur, [] => (match fs with
    | [] => .ok cur []
    | _ :: _ => .err 21)
  | fs, cur, line :: rest =>
    if line = endW then (match fs with
      | [] => .err 21
      | f :: fs => mach fs (f.out ++ [⟨f.op, f.args, f.n, cur⟩]) rest) else
    match stepOf line with
    | none => .err 20
    | some (op, args, n) =>
      if op = 9 ∨ op = 10 then
        if 4 ≤ fs.length then .err 22 else mach (⟨op, args, n, cur⟩ :: fs) [] rest
      else mach fs (cur ++ [⟨op, args, n, []⟩]) rest
def fin : List Frame → Res → Res
  | [], r => r
  | _ :: _, .err e => .err e
  | f :: fs, .ok inn rest => mach fs (f.out ++ [⟨f.op, f.args, f.n, inn⟩]) rest
theorem fin_err (fs : List Frame) (e : Nat) : fin fs (.err e) = .err e := by cases fs <;> rfl
theorem mach_nil (fs : List Frame) (cur : List Stp) : mach fs cur [] = (match fs with
    | [] => .ok cur []
    | _ :: _ => .err 21) := by rw [mach.eq_def]
theorem mach_cons (fs : List Frame) (cur : List Stp) (line : B) (rest : List B) : mach fs cur (line :: rest) =
    if line = endW then (match fs with
      | [] => .err 21
      | f :: fs => mach fs (f.out ++ [⟨f.op, f.args, f.n, cur⟩]) rest) else
    match stepOf line with
    | none => .err 20
    | some (op, args, n) =>
      if op = 9 ∨ op = 10 then
        if 4 ≤ fs.length then .err 22 else mach (⟨op, args, n, cur⟩ :: fs) [] rest
      else mach fs (cur ++ [⟨op, args, n, []⟩]) rest := by rw [mach.eq_def]
theorem mach_fin : ∀ (k : Nat) (fs : List Frame) (cur : List Stp) (lines : List B), lines.length ≤ k → mach fs cur lines = fin fs (bk fs.length cur lines)
  | k, [], cur, [], _ => by rw [bk_nil, mach_nil]; rfl
  | k, f :: fs, cur, [], _ => by rw [bk_nil, mach_nil, if_pos (by simp)]; rfl
  | 0, fs, cur, line :: rest, h => absurd h (by simp)
  | k + 1, fs, cur, line :: rest, h => by
    simp only [List.length_cons] at h
    rw [bk_cons, mach_cons]
    by_cases he : line = endW
    · rw [if_pos he, if_pos he]
      cases fs with
      | nil => simp [fin]
      | cons f fs => simp [fin]
    · rw [if_neg he, if_neg he]
      cases e : stepOf line with
      | none => simp only [fin_err]
      | some x =>
        obtain ⟨op, args, n⟩ := x
        simp only
        by_cases hb : op = 9 ∨ op = 10
        · rw [if_pos hb, if_pos hb]
          by_cases hd : 4 ≤ fs.length
          · rw [if_pos hd, if_pos hd, fin_err]
          · rw [if_neg hd, if_neg hd, mach_fin k _ _ rest (by omega), List.length_cons]
            cases e2 : bk (fs.length + 1) [] rest with
            | err e => rw [fin_err]; simp only [fin_err]
            | ok inn rest' =>
              have hle := bk_le e2
              rw [fin, mach_fin k fs _ rest' (by omega)]
        · rw [if_neg hb, if_neg hb]
          exact mach_fin k fs _ rest (by omega)
theorem mach_bk (lines : List B) : mach [] [] lines = bk 0 [] lines := mach_fin lines.length [] [] lines (Nat.le_refl _)
end Go.Proofs.YtdidnlkilleljaaGreatDoor.Lg
