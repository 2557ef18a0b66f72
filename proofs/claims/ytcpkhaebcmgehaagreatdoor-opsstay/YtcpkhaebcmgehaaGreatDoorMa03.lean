/- Joined by mkmerged.py: LgSplit, LgText, LgName. -/
import Derived.Test.YtcpkhaebcmgehaaGreatDoorShelf
import Derived.Test.YtcpkhaebcmgehaaGreatDoorMa02
import Derived.Lib.SplitLaws
import Derived.Shelf.Strings.PiecesUse
/- strings.Split at one byte in plain words, and how its pieces lie; the words of an environment. -/
namespace Go.Proofs.YtcpkhaebcmgehaaGreatDoor.Lg
open Go.RowKit
set_option linter.unusedVariables false
set_option maxRecDepth 100000
theorem split_one (c : UInt8) : ∀ s : List UInt8, Lib.splitK [c] 0 (Lib.count s [c]) s = splitB c s
  | [] => by rw [Lib.count_one]; rfl
  | b :: r => by
    have ih := split_one c r
    by_cases h : b = c
    · subst h
      have hix : Lib.index (b :: r) [b] = 0 := by rw [Lib.index]; simp [List.isPrefixOf]
      rw [Lib.count_cons_eq, Nat.add_comm 1, Lib.splitK, hix, splitB, if_pos rfl, ← ih]
      simp
    · have hp : ([c] : List UInt8).isPrefixOf (b :: r) = false := by simp [List.isPrefixOf, Ne.symm h]
      have hix : Lib.index (b :: r) [c] = if Lib.index r [c] == -1 then -1 else Lib.index r [c] + 1 := by rw [Lib.index, hp]; simp
      rw [Lib.count_cons_ne b c r h, splitB, if_neg h, ← ih]
      by_cases hm : Lib.index r [c] = -1
      · rw [Lib.count_miss hm]; rfl
      · have hge := Lib.index_ge r [c]
        obtain ⟨j, hj⟩ : ∃ j : Nat, Lib.index r [c] = j := ⟨(Lib.index r [c]).toNat, by omega⟩
        have hc := Lib.count_hit (by simp : [c] ≠ ([] : List UInt8)) hj
        rw [hc, Nat.add_comm 1, Lib.splitK, Lib.splitK]
        have hm1 : (Lib.index r [c] == -1) = false := by simp [hm]
        rw [hm1] at hix ⊢
        have hm2 : (Lib.index (b :: r) [c] == -1) = false := by rw [hix]; simp; omega
        rw [hm2]
        simp only [Bool.false_eq_true, if_false] at hix ⊢
        have e1 : (Lib.index (b :: r) [c]).toNat = j + 1 := by rw [hix, hj]; omega
        have e2 : (Lib.index r [c]).toNat = j := by rw [hj]; rfl
        rw [e1, e2]
        simp
/-- the pieces as texts -/
def pieces (c : UInt8) (s : ByteArray) : List ByteArray := (splitB c (tl s)).map bs
theorem map_tl_bs (l : List (List UInt8)) : (l.map bs).map tl = l := by simp [List.map_map, Function.comp_def, tl, bs]
theorem map_bs_tl (l : List ByteArray) : (l.map tl).map bs = l := by
  rw [List.map_map]
  conv => rhs; rw [← List.map_id l]
  rfl
theorem splitB_pieces (c : UInt8) (s : ByteArray) : Lib.splitB ⟨#[c]⟩ 0 (Lib.countB s ⟨#[c]⟩) s = pieces c s := by
  have h := Lib.splitB_data ⟨#[c]⟩ 0 (Lib.countB s ⟨#[c]⟩) s
  have h2 : Lib.countB s ⟨#[c]⟩ = Lib.count (tl s) [c] := rfl
  rw [h2] at h ⊢
  have h3 : (Lib.splitB ⟨#[c]⟩ 0 (Lib.count (tl s) [c]) s).map tl = splitB c (tl s) := by rw [← split_one]; exact h
  rw [pieces, ← h3, map_bs_tl]
theorem pieces_ne (c : UInt8) (s : ByteArray) : pieces c s ≠ [] := by simp [pieces, splitB_ne]
theorem pieces_len (c : UInt8) (s : ByteArray) : (pieces c s).length ≤ s.size + 1 := by
  have := split_len c (tl s)
  rw [tl_len] at this
  simpa [pieces] using this
theorem pieces_count (c : UInt8) (s : ByteArray) : Lib.countB s ⟨#[c]⟩ + 1 = (pieces c s).length := by
  rw [← splitB_pieces, Lib.splitB_all ⟨#[c]⟩ (by show 1 ≤ 1; omega) 0 _ s rfl]
theorem pieces_part (c : UInt8) (s : ByteArray) : ∀ p ∈ pieces c s, p.size ≤ s.size := by
  intro p hp
  obtain ⟨q, hq, rfl⟩ := List.mem_map.1 hp
  have := split_part c (tl s) q hq
  rw [tl_len] at this
  rw [← tl_len, tl_bs]; exact this
theorem Strs.new (w : World) (l : List ByteArray) (t : TypeId) : Strs (w.alloc (.cells (l.map Value.string).toArray t)) (some ⟨w.heap.size, 0, none⟩) l := by
  refine ⟨by simp, fun hn => ⟨_, rfl, by simp, fun j u hu => ?_⟩⟩
  rw [List.getElem?_map] at hu
  obtain ⟨x, hx, rfl⟩ := Option.map_eq_some_iff.1 hu
  have h : (⟨w.heap.size, 0, none⟩ : Addr).add j = ⟨w.heap.size, j, none⟩ := by
    unfold Addr.add; split <;> simp_all
  rw [h]; exact Lib.pieces_cell_at w l t j x hx
/-- strings.Split at one byte -/
theorem split_any (s : ByteArray) (c : UInt8) (m : Int) (w : World) (hs : s.size ≤ 1000000000) (hm : w.cell? ⟨0, 0, none⟩ = some (.int .i64 m)) :
    Calls Tryz.prog 146 #[.string s, .string ⟨#[c]⟩] w fun e w' => e = .returned (.slice (some ⟨w.heap.size, 0, none⟩) (pieces c s).length (pieces c s).length) ∧ w' = w.alloc (.cells ((pieces c s).map Value.string).toArray 9) := by
  refine (Tryz.strings_Split s ⟨#[c]⟩ m w (by omega) hm (by show 1 ≤ 1; omega)).mono ?_
  rintro e w' ⟨h1, h2⟩
  rw [splitB_pieces] at h2
  rw [pieces_count] at h1
  exact ⟨h1, h2⟩
end Go.Proofs.YtcpkhaebcmgehaaGreatDoor.Lg
/- The contracts of the two 'Path'. -/
namespace Go.Proofs.YtcpkhaebcmgehaaGreatDoor.Lg
open Go.RowKit
set_option linter.unusedVariables false
set_option maxRecDepth 100000
theorem l_ne {a : ByteArray} {l : List UInt8} (h : a ≠ bs l) : ¬ a.toList = l := by
  rw [Lib.toList_data]
  exact fun e => h (tl_inj e)
def dots (p : ByteArray) : Bool := (tl p).isEmpty || tl p == [46] || tl p == [46, 46]
def oddTo (p : ByteArray) (j : Nat) : Bool := dots p || !((tl p).take j).all printable
theorem oddTo_zero (p : ByteArray) : oddTo p 0 = dots p := by simp [oddTo]
theorem oddTo_next {p : ByteArray} {j : Nat} (hj : j < p.size) : oddTo p (j + 1) = (oddTo p j || !printable (p[j]'hj)) := by
  simp only [oddTo, all_next hj, Bool.not_and, Bool.or_assoc]
theorem oddTo_end (p : ByteArray) : oddTo p p.size = !partOk (tl p) := by
  simp only [oddTo, take_all, dots, partOk, Bool.not_and, Bool.not_not]
  cases (tl p).all printable <;> cases (tl p).isEmpty <;> cases tl p == [46] <;> cases tl p == [46, 46] <;> rfl
/-- the error's number of a path -/
def pathE (s : List UInt8) : Int := if pathOk s = true then 0 else 13
theorem pathE_no {s : ByteArray} (h : s.size < 1 ∨ 48 < s.size) : pathE (tl s) = 13 := by
  have : pathOk (tl s) = false := by
    have e : (decide (1 ≤ s.size) && decide (s.size ≤ 48)) = false := by
      simp only [Bool.and_eq_false_iff, decide_eq_false_iff_not]; omega
    unfold pathOk
    rw [tl_len, e]; rfl
  rw [pathE, this]; rfl
theorem pieces_get {c : UInt8} {s : ByteArray} {k : Nat} (hk : k < (pieces c s).length) : (splitB c (tl s))[k]? = some (tl ((pieces c s)[k]'hk)) := by
  have hk' : k < (splitB c (tl s)).length := by simpa [pieces] using hk
  rw [List.getElem?_eq_getElem hk']
  simp [pieces, tl_bs]
theorem pathE_bad {s : ByteArray} {k : Nat} (hk : k < (pieces 47 s).length) (h : partOk (tl ((pieces 47 s)[k]'hk)) = false) : pathE (tl s) = 13 := by
  have : pathOk (tl s) = false := by
    cases e : pathOk (tl s) with
    | false => rfl
    | true =>
      simp only [pathOk, Bool.and_eq_true, List.all_eq_true] at e
      have := e.2 _ (List.mem_of_getElem? (pieces_get hk))
      rw [h] at this; cases this
  rw [pathE, this]; rfl
theorem pathE_ok {s : ByteArray} (h1 : 1 ≤ s.size) (h2 : s.size ≤ 48) (h : ∀ j (hj : j < (pieces 47 s).length), j < (pieces 47 s).length → partOk (tl ((pieces 47 s)[j]'hj)) = true) : pathE (tl s) = 0 := by
  have : pathOk (tl s) = true := by
    have ha : (splitB 47 (tl s)).all partOk = true := by
      rw [List.all_eq_true]
      intro x hx
      obtain ⟨j, hj⟩ := List.mem_iff_getElem?.1 hx
      obtain ⟨hj', e⟩ := List.getElem?_eq_some_iff.1 hj
      have hj2 : j < (pieces 47 s).length := by simpa [pieces] using hj'
      have := pieces_get hj2
      rw [hj] at this
      injection this with this
      rw [this]
      exact h j hj2 hj2
    rw [pathOk, ha, tl_len]; simp; omega
  rw [pathE, this]; rfl
theorem upto_next {l : List ByteArray} {p : ByteArray → Bool} {k : Nat} (hk : k < l.length) (h : ∀ j (hj : j < l.length), j < k → p l[j] = true) (h2 : p l[k] = true) : ∀ j (hj : j < l.length), j < k + 1 → p l[j] = true := by
  intro j hj hlt
  rcases Nat.lt_or_ge j k with h3 | h3
  · exact h j hj h3
  · obtain rfl : j = k := by omega
    exact h2
theorem dots_false {p : ByteArray} (h1 : p ≠ ⟨#[]⟩) (h2 : p ≠ ⟨#[46]⟩) (h3 : p ≠ ⟨#[46, 46]⟩) : dots p = false := by
  unfold dots
  rw [Bool.or_eq_false_iff, Bool.or_eq_false_iff, beq_eq_false_iff_ne, beq_eq_false_iff_ne]
  refine ⟨⟨?_, fun e => h2 (tl_inj e)⟩, fun e => h3 (tl_inj e)⟩
  cases e : tl p with
  | nil => exact absurd (tl_inj e) h1
  | cons a l => rfl
theorem pr_cases2 (c : UInt8) : (printable c = true ∧ ¬ (c.toNat : Int) ≤ 32 ∧ ¬ (126 : Int) < c.toNat) ∨ (printable c = false ∧ ((c.toNat : Int) ≤ 32 ∨ (¬ (c.toNat : Int) ≤ 32 ∧ (126 : Int) < c.toNat))) := by
  unfold printable
  generalize c.toNat = n
  simp only [Bool.and_eq_true, decide_eq_true_eq, Bool.and_eq_false_iff, decide_eq_false_iff_not]
  omega
set_option maxHeartbeats 4000000 in
theorem ppath_any (s : ByteArray) (m : Int) (w : World) (hs : s.size ≤ 1000000000) (hm : w.cell? ⟨0, 0, none⟩ = some (.int .i64 m)) :
    Calls Tryz.prog 111 #[.string s] w fun e w' => e = .returned (.int .i64 (pathE (tl s))) ∧ Below w.heap.size w w' := by
  by_cases h0 : s.size = 0
  · have HN := Lib.hid (pathE_no (s := s) (.inl (by omega)))
    obtain rfl := empty_of h0
    go_enter Tryz.func111, Tryz.ntmps111
    go_wp2_with (fail)
    go_ret
    exact ⟨ret_int HN.out, Below.refl _ _⟩
  · have hne := some_ne h0
    by_cases h16 : (48 : Int) < (s.size : Int)
    · have HN := Lib.hid (pathE_no (s := s) (.inr (by omega)))
      go_enter Tryz.func111, Tryz.ntmps111
      go_wp2_with (fail)
      go_ret
      exact ⟨ret_int HN.out, Below.refl _ _⟩
    · have OK := Lib.hid (pathE_ok (s := s) (by omega) (by omega))
      have BAD : Hid (∀ k (hk : k < (pieces 47 s).length), partOk (tl ((pieces 47 s)[k]'hk)) = false → pathE (tl s) = 13) := Lib.hid (fun k hk h => pathE_bad hk h)
      have SP := Lib.hid (split_any s 47 m w hs hm)
      have hpl : (pieces 47 s).length ≤ 1000000001 := by have := pieces_len 47 s; omega
      have PS : Hid (∀ k (hk : k < (pieces 47 s).length) p, p = (pieces 47 s)[k]'hk → p.size ≤ 1000000000) := Lib.hid (fun k hk p e => by
        have := pieces_part 47 s _ (List.getElem_mem hk)
        rw [e]; omega)
      have CL := Lib.hid (Strs.new w (pieces 47 s) 9)
      have BW : Hid (Below w.heap.size w (w.alloc (.cells ((pieces 47 s).map Value.string).toArray 9))) := Lib.hid ((Below.refl _ _).alloc (Nat.le_refl _) _)
      go_enter Tryz.func111, Tryz.ntmps111
      go_wp2_with (go_at_call 146; ((with_reducible refine (SP.out).mono ?_); rintro e w1 ⟨rfl, rfl⟩))
      generalize w.alloc (.cells ((pieces 47 s).map Value.string).toArray 9) = W1 at *
      generalize pieces 47 s = P at *
      go_loop [17] (fun i => ∃ k : Nat, i = .int .i64 k ∧ k ≤ P.length ∧ ∀ j (hj : j < P.length), j < k → partOk (tl P[j]) = true) (fun i => P.length - (intOf i).toNat)
      case atStart => exact ⟨0, rfl, by omega, fun j _ h => by omega⟩
      case round =>
        obtain ⟨k, rfl, hk, ha⟩ := hrel
        have HA := Lib.hid ha
        clear ha
        by_cases hlt : k < P.length
        · have hkI : (k : Int) < (P.length : Int) := by omega
          obtain ⟨ad, ead, _, hc⟩ := CL.out.at_ hlt
          injection ead with ead
          subst ead
          have c0 : W1.cell? ⟨w.heap.size, k, none⟩ = some (.string P[k]) := by
            have : (⟨w.heap.size, 0, none⟩ : Addr).add k = ⟨w.heap.size, k, none⟩ := by unfold Addr.add; split <;> simp_all
            rw [← this]; exact hc
          clear hc
          have B1 := Lib.hid (BAD.out k hlt)
          have NX := Lib.hid (upto_next (p := fun p => partOk (tl p)) hlt HA.out)
          obtain ⟨p, ep⟩ : ∃ p, p = P[k] := ⟨_, rfl⟩
          rw [← ep] at c0 B1 NX
          have ON : Hid (∀ j (hj : j < p.size), oddTo p (j + 1) = (oddTo p j || !printable (p[j]'hj))) := Lib.hid (fun j hj => oddTo_next hj)
          have OE := Lib.hid (oddTo_end p)
          have hps : p.size ≤ 1000000000 := PS.out _ hlt _ ep
          clear ep
          have hcase : (dots p = true ∧ (p.toList.isEmpty = true ∨ (p.toList.isEmpty = false ∧ p.toList = [46]) ∨ (p.toList.isEmpty = false ∧ ¬ p.toList = [46] ∧ p.toList = [46, 46]))) ∨ (dots p = false ∧ p.toList.isEmpty = false ∧ ¬ p.toList = [46] ∧ ¬ p.toList = [46, 46]) := by
            by_cases h1 : p = ⟨#[]⟩
            · exact .inl ⟨by rw [h1]; rfl, .inl (by rw [h1, Lib.toList_data]; rfl)⟩
            · have n1 := some_ne (s := p) (fun h => h1 (empty_of h))
              by_cases h2 : p = ⟨#[46]⟩
              · exact .inl ⟨by rw [h2]; rfl, .inr (.inl ⟨n1, by rw [h2, Lib.toList_data]⟩)⟩
              · by_cases h3 : p = ⟨#[46, 46]⟩
                · exact .inl ⟨by rw [h3]; rfl, .inr (.inr ⟨n1, l_ne h2, by rw [h3, Lib.toList_data]⟩)⟩
                · exact .inr ⟨dots_false h1 h2 h3, n1, l_ne h2, l_ne h3⟩
          rcases hcase with ⟨hd, d1 | ⟨d1, d2⟩ | ⟨d1, d2, d3⟩⟩ | ⟨hd, d1, d2, d3⟩
          all_goals
            have DZ := Lib.hid hd
            clear hd
            go_wp2_with (fail)
            go_loop [5, 33] (fun v i => ∃ j : Nat, v = .bool (oddTo p j) ∧ i = .int .i64 j ∧ j ≤ p.size) (fun _ i => p.size - (intOf i).toNat)
            case atStart => exact ⟨0, by first | (rw [oddTo_zero, DZ.out]; done) | (rw [oddTo_zero, DZ.out]; simp [d2, d3]), rfl, by omega⟩
            case round =>
              obtain ⟨j, rfl, rfl, hj⟩ := hrel
              by_cases hjl : j < p.size
              · have hjI : (j : Int) < (p.size : Int) := by omega
                have O1 := Lib.hid (ON.out j hjl)
                cases eo : oddTo p j
                · rcases pr_cases2 (p[j]'hjl) with ⟨hb, g1, g2⟩ | ⟨hb, g⟩
                  · have HB := Lib.hid hb
                    clear hb
                    go_wp2_with (fail)
                    go_round
                    case rel => exact ⟨j + 1, by rw [O1.out, eo, HB.out]; rfl, by go_num, by omega⟩
                    case measure => simp [intOf]; omega
                  · have HB := Lib.hid hb
                    clear hb
                    rcases g with g1 | ⟨g1, g2⟩
                    all_goals
                      go_wp2_with (fail)
                      go_round
                      case rel => exact ⟨j + 1, by rw [O1.out, eo, HB.out]; rfl, by go_num, by omega⟩
                      case measure => simp [intOf]; omega
                · go_wp2_with (fail)
                  go_round
                  case rel => exact ⟨j + 1, by rw [O1.out, eo]; rfl, by go_num, by omega⟩
                  case measure => simp [intOf]; omega
              · obtain rfl : j = p.size := by omega
                cases eo : oddTo p p.size
                · have hp : partOk (tl p) = true := by rw [OE.out] at eo; simpa using eo
                  have NX1 := Lib.hid (NX.out hp)
                  clear hp
                  go_wp2_with (fail)
                  go_round
                  case rel => exact ⟨k + 1, by go_num, by omega, NX1.out⟩
                  case measure => simp [intOf]; omega
                · have hp : partOk (tl p) = false := by rw [OE.out] at eo; simpa using eo
                  have B2 := Lib.hid (B1.out hp)
                  clear hp
                  go_wp2_with (fail)
                  go_ret
                  exact ⟨ret_int B2.out, BW.out⟩
        · obtain rfl : k = P.length := by omega
          go_wp2_with (fail)
          go_ret
          exact ⟨ret_int (OK.out (fun j hj h => HA.out j hj h)), BW.out⟩

def good (l : List UInt8) : Bool := (splitB 47 l).all partOk
theorem split_pre {c : UInt8} {p : List UInt8} (h : c ∉ p) (s : List UInt8) : ∃ hd t, splitB c s = hd :: t ∧ splitB c (p ++ s) = (p ++ hd) :: t := by
  induction p with
  | nil =>
    cases e : splitB c s with
    | nil => exact absurd e (splitB_ne c s)
    | cons a b => exact ⟨a, b, rfl, by simpa using e⟩
  | cons x p ih =>
    obtain ⟨hd, t, h1, h2⟩ := ih (fun e => h (List.mem_cons_of_mem _ e))
    have hx : x ≠ c := fun e => h (by simp [e])
    exact ⟨hd, t, h1, by rw [List.cons_append, splitB, if_neg hx, h2]; rfl⟩
def RInv (s : ByteArray) (a i : Nat) : Prop :=
  a ≤ i ∧ i ≤ s.size + 1 ∧ (i ≤ s.size → good (tl s) = good ((tl s).drop a) ∧ ∀ c ∈ ((tl s).drop a).take (i - a), c ≠ 47 ∧ printable c = true) ∧ (i = s.size + 1 → good (tl s) = true)
theorem RInv.zero (s : ByteArray) : RInv s 0 0 := ⟨by omega, by omega, fun _ => ⟨by simp, by simp⟩, fun h => by omega⟩
theorem drop_at {s : ByteArray} {a i : Nat} (hai : a ≤ i) (hi : i < s.size) : (tl s).drop a = ((tl s).drop a).take (i - a) ++ s[i]'hi :: (tl s).drop (i + 1) := by
  have h1 : ((tl s).drop a).drop (i - a) = (tl s).drop i := by rw [List.drop_drop, Nat.add_sub_cancel' hai]
  have h2 : (tl s).drop i = s[i]'hi :: (tl s).drop (i + 1) := by
    have hl : i < (tl s).length := by rw [tl_len]; exact hi
    rw [List.drop_eq_getElem_cons hl]; first | done | rfl
  conv => lhs; rw [← List.take_append_drop (i - a) ((tl s).drop a), h1, h2]
theorem extract_tl (s : ByteArray) (a i : Nat) : tl (s.extract a i) = ((tl s).drop a).take (i - a) := by
  simp only [tl]; rw [Lib.extract_data]; try simp [List.drop_take]
theorem RInv.plain {s : ByteArray} {a i : Nat} (h : RInv s a i) (hi : i < s.size) (h1 : s[i]'hi ≠ 47) (h2 : printable (s[i]'hi) = true) : RInv s a (i + 1) := by
  obtain ⟨ha, _, hg, _⟩ := h
  obtain ⟨g1, g2⟩ := hg (by omega)
  refine ⟨by omega, by omega, fun _ => ⟨g1, fun c hc => ?_⟩, fun h => by omega⟩
  have e : i + 1 - a = (i - a) + 1 := by omega
  have hl : ((tl s).drop a)[i - a]? = some (s[i]'hi) := by
    rw [List.getElem?_drop, show a + (i - a) = i by omega]; exact tl_get hi
  rw [e, List.take_add_one, hl] at hc
  rcases List.mem_append.1 hc with hc | hc
  · exact g2 c hc
  · have : c = s[i]'hi := by simpa using hc
    rw [this]; exact ⟨h1, h2⟩
theorem good_pathE {s : ByteArray} (h1 : 1 ≤ s.size) (h2 : s.size ≤ 48) : pathE (tl s) = if good (tl s) = true then 0 else 13 := by
  have : pathOk (tl s) = good (tl s) := by
    rw [pathOk, tl_len, good]
    have e : (decide (1 ≤ s.size) && decide (s.size ≤ 48)) = true := by simp; omega
    rw [e]; rfl
  rw [pathE, this]
theorem RInv.bad {s : ByteArray} {a i : Nat} (h : RInv s a i) (hi : i < s.size) (h1 : s[i]'hi ≠ 47) (h2 : printable (s[i]'hi) = false) : good (tl s) = false := by
  obtain ⟨ha, _, hg, _⟩ := h
  obtain ⟨g1, g2⟩ := hg (by omega)
  rw [g1, drop_at ha hi]
  have hn : (47 : UInt8) ∉ ((tl s).drop a).take (i - a) ++ [s[i]'hi] := by
    intro hm
    rcases List.mem_append.1 hm with hm | hm
    · exact (g2 _ hm).1 rfl
    · exact h1 (List.mem_singleton.1 hm).symm
  obtain ⟨hd, t, _, e⟩ := split_pre hn ((tl s).drop (i + 1))
  rw [List.append_assoc] at e
  simp only [List.singleton_append] at e
  rw [good, e, List.all_cons]
  have : partOk (((tl s).drop a).take (i - a) ++ [s[i]'hi] ++ hd) = false := by
    simp [partOk, h2]
  rw [List.append_assoc] at this
  simp only [List.singleton_append, List.append_assoc] at this ⊢
  rw [this]; rfl
theorem part_dots {p : ByteArray} (h : ∀ c ∈ tl p, c ≠ 47 ∧ printable c = true) : partOk (tl p) = !dots p := by
  have ha : (tl p).all printable = true := List.all_eq_true.2 fun c hc => (h c hc).2
  rw [partOk, ha, dots]
  cases (tl p).isEmpty <;> cases tl p == [46] <;> cases tl p == [46, 46] <;> rfl
theorem RInv.part {s : ByteArray} {a i : Nat} (h : RInv s a i) (hi : i ≤ s.size) (h1 : ∀ hk : i < s.size, s[i]'hk = 47) :
    (dots (s.extract a i) = true → good (tl s) = false) ∧ (dots (s.extract a i) = false → RInv s (i + 1) (i + 1)) := by
  obtain ⟨ha, _, hg, _⟩ := h
  obtain ⟨g1, g2⟩ := hg hi
  have hp := part_dots (p := s.extract a i) (by rw [extract_tl]; exact g2)
  rw [extract_tl] at hp
  rcases Nat.lt_or_ge i s.size with hlt | hge
  · have e := drop_at ha hlt
    rw [h1 hlt] at e
    have e2 : good ((tl s).drop a) = (partOk (((tl s).drop a).take (i - a)) && good ((tl s).drop (i + 1))) := by
      conv => lhs; rw [e, good, split_app (fun hm => (g2 _ hm).1 rfl), List.all_cons]
      rfl
    refine ⟨fun h => by rw [g1, e2, hp, h]; rfl, fun h => ⟨by omega, by omega, fun _ => ⟨by rw [g1, e2, hp, h]; simp, by simp⟩, fun h2 => by omega⟩⟩
  · obtain rfl : i = s.size := by omega
    have e : ((tl s).drop a).take (s.size - a) = (tl s).drop a := List.take_of_length_le (by rw [List.length_drop, tl_len]; exact Nat.le_refl _)
    rw [e] at hp g2
    have e2 : good ((tl s).drop a) = partOk ((tl s).drop a) := by
      rw [good, split_free (fun hm => (g2 _ hm).1 rfl)]; simp
    refine ⟨fun h => by rw [g1, e2, hp, h]; rfl, fun h => ⟨by omega, by omega, fun h2 => by omega, fun _ => ?_⟩⟩
    rw [g1, e2, hp, h]; rfl
theorem rpath_any (s : ByteArray) (hs : s.size ≤ 1000000000) (w : World) :
    Calls Tryz.prog 117 #[.string s] w fun e w' => e = .returned (.int .i64 (pathE (tl s))) ∧ w = w' := by
  by_cases h0 : (s.size : Int) < 1
  · have HN := Lib.hid (pathE_no (s := s) (.inl (by omega)))
    go_enter Tryz.func117, Tryz.ntmps117
    go_wp2_with (fail)
    go_ret
    exact ⟨ret_int HN.out, rfl⟩
  · by_cases h16 : (48 : Int) < (s.size : Int)
    · have HN := Lib.hid (pathE_no (s := s) (.inr (by omega)))
      go_enter Tryz.func117, Tryz.ntmps117
      go_wp2_with (fail)
      go_ret
      exact ⟨ret_int HN.out, rfl⟩
    · have GE := Lib.hid (good_pathE (s := s) (by omega) (by omega))
      go_enter Tryz.func117, Tryz.ntmps117
      go_wp2_with (fail)
      go_loop [3, 4] (fun x i => ∃ a k : Nat, x = .int .i64 a ∧ i = .int .i64 k ∧ RInv s a k) (fun _ i => s.size + 1 - (intOf i).toNat)
      case atStart => exact ⟨0, 0, rfl, rfl, RInv.zero s⟩
      case round =>
        obtain ⟨a, k, rfl, rfl, hr⟩ := hrel
        have hak := hr.1
        have hks := hr.2.1
        have HR := Lib.hid hr
        clear hr
        have hakI : (a : Int) ≤ (k : Int) := by omega
        have hdots : ∀ p : ByteArray, (dots p = true ∧ (p.toList.isEmpty = true ∨ (p.toList.isEmpty = false ∧ p.toList = [46]) ∨ (p.toList.isEmpty = false ∧ ¬ p.toList = [46] ∧ p.toList = [46, 46]))) ∨ (dots p = false ∧ p.toList.isEmpty = false ∧ ¬ p.toList = [46] ∧ ¬ p.toList = [46, 46]) := by
          intro p
          by_cases h1 : p = ⟨#[]⟩
          · exact .inl ⟨by rw [h1]; rfl, .inl (by rw [h1, Lib.toList_data]; rfl)⟩
          · have n1 := some_ne (s := p) (fun h => h1 (empty_of h))
            by_cases h2 : p = ⟨#[46]⟩
            · exact .inl ⟨by rw [h2]; rfl, .inr (.inl ⟨n1, by rw [h2, Lib.toList_data]⟩)⟩
            · by_cases h3 : p = ⟨#[46, 46]⟩
              · exact .inl ⟨by rw [h3]; rfl, .inr (.inr ⟨n1, l_ne h2, by rw [h3, Lib.toList_data]⟩)⟩
              · exact .inr ⟨dots_false h1 h2 h3, n1, l_ne h2, l_ne h3⟩
        rcases Nat.lt_or_ge k s.size with hlt | hge
        · have hkI : (k : Int) < (s.size : Int) := by omega
          have hkL : (k : Int) ≤ (s.size : Int) := by omega
          by_cases h47 : s[k]'hlt = 47
          · have PT := Lib.hid (HR.out.part (by omega) (fun _ => h47))
            have g47 : ((s[k]'hlt).toNat : Int) = 47 := by rw [h47]; rfl
            clear h47
            have HD := hdots (s.extract a k)
            clear hdots
            rcases HD with ⟨hd, hc⟩ | ⟨hd, d1, d2, d3⟩
            · have F := Lib.hid (PT.out.1 hd)
              clear hd PT
              rcases hc with d1 | ⟨d1, d2⟩ | ⟨d1, d2, d3⟩
              all_goals
                go_wp2_with (fail)
                go_ret
                exact ⟨ret_int (by rw [GE.out, F.out]; rfl), rfl⟩
            · have F := Lib.hid (PT.out.2 hd)
              have d4 : ((s.extract a k).toList == [46]) = false := by simpa using d2
              have d5 : ((s.extract a k).toList == [46, 46]) = false := by simpa using d3
              clear hd PT 
              go_wp2_with (fail)
              go_round
              case rel => exact ⟨k + 1, k + 1, by go_num, by go_num, F.out⟩
              case measure => simp [intOf]; omega
          · have g47 : ((s[k]'hlt).toNat : Int) ≠ 47 := fun e => h47 (UInt8.toNat_inj.1 (by have : (47 : UInt8).toNat = 47 := rfl; omega))
            clear hdots
            rcases pr_cases (s[k]'hlt) with ⟨hb, g1, g2⟩ | ⟨hb, g⟩
            · have F := Lib.hid (HR.out.plain hlt h47 hb)
              clear hb h47
              go_wp2_with (fail)
              go_round
              case rel => exact ⟨a, k + 1, rfl, by go_num, F.out⟩
              case measure => simp [intOf]; omega
            · have F := Lib.hid (HR.out.bad hlt h47 hb)
              clear hb h47
              rcases g with g1 | ⟨g1, g2⟩
              all_goals
                go_wp2_with (fail)
                go_ret
                exact ⟨ret_int (by rw [GE.out, F.out]; rfl), rfl⟩
        · by_cases hk : k = s.size
          · subst hk
            have PT := Lib.hid (HR.out.part (by omega) (fun h => by omega))
            have HD := hdots (s.extract a s.size)
            clear hdots
            rcases HD with ⟨hd, hc⟩ | ⟨hd, d1, d2, d3⟩
            · have F := Lib.hid (PT.out.1 hd)
              clear hd PT
              rcases hc with d1 | ⟨d1, d2⟩ | ⟨d1, d2, d3⟩
              all_goals
                go_wp2_with (fail)
                go_ret
                exact ⟨ret_int (by rw [GE.out, F.out]; rfl), rfl⟩
            · have F := Lib.hid (PT.out.2 hd)
              have d4 : ((s.extract a s.size).toList == [46]) = false := by simpa using d2
              have d5 : ((s.extract a s.size).toList == [46, 46]) = false := by simpa using d3
              clear hd PT 
              go_wp2_with (fail)
              go_round
              case rel => exact ⟨s.size + 1, s.size + 1, by go_num, by go_num, F.out⟩
              case measure => simp [intOf] <;> omega
          · obtain rfl : k = s.size + 1 := by omega
            have F := Lib.hid (HR.out.2.2.2 rfl)
            have hkL : ¬ ((s.size + 1 : Nat) : Int) ≤ (s.size : Int) := by omega
            clear hdots
            go_wp2_with (fail)
            go_ret
            exact ⟨ret_int (by rw [GE.out, F.out]; rfl), rfl⟩
end Go.Proofs.YtcpkhaebcmgehaaGreatDoor.Lg
/- The contracts of the two 'text', the two 'Name': whether a text is one. -/
namespace Go.Proofs.YtcpkhaebcmgehaaGreatDoor.Lg
open Go.RowKit
set_option linter.unusedVariables false
set_option maxRecDepth 100000
def okTo (s : ByteArray) (k : Nat) : Bool := decide (1 ≤ s.size) && decide (s.size ≤ 32) && ((tl s).take k).all printable
theorem okTo_zero (s : ByteArray) : okTo s 0 = (decide (1 ≤ s.size) && decide (s.size ≤ 32)) := by simp [okTo]
theorem okTo_next {s : ByteArray} {k : Nat} (hk : k < s.size) : okTo s (k + 1) = (okTo s k && printable (s[k]'hk)) := by simp [okTo, all_next hk, Bool.and_assoc]
theorem okTo_end (s : ByteArray) : okTo s s.size = textOk (tl s) := by simp only [okTo, textOk, take_all, tl_len]
set_option maxHeartbeats 1000000 in
theorem text_any (s : ByteArray) (hs : s.size ≤ 1000000000) (w : World) :
    Calls Tryz.prog 247 #[.string s] w fun e w' => e = .returned (.bool (textOk (tl s))) ∧ w = w' := by
  have FIN := Lib.hid (okTo_end s)
  have NX : Hid (∀ k (hk : k < s.size), okTo s (k + 1) = (okTo s k && printable (s[k]'hk))) := Lib.hid (fun k hk => okTo_next hk)
  by_cases h0 : s.size = 0
  · obtain rfl := empty_of h0
    have : textOk (tl ⟨#[]⟩) = false := rfl
    go_enter Tryz.func247, Tryz.ntmps247
    go_wp2_with (fail)
    go_loop [3, 14] (fun v i => v = .bool false ∧ i = .int .i64 0) (fun _ i => 0)
    case atStart => exact ⟨rfl, rfl⟩
    case round =>
      obtain ⟨rfl, rfl⟩ := hrel
      go_wp2_with (fail)
      go_ret
      exact ⟨ret_bool this, rfl⟩
  · have hne := some_ne h0
    have h1 : 0 < s.size := by omega
    have HZ := Lib.hid (okTo_zero s)
    by_cases h32 : s.size ≤ 32
    · have hle : (s.size : Int) ≤ 32 := by omega
      have Z1 : Hid (okTo s 0 = true) := Lib.hid (by rw [HZ.out]; simp; omega)
      clear h32
      go_enter Tryz.func247, Tryz.ntmps247
      go_wp2_with (fail)
      go_loop [3, 14] (fun v i => ∃ k : Nat, v = .bool (okTo s k) ∧ i = .int .i64 k ∧ k ≤ s.size) (fun _ i => s.size - (intOf i).toNat)
      case atStart => exact ⟨0, by rw [Z1.out], rfl, by omega⟩
      case round =>
        obtain ⟨k, rfl, rfl, hk⟩ := hrel
        by_cases hlt : k < s.size
        · have hkI : (k : Int) < (s.size : Int) := by omega
          have N1 := Lib.hid (NX.out k hlt)
          cases e : okTo s k
          · go_wp2_with (fail)
            go_round
            case rel => exact ⟨k + 1, by rw [N1.out, e]; rfl, by go_num, by omega⟩
            case measure => simp [intOf]; omega
          · by_cases c1 : 33 ≤ (s[k]'hlt).toNat
            · have c2 : (32 : Int) < ((s[k]'hlt).toNat : Int) := by omega
              by_cases c3 : (s[k]'hlt).toNat ≤ 126
              · have c4 : ((s[k]'hlt).toNat : Int) ≤ 126 := by omega
                go_wp2_with (fail)
                go_round
                case rel => exact ⟨k + 1, by rw [N1.out, e]; simp [printable, c1, c3], by go_num, by omega⟩
                case measure => simp [intOf]; omega
              · have c4 : ¬ ((s[k]'hlt).toNat : Int) ≤ 126 := by omega
                go_wp2_with (fail)
                go_round
                case rel => exact ⟨k + 1, by rw [N1.out, e]; simp [printable, c3], by go_num, by omega⟩
                case measure => simp [intOf]; omega
            · have c2 : ¬ (32 : Int) < ((s[k]'hlt).toNat : Int) := by omega
              go_wp2_with (fail)
              go_round
              case rel => exact ⟨k + 1, by rw [N1.out, e]; simp [printable, c1], by go_num, by omega⟩
              case measure => simp [intOf]; omega
        · obtain rfl : k = s.size := by omega
          go_wp2_with (fail)
          go_ret
          exact ⟨ret_bool FIN.out.symm, rfl⟩
    · have hle : ¬ (s.size : Int) ≤ 32 := by omega
      have Z1 : Hid (∀ k, okTo s k = false) := Lib.hid (fun k => by simp [okTo, h32])
      clear h32
      go_enter Tryz.func247, Tryz.ntmps247
      go_wp2_with (fail)
      go_loop [3, 14] (fun v i => ∃ k : Nat, v = .bool false ∧ i = .int .i64 k ∧ k ≤ s.size) (fun _ i => s.size - (intOf i).toNat)
      case atStart => exact ⟨0, rfl, rfl, by omega⟩
      case round =>
        obtain ⟨k, rfl, rfl, hk⟩ := hrel
        by_cases hlt : k < s.size
        · have hkI : (k : Int) < (s.size : Int) := by omega
          go_wp2_with (fail)
          go_round
          case rel => exact ⟨k + 1, rfl, by go_num, by omega⟩
          case measure => simp [intOf]; omega
        · obtain rfl : k = s.size := by omega
          go_wp2_with (fail)
          go_ret
          exact ⟨ret_bool (by rw [← FIN.out, Z1.out]), rfl⟩
end Go.Proofs.YtcpkhaebcmgehaaGreatDoor.Lg
/- The contracts of the two 'Name', and of the reference's 'text'. -/
namespace Go.Proofs.YtcpkhaebcmgehaaGreatDoor.Lg
open Go.RowKit
set_option linter.unusedVariables false
set_option maxRecDepth 100000
theorem nb_cases (c : UInt8) :
    (nameByte c = true ∧ ((((c.toNat : Int) != 45) = false) ∨ (((c.toNat : Int) != 45) = true ∧ ((c.toNat : Int) != 95) = false) ∨ (((c.toNat : Int) != 45) = true ∧ ((c.toNat : Int) != 95) = true ∧ ¬ (c.toNat : Int) < 48 ∧ ¬ (57 : Int) < c.toNat)
      ∨ (((c.toNat : Int) != 45) = true ∧ ((c.toNat : Int) != 95) = true ∧ ¬ (c.toNat : Int) < 48 ∧ (57 : Int) < c.toNat ∧ ¬ (c.toNat : Int) < 97 ∧ ¬ (122 : Int) < c.toNat))) ∨
    (nameByte c = false ∧ ((((c.toNat : Int) != 45) = true ∧ ((c.toNat : Int) != 95) = true ∧ (c.toNat : Int) < 48 ∧ (c.toNat : Int) < 97)
      ∨ (((c.toNat : Int) != 45) = true ∧ ((c.toNat : Int) != 95) = true ∧ ¬ (c.toNat : Int) < 48 ∧ (57 : Int) < c.toNat ∧ (c.toNat : Int) < 97)
      ∨ (((c.toNat : Int) != 45) = true ∧ ((c.toNat : Int) != 95) = true ∧ ¬ (c.toNat : Int) < 48 ∧ (57 : Int) < c.toNat ∧ ¬ (c.toNat : Int) < 97 ∧ (122 : Int) < c.toNat))) := by
  have h45 : (c == 45) = decide (c.toNat = 45) := by rw [Bool.eq_iff_iff]; simp [← UInt8.toNat_inj]
  have h95 : (c == 95) = decide (c.toNat = 95) := by rw [Bool.eq_iff_iff]; simp [← UInt8.toNat_inj]
  unfold nameByte
  rw [h45, h95]
  generalize c.toNat = n
  simp only [Bool.or_eq_true, Bool.and_eq_true, decide_eq_true_eq, Bool.or_eq_false_iff, Bool.and_eq_false_iff, decide_eq_false_iff_not, bne_iff_ne, bne_eq_false_iff_eq]
  omega
theorem nb_cases2 (c : UInt8) :
    (nameByte c = true ∧ (((97 : Int) ≤ c.toNat ∧ (c.toNat : Int) ≤ 122) ∨ (¬ (97 : Int) ≤ c.toNat ∧ (48 : Int) ≤ c.toNat ∧ (c.toNat : Int) ≤ 57) ∨ (¬ (97 : Int) ≤ c.toNat ∧ ¬ (48 : Int) ≤ c.toNat ∧ ((c.toNat : Int) == 45) = true)
      ∨ (¬ (97 : Int) ≤ c.toNat ∧ (48 : Int) ≤ c.toNat ∧ ¬ (c.toNat : Int) ≤ 57 ∧ ((c.toNat : Int) == 45) = false ∧ ((c.toNat : Int) == 95) = true))) ∨
    (nameByte c = false ∧ (((97 : Int) ≤ c.toNat ∧ ¬ (c.toNat : Int) ≤ 122 ∧ (48 : Int) ≤ c.toNat ∧ ¬ (c.toNat : Int) ≤ 57 ∧ ((c.toNat : Int) == 45) = false ∧ ((c.toNat : Int) == 95) = false)
      ∨ (¬ (97 : Int) ≤ c.toNat ∧ (48 : Int) ≤ c.toNat ∧ ¬ (c.toNat : Int) ≤ 57 ∧ ((c.toNat : Int) == 45) = false ∧ ((c.toNat : Int) == 95) = false)
      ∨ (¬ (97 : Int) ≤ c.toNat ∧ ¬ (48 : Int) ≤ c.toNat ∧ ((c.toNat : Int) == 45) = false ∧ ((c.toNat : Int) == 95) = false))) := by
  have h45 : (c == 45) = decide (c.toNat = 45) := by rw [Bool.eq_iff_iff]; simp [← UInt8.toNat_inj]
  have h95 : (c == 95) = decide (c.toNat = 95) := by rw [Bool.eq_iff_iff]; simp [← UInt8.toNat_inj]
  unfold nameByte
  rw [h45, h95]
  generalize c.toNat = n
  simp only [Bool.or_eq_true, Bool.and_eq_true, decide_eq_true_eq, Bool.or_eq_false_iff, Bool.and_eq_false_iff, decide_eq_false_iff_not, beq_iff_eq, beq_eq_false_iff_ne]
  omega
/-- the error's number of a name -/
def nameE (s : List UInt8) : Int := if nameOk s = true then 0 else 14
theorem nameE_no {s : ByteArray} (h : s.size < 1 ∨ 16 < s.size) : nameE (tl s) = 14 := by
  have : nameOk (tl s) = false := by
    have e : (decide (1 ≤ s.size) && decide (s.size ≤ 16)) = false := by
      simp only [Bool.and_eq_false_iff, decide_eq_false_iff_not]; omega
    unfold nameOk
    rw [tl_len, e]; rfl
  rw [nameE, this]; rfl
theorem nameE_bad {s : ByteArray} {k : Nat} (hk : k < s.size) (h : nameByte (s[k]'hk) = false) : nameE (tl s) = 14 := by
  have : nameOk (tl s) = false := by
    cases e : nameOk (tl s) with
    | false => rfl
    | true =>
      simp only [nameOk, Bool.and_eq_true, List.all_eq_true] at e
      have := e.2 (s[k]'hk) (List.mem_of_getElem? (tl_get hk))
      rw [h] at this; cases this
  rw [nameE, this]; rfl
theorem nameE_ok {s : ByteArray} (h1 : 1 ≤ s.size) (h2 : s.size ≤ 16) (h : ((tl s).take s.size).all nameByte = true) : nameE (tl s) = 0 := by
  rw [take_all] at h
  have : nameOk (tl s) = true := by
    rw [nameOk, h, tl_len]; simp; omega
  rw [nameE, this]; rfl
theorem pname_any (s : ByteArray) (hs : s.size ≤ 1000000000) (w : World) :
    Calls Tryz.prog 132 #[.string s] w fun e w' => e = .returned (.int .i64 (nameE (tl s))) ∧ w = w' := by
  by_cases h0 : s.size = 0
  · have HN := Lib.hid (nameE_no (s := s) (.inl (by omega)))
    obtain rfl := empty_of h0
    go_enter Tryz.func132, Tryz.ntmps132
    go_wp2_with (fail)
    go_ret
    exact ⟨ret_int HN.out, rfl⟩
  · have hne := some_ne h0
    by_cases h16 : (16 : Int) < (s.size : Int)
    · have HN := Lib.hid (nameE_no (s := s) (.inr (by omega)))
      go_enter Tryz.func132, Tryz.ntmps132
      go_wp2_with (fail)
      go_ret
      exact ⟨ret_int HN.out, rfl⟩
    · have OK := Lib.hid (nameE_ok (s := s) (by omega) (by omega))
      have BAD : Hid (∀ k (hk : k < s.size), nameByte (s[k]'hk) = false → nameE (tl s) = 14) := Lib.hid (fun k hk h => nameE_bad hk h)
      have NX : Hid (∀ k (hk : k < s.size), ((tl s).take (k + 1)).all nameByte = (((tl s).take k).all nameByte && nameByte (s[k]'hk))) := Lib.hid (fun k hk => all_next hk)
      go_enter Tryz.func132, Tryz.ntmps132
      go_wp2_with (fail)
      go_loop [14] (fun i => ∃ k : Nat, i = .int .i64 k ∧ k ≤ s.size ∧ ((tl s).take k).all nameByte = true) (fun i => s.size - (intOf i).toNat)
      case atStart => exact ⟨0, rfl, by omega, by simp⟩
      case round =>
        obtain ⟨k, rfl, hk, ha⟩ := hrel
        have HA := Lib.hid ha
        clear ha
        by_cases hlt : k < s.size
        · have hkI : (k : Int) < (s.size : Int) := by omega
          have N1 := Lib.hid (NX.out k hlt)
          rcases nb_cases (s[k]'hlt) with ⟨hb, hc⟩ | ⟨hb, hc⟩
          · have HB := Lib.hid hb
            clear hb
            rcases hc with h1 | ⟨h1, h2⟩ | ⟨h1, h2, h3, h4⟩ | ⟨h1, h2, h3, h4, h5, h6⟩
            all_goals
              go_wp2_with (fail)
              go_round
              case rel => exact ⟨k + 1, by go_num, by omega, by rw [N1.out, HA.out, HB.out]; rfl⟩
              case measure => simp [intOf]; omega
          · have HB := Lib.hid (BAD.out k hlt hb)
            clear hb
            rcases hc with ⟨h1, h2, h3, h4⟩ | ⟨h1, h2, h3, h4, h5⟩ | ⟨h1, h2, h3, h4, h5, h6⟩
            all_goals
              go_wp2_with (fail)
              go_ret
              exact ⟨ret_int HB.out, rfl⟩
        · obtain rfl : k = s.size := by omega
          go_wp2_with (fail)
          go_ret
          exact ⟨ret_int (OK.out HA.out), rfl⟩
theorem rname_any (s : ByteArray) (hs : s.size ≤ 1000000000) (w : World) :
    Calls Tryz.prog 93 #[.string s] w fun e w' => e = .returned (.int .i64 (nameE (tl s))) ∧ w = w' := by
  by_cases h0 : (s.size : Int) < 1
  · have HN := Lib.hid (nameE_no (s := s) (.inl (by omega)))
    go_enter Tryz.func93, Tryz.ntmps93
    go_wp2_with (fail)
    go_ret
    exact ⟨ret_int HN.out, rfl⟩
  · by_cases h16 : (16 : Int) < (s.size : Int)
    · have HN := Lib.hid (nameE_no (s := s) (.inr (by omega)))
      go_enter Tryz.func93, Tryz.ntmps93
      go_wp2_with (fail)
      go_ret
      exact ⟨ret_int HN.out, rfl⟩
    · have OK := Lib.hid (nameE_ok (s := s) (by omega) (by omega))
      have BAD : Hid (∀ k (hk : k < s.size), nameByte (s[k]'hk) = false → nameE (tl s) = 14) := Lib.hid (fun k hk h => nameE_bad hk h)
      have NX : Hid (∀ k (hk : k < s.size), ((tl s).take (k + 1)).all nameByte = (((tl s).take k).all nameByte && nameByte (s[k]'hk))) := Lib.hid (fun k hk => all_next hk)
      go_enter Tryz.func93, Tryz.ntmps93
      go_wp2_with (fail)
      go_loop [3] (fun i => ∃ k : Nat, i = .int .i64 k ∧ k ≤ s.size ∧ ((tl s).take k).all nameByte = true) (fun i => s.size - (intOf i).toNat)
      case atStart => exact ⟨0, rfl, by omega, by simp⟩
      case round =>
        obtain ⟨k, rfl, hk, ha⟩ := hrel
        have HA := Lib.hid ha
        clear ha
        by_cases hlt : k < s.size
        · have hkI : (k : Int) < (s.size : Int) := by omega
          have N1 := Lib.hid (NX.out k hlt)
          rcases nb_cases2 (s[k]'hlt) with ⟨hb, hc⟩ | ⟨hb, hc⟩
          · have HB := Lib.hid hb
            clear hb
            rcases hc with ⟨h1, h2⟩ | ⟨h1, h2, h3⟩ | ⟨h1, h2, h3⟩ | ⟨h1, h2, h3, h4, h5⟩
            all_goals
              go_wp2_with (fail)
              go_round
              case rel => exact ⟨k + 1, by go_num, by omega, by rw [N1.out, HA.out, HB.out]; rfl⟩
              case measure => simp [intOf]; omega
          · have HB := Lib.hid (BAD.out k hlt hb)
            clear hb
            rcases hc with ⟨h1, h2, h3, h4, h5, h6⟩ | ⟨h1, h2, h3, h4, h5⟩ | ⟨h1, h2, h3, h4⟩
            all_goals
              go_wp2_with (fail)
              go_ret
              exact ⟨ret_int HB.out, rfl⟩
        · obtain rfl : k = s.size := by omega
          go_wp2_with (fail)
          go_ret
          exact ⟨ret_int (OK.out HA.out), rfl⟩
theorem textOk_no {s : ByteArray} (h : s.size < 1 ∨ 32 < s.size) : textOk (tl s) = false := by
  have e : (decide (1 ≤ s.size) && decide (s.size ≤ 32)) = false := by
    simp only [Bool.and_eq_false_iff, decide_eq_false_iff_not]; omega
  unfold textOk
  rw [tl_len, e]; rfl
theorem textOk_bad {s : ByteArray} {k : Nat} (hk : k < s.size) (h : printable (s[k]'hk) = false) : textOk (tl s) = false := by
  cases e : textOk (tl s) with
  | false => rfl
  | true =>
    simp only [textOk, Bool.and_eq_true, List.all_eq_true] at e
    have := e.2 (s[k]'hk) (List.mem_of_getElem? (tl_get hk))
    rw [h] at this; cases this
theorem textOk_ok {s : ByteArray} (h1 : 1 ≤ s.size) (h2 : s.size ≤ 32) (h : ((tl s).take s.size).all printable = true) : textOk (tl s) = true := by
  rw [take_all] at h
  rw [textOk, h, tl_len]; simp; omega
theorem rtext_any (s : ByteArray) (hs : s.size ≤ 1000000000) (w : World) :
    Calls Tryz.prog 203 #[.string s] w fun e w' => e = .returned (.bool (textOk (tl s))) ∧ w = w' := by
  by_cases h0 : (s.size : Int) < 1
  · have HN := Lib.hid (textOk_no (s := s) (.inl (by omega)))
    go_enter Tryz.func203, Tryz.ntmps203
    go_wp2_with (fail)
    go_ret
    exact ⟨ret_bool HN.out, rfl⟩
  · by_cases h16 : (32 : Int) < (s.size : Int)
    · have HN := Lib.hid (textOk_no (s := s) (.inr (by omega)))
      go_enter Tryz.func203, Tryz.ntmps203
      go_wp2_with (fail)
      go_ret
      exact ⟨ret_bool HN.out, rfl⟩
    · have OK := Lib.hid (textOk_ok (s := s) (by omega) (by omega))
      have BAD : Hid (∀ k (hk : k < s.size), printable (s[k]'hk) = false → textOk (tl s) = false) := Lib.hid (fun k hk h => textOk_bad hk h)
      have NX : Hid (∀ k (hk : k < s.size), ((tl s).take (k + 1)).all printable = (((tl s).take k).all printable && printable (s[k]'hk))) := Lib.hid (fun k hk => all_next hk)
      go_enter Tryz.func203, Tryz.ntmps203
      go_wp2_with (fail)
      go_loop [3] (fun i => ∃ k : Nat, i = .int .i64 k ∧ k ≤ s.size ∧ ((tl s).take k).all printable = true) (fun i => s.size - (intOf i).toNat)
      case atStart => exact ⟨0, rfl, by omega, by simp⟩
      case round =>
        obtain ⟨k, rfl, hk, ha⟩ := hrel
        have HA := Lib.hid ha
        clear ha
        by_cases hlt : k < s.size
        · have hkI : (k : Int) < (s.size : Int) := by omega
          have N1 := Lib.hid (NX.out k hlt)
          rcases pr_cases (s[k]'hlt) with ⟨hb, h1, h2⟩ | ⟨hb, hc⟩
          · have HB := Lib.hid hb
            clear hb
            go_wp2_with (fail)
            go_round
            case rel => exact ⟨k + 1, by go_num, by omega, by rw [N1.out, HA.out, HB.out]; rfl⟩
            case measure => simp [intOf]; omega
          · have HB := Lib.hid (BAD.out k hlt hb)
            clear hb
            rcases hc with h1 | ⟨h1, h2⟩
            all_goals
              go_wp2_with (fail)
              go_ret
              exact ⟨ret_bool HB.out, rfl⟩
        · obtain rfl : k = s.size := by omega
          go_wp2_with (fail)
          go_ret
          exact ⟨ret_bool (OK.out HA.out), rfl⟩
end Go.Proofs.YtcpkhaebcmgehaaGreatDoor.Lg
