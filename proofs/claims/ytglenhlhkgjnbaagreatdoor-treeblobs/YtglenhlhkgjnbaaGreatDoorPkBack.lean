/- What is packed is read again, and what is read is packed as the same bytes: in plain Lean, no program in sight. -/
import Derived.Test.YtglenhlhkgjnbaaGreatDoorPkSpec
namespace Go.Proofs.YtglenhlhkgjnbaaGreatDoor.Pk
open Go
theorem isDig_dig (n : Nat) (h : n < 10) : isDig (UInt8.ofNat (48 + n)) = true := by
  have : (UInt8.ofNat (48 + n)).toNat = 48 + n := UInt8.toNat_ofNat_of_lt' (by show 48 + n < 256; omega)
  simp [isDig, this]; omega
theorem dec_small {n : Nat} (h : n < 10) : Lib.decDigits n = [UInt8.ofNat (48 + n)] := by rw [Lib.decDigits, dif_pos h]
theorem dec_big {n : Nat} (h : ¬ n < 10) : Lib.decDigits n = Lib.decDigits (n / 10) ++ [UInt8.ofNat (48 + n % 10)] := by rw [Lib.decDigits, dif_neg h]
theorem dec_dig : ∀ (n : Nat), ∀ c ∈ Lib.decDigits n, isDig c = true := by
  intro n
  induction n using Nat.strongRecOn with
  | _ n ih =>
    by_cases h : n < 10
    · rw [dec_small h]; intro c hc; rw [List.mem_singleton.1 hc]; exact isDig_dig n h
    · rw [dec_big h]
      intro c hc
      rcases List.mem_append.1 hc with h1 | h1
      · exact ih (n / 10) (by omega) c h1
      · rw [List.mem_singleton.1 h1]; exact isDig_dig _ (by omega)
theorem dec_ne (n : Nat) : Lib.decDigits n ≠ [] := by
  by_cases h : n < 10
  · rw [dec_small h]; simp
  · rw [dec_big h]; simp
theorem dval_append (l : List UInt8) (c : UInt8) : dval (l ++ [c]) = 10 * dval l + (c.toNat - 48) := by unfold dval; rw [List.foldl_append]; rfl
theorem dval_dec : ∀ (n : Nat), dval (Lib.decDigits n) = n := by
  intro n
  induction n using Nat.strongRecOn with
  | _ n ih =>
    by_cases h : n < 10
    · rw [dec_small h]
      have : (UInt8.ofNat (48 + n)).toNat = 48 + n := UInt8.toNat_ofNat_of_lt' (by show 48 + n < 256; omega)
      simp only [dval, List.foldl_cons, List.foldl_nil, this]; omega
    · rw [dec_big h, dval_append, ih (n / 10) (by omega)]
      have : (UInt8.ofNat (48 + n % 10)).toNat = 48 + n % 10 := UInt8.toNat_ofNat_of_lt' (by show 48 + n % 10 < 256; omega)
      rw [this]; omega
theorem dec_len_le : ∀ (k n : Nat), n < 10 ^ (k + 1) → (Lib.decDigits n).length ≤ k + 1 := by
  intro k
  induction k with
  | zero => intro n h; rw [dec_small (by simpa using h)]; simp
  | succ k ih =>
    intro n h
    by_cases h10 : n < 10
    · rw [dec_small h10]; simp
    · rw [dec_big h10, List.length_append]
      have := ih (n / 10) (by rw [Nat.pow_succ] at h; omega)
      simp; omega
/-- the first digit is no nought, save of 0 -/
theorem dec_head : ∀ (n : Nat), n ≠ 0 → (Lib.decDigits n).getD 0 0 ≠ 48 := by
  intro n
  induction n using Nat.strongRecOn with
  | _ n ih =>
    intro h0
    by_cases h : n < 10
    · rw [dec_small h]
      have : (UInt8.ofNat (48 + n)).toNat = 48 + n := UInt8.toNat_ofNat_of_lt' (by show 48 + n < 256; omega)
      intro e
      have e' : UInt8.ofNat (48 + n) = 48 := by simpa using e
      have h48 := congrArg UInt8.toNat e'
      rw [this] at h48
      have : (48 : UInt8).toNat = 48 := rfl
      omega
    · rw [dec_big h]
      have hl : 0 < (Lib.decDigits (n / 10)).length := List.length_pos_iff.2 (dec_ne _)
      rw [List.getD_eq_getElem?_getD, List.getElem?_append_left hl, ← List.getD_eq_getElem?_getD]
      exact ih (n / 10) (by omega) (by omega)
theorem takeWhile_all {p : UInt8 → Bool} {l r : List UInt8} {c : UInt8} (h : ∀ x ∈ l, p x = true) (hc : p c = false) : (l ++ c :: r).takeWhile p = l := by
  induction l with
  | nil => simp [hc]
  | cons a l ih => rw [List.cons_append, List.takeWhile_cons, if_pos (h a (List.mem_cons_self ..)), ih (fun x hx => h x (List.mem_cons_of_mem _ hx))]
theorem takeWhile_self {p : UInt8 → Bool} : ∀ {l : List UInt8}, (∀ x ∈ l, p x = true) → l.takeWhile p = l
  | [], _ => rfl
  | a :: l, h => by rw [List.takeWhile_cons, if_pos (h a (List.mem_cons_self ..)), takeWhile_self (fun x hx => h x (List.mem_cons_of_mem _ hx))]
theorem mem_while {p : UInt8 → Bool} : ∀ {l : List UInt8} {c : UInt8}, c ∈ l.takeWhile p → p c = true
  | [], c, h => by simp at h
  | a :: l, c, h => by
    rw [List.takeWhile_cons] at h
    by_cases ha : p a = true
    · rw [if_pos ha] at h
      rcases List.mem_cons.1 h with rfl | h
      · exact ha
      · exact mem_while h
    · rw [if_neg ha] at h; simp at h
theorem kd_dec {n : Nat} (hn : n < 10000000) (r : List UInt8) : kd (Lib.decDigits n ++ 58 :: r) = (Lib.decDigits n).length := by
  have h7 := dec_len_le 6 n hn
  unfold kd
  rcases Nat.lt_or_ge (Lib.decDigits n).length 7 with h | h
  · rw [List.take_append, List.take_of_length_le (by omega)]
    obtain ⟨k, hk⟩ : ∃ k, 7 - (Lib.decDigits n).length = k + 1 := ⟨6 - (Lib.decDigits n).length, by omega⟩
    rw [hk, List.take_succ_cons, takeWhile_all (dec_dig n) (by decide)]
  · have : (Lib.decDigits n).length = 7 := by omega
    rw [List.take_append_of_le_length (by omega), List.take_of_length_le (by omega)]
    congr 1
    exact takeWhile_self (dec_dig n)
/-- (1) a packed text is read -/
theorem nxt_text {s : List UInt8} (hs : s.length < 10000000) (r : List UInt8) : nxt (text s ++ r) = .ok s r := by
  have e : text s ++ r = Lib.decDigits s.length ++ 58 :: (s ++ 44 :: r) := by simp [text]
  have hk := kd_dec hs (s ++ 44 :: r)
  have hpos : 0 < (Lib.decDigits s.length).length := List.length_pos_iff.2 (dec_ne _)
  have hlen : len (text s ++ r) = .inr (s.length, s ++ 44 :: r) := by
    unfold len
    rw [e]
    simp only [hk]
    rw [if_neg (by simp), if_neg]
    · rw [List.take_left, dval_dec]
      congr 2
      rw [List.drop_append, List.drop_of_length_le (by omega)]
      simp
    · intro h
      rcases h with h | h | ⟨h1, h2⟩
      · apply h
        rw [List.getD_eq_getElem?_getD, List.getElem?_append_right (Nat.le_refl _)]
        simp
      · omega
      · rw [List.getD_eq_getElem?_getD, List.getElem?_append_left (by omega), ← List.getD_eq_getElem?_getD] at h2
        refine dec_head s.length (fun h0 => ?_) h2
        rw [h0, dec_small (by omega)] at h1
        simp at h1
  unfold nxt
  rw [hlen]
  simp only
  rw [if_neg (by simp), if_neg]
  · simp
  · rw [List.getD_eq_getElem?_getD, List.getElem?_append_right (Nat.le_refl _)]
    simp
theorem text_ne (s r : List UInt8) : text s ++ r ≠ [] := by simp [text]
theorem lst_cons {t q l : List UInt8} (h0 : l ≠ []) (h : nxt l = .ok t q) : lst l = (lst q).map (t :: ·) := by
  rw [lst, if_neg h0]
  split
  · rename_i h2; rw [h] at h2; cases h2
  · rename_i h2; rw [h] at h2; injection h2 with h3 h4; rw [h3, h4]
/-- (2) -/
theorem lst_flat : ∀ (l : List (List UInt8)), (∀ t ∈ l, t.length < 10000000) → lst (l.flatMap text) = some l
  | [], _ => by rw [List.flatMap_nil, lst]; rfl
  | t :: l, h => by
    rw [List.flatMap_cons, lst_cons (text_ne _ _) (nxt_text (h t (List.mem_cons_self ..)) _), lst_flat l (fun x hx => h x (List.mem_cons_of_mem _ hx))]
    rfl
theorem mem_flat {l : List (List UInt8)} {t : List UInt8} (h : t ∈ l) : t.length < (l.flatMap text).length := by
  induction l with
  | nil => cases h
  | cons a l ih =>
    rw [List.flatMap_cons, List.length_append]
    rcases List.mem_cons.1 h with rfl | h
    · simp [text]; omega
    · have := ih h; omega
/-- a reader of a packed text -/
theorem text_read {s : List UInt8} (hs : s.length < 10000000) (r : List UInt8) : Rd.text ⟨text s ++ r, 0⟩ = (s, ⟨r, 0⟩) := by
  unfold Rd.text
  simp [nxt_text hs r]
theorem text_read' {s : List UInt8} (hs : s.length < 10000000) : Rd.text ⟨text s, 0⟩ = (s, ⟨[], 0⟩) := by
  have := text_read hs []
  rwa [List.append_nil] at this
/-- (3) -/
theorem list_read {l : List (List UInt8)} (hs : (l.flatMap text).length < 10000000) (r : List UInt8) : Rd.list ⟨list l ++ r, 0⟩ = (l, ⟨r, 0⟩) := by
  unfold Rd.list list
  rw [text_read hs r, lst_flat l (fun t ht => by have := mem_flat ht; omega)]
theorem list_read' {l : List (List UInt8)} (hs : (l.flatMap text).length < 10000000) : Rd.list ⟨list l, 0⟩ = (l, ⟨[], 0⟩) := by
  have := list_read hs []
  rwa [List.append_nil] at this
theorem fin_done : Rd.fin ⟨[], 0⟩ = 0 := by simp [Rd.fin]
/-- (5) things that are laid one by one are read again -/
theorem all_back {α : Type} {takes : Rd → α × Rd} {lays : α → List UInt8} {l : List α} (ht : ∀ x ∈ l, takes ⟨lays x, 0⟩ = (x, ⟨[], 0⟩)) (hs : ((l.map lays).flatMap text).length < 10000000) : all takes (list (l.map lays)) = (l, 0) := by
  have he : ∀ m : List α, (∀ x ∈ m, takes ⟨lays x, 0⟩ = (x, ⟨[], 0⟩)) → each takes (m.map lays) = some m := by
    intro m
    induction m with
    | nil => intro _; rfl
    | cons a m ih =>
      intro h
      rw [List.map_cons, each, h a (List.mem_cons_self ..), if_neg (by simp [fin_done]), ih (fun x hx => h x (List.mem_cons_of_mem _ hx))]
      rfl
  unfold all
  rw [list_read' hs]
  simp only [fin_done]
  rw [he l ht]
  rfl

/-! ### and back -/
theorem dval_cons_lt : ∀ (l : List UInt8) (a : Nat), 0 < a → a ≤ l.foldl (fun n c => 10 * n + (c.toNat - 48)) a
  | [], a, _ => Nat.le_refl _
  | c :: l, a, h => Nat.le_trans (by omega) (dval_cons_lt l (10 * a + (c.toNat - 48)) (by omega))
theorem dig_of {c : UInt8} (h : isDig c = true) : ∃ d, d < 10 ∧ c = UInt8.ofNat (48 + d) ∧ c.toNat = 48 + d := by
  simp only [isDig, Bool.and_eq_true, decide_eq_true_eq] at h
  refine ⟨c.toNat - 48, by omega, ?_, by omega⟩
  apply UInt8.toNat_inj.1
  rw [UInt8.toNat_ofNat_of_lt' (by show 48 + (c.toNat - 48) < 256; omega)]
  omega
/-- digits without a nought ahead are a number's own -/
theorem dec_dval (l : List UInt8) : (∀ c ∈ l, isDig c = true) → l ≠ [] → (1 < l.length → l.getD 0 0 ≠ 48) → Lib.decDigits (dval l) = l := by
  induction h : l.length using Nat.strongRecOn generalizing l with
  | _ n ih =>
    intro hd h0 hz
    rcases List.eq_nil_or_concat l with rfl | ⟨m, c, rfl⟩
    · exact absurd rfl h0
    · rw [List.concat_eq_append] at *
      obtain ⟨d, hd10, hc, hcn⟩ := dig_of (hd c (by simp))
      rw [dval_append, hcn]
      by_cases hm : m = []
      · subst hm
        rw [show 10 * dval [] + (48 + d - 48) = d by simp [dval], dec_small hd10, hc]
        rfl
      · have hml : 0 < m.length := List.length_pos_iff.2 hm
        have hg : (m ++ [c]).getD 0 0 = m.getD 0 0 := by
          rw [List.getD_eq_getElem?_getD, List.getElem?_append_left hml, ← List.getD_eq_getElem?_getD]
        have hz' := hz (by simp at h; omega)
        rw [hg] at hz'
        have h1 := ih m.length (by simp at h; omega) m rfl (fun x hx => hd x (by simp [hx])) hm (fun _ => hz')
        have hpos : 0 < dval m := by
          cases m with
          | nil => exact absurd rfl hm
          | cons a m =>
            obtain ⟨e, he10, hae, haen⟩ := dig_of (hd a (by simp))
            have : a ≠ 48 := by simpa using hz'
            have he : e ≠ 0 := fun h => this (by rw [hae, h]; rfl)
            unfold dval
            rw [List.foldl_cons, haen]
            exact Nat.lt_of_lt_of_le (by omega) (dval_cons_lt m _ (by omega))
        rw [dec_big (by omega), show (10 * dval m + (48 + d - 48)) / 10 = dval m by omega, show (10 * dval m + (48 + d - 48)) % 10 = d by omega, h1, hc]
theorem kd_le' (s : List UInt8) : kd s ≤ s.length := by
  have := (List.takeWhile_prefix (p := isDig) (l := s.take 7)).length_le
  unfold kd
  simp at this ⊢
  omega
theorem kd_take (s : List UInt8) : ∀ c ∈ s.take (kd s), isDig c = true := by
  have hp := List.takeWhile_prefix (p := isDig) (l := s.take 7)
  have e : s.take (kd s) = (s.take 7).takeWhile isDig := by
    have h7 : kd s ≤ 7 := by
      have := hp.length_le
      unfold kd
      simp at this ⊢
      omega
    have h1 : (s.take 7).take (kd s) = s.take (kd s) := by rw [List.take_take, Nat.min_eq_left h7]
    rw [← h1]
    exact (List.prefix_iff_eq_take.1 hp).symm
  rw [e]
  intro c hc
  exact mem_while hc
/-- (7) what is read is a packed text -/
theorem nxt_back {s t r : List UInt8} (h : nxt s = .ok t r) : s = text t ++ r := by
  unfold nxt at h
  rcases hl : len s with c | ⟨n, q⟩
  · rw [hl] at h; cases h
  · rw [hl] at h
    simp only at h
    unfold len at hl
    simp only at hl
    split at hl
    · cases hl
    · rename_i hk
      split at hl
      · cases hl
      · rename_i hx
        injection hl with hl
        injection hl with e1 e2
        split at h
        · cases h
        · rename_i hq
          split at h
          · cases h
          · rename_i hc
            injection h with e3 e4
            have hkl := kd_le' s
            have hk' : kd s < s.length := by omega
            have hg : s[kd s] = 58 := by
              apply Classical.byContradiction
              intro e
              apply hx
              refine .inl ?_
              rw [List.getD_eq_getElem?_getD, List.getElem?_eq_getElem hk']
              exact e
            have hqn : n < q.length := by omega
            have hg2 : q[n] = 44 := by
              apply Classical.byContradiction
              intro e
              apply hc
              rw [List.getD_eq_getElem?_getD, List.getElem?_eq_getElem hqn]
              exact e
            have ht : t.length = n := by rw [← e3]; simp; omega
            have hdec : Lib.decDigits n = s.take (kd s) := by
              rw [← e1]
              refine dec_dval _ (kd_take s) (fun e => ?_) (fun h1 e => ?_)
              · have := congrArg List.length e
                rw [List.length_take] at this
                simp only [List.length_nil] at this
                exact hx (.inr (.inl (by omega)))
              · rw [List.length_take] at h1
                refine hx (.inr (.inr ⟨by omega, ?_⟩))
                rw [List.getD_eq_getElem?_getD, List.getElem?_take, if_pos (by omega), ← List.getD_eq_getElem?_getD] at e
                exact e
            unfold text
            rw [ht, hdec, ← e3, ← e4]
            have hq2 : q = q.take n ++ 44 :: q.drop (n + 1) := by
              rw [← hg2, ← List.drop_eq_getElem_cons hqn, List.take_append_drop]
            have hs2 : s = s.take (kd s) ++ 58 :: q := by
              rw [← e2, ← hg, ← List.drop_eq_getElem_cons hk', List.take_append_drop]
            conv => lhs; rw [hs2, hq2]
            simp
/-- (8) -/
theorem lst_back : ∀ (n : Nat) (s : List UInt8), s.length ≤ n → ∀ l, lst s = some l → s = l.flatMap text := by
  intro n
  induction n with
  | zero =>
    intro s hs l h
    obtain rfl : s = [] := List.eq_nil_of_length_eq_zero (by omega)
    rw [lst] at h
    simp at h
    subst h; rfl
  | succ n ih =>
    intro s hs l h
    by_cases h0 : s = []
    · subst h0
      rw [lst] at h
      simp at h
      subst h; rfl
    · rcases hn : nxt s with c | ⟨t, q⟩
      · rw [lst, if_neg h0] at h
        split at h
        · cases h
        · rename_i h2; rw [hn] at h2; cases h2
      · rw [lst_cons h0 hn] at h
        have hq := nxt_lt hn
        cases hl : lst q with
        | none => rw [hl] at h; cases h
        | some m =>
          rw [hl] at h
          injection h with h
          subst h
          rw [List.flatMap_cons, ← ih q (by omega) m hl]
          exact nxt_back hn
theorem text_bad (r : Rd) (h : r.text.2.bad = 0) : r.bad = 0 ∧ r.rest = text r.text.1 ++ r.text.2.rest := by
  obtain ⟨s, b⟩ := r
  unfold Rd.text at h ⊢
  by_cases hb : b = 0
  · subst hb
    simp only [ne_eq, not_true_eq_false, if_false] at h ⊢
    rcases hn : nxt s with c | ⟨t, q⟩
    · rw [hn] at h
      simp only at h
      subst h
      exfalso
      unfold nxt at hn
      split at hn
      · rename_i e he
        injection hn with hn
        subst hn
        unfold len at he
        simp only at he
        split at he
        · injection he with he; omega
        · split at he
          · injection he with he; omega
          · cases he
      · split at hn
        · injection hn with hn; omega
        · split at hn
          · injection hn with hn; omega
          · cases hn
    · exact ⟨by simp, nxt_back hn⟩
  · simp only [ne_eq, hb, not_false_eq_true, if_true] at h
theorem list_bad (r : Rd) (h : r.list.2.bad = 0) : r.bad = 0 ∧ r.rest = list r.list.1 ++ r.list.2.rest := by
  unfold Rd.list at h ⊢
  cases hl : lst r.text.1 with
  | none => rw [hl] at h; simp at h
  | some l =>
    rw [hl] at h
    simp only at h ⊢
    obtain ⟨h1, h2⟩ := text_bad r h
    refine ⟨h1, ?_⟩
    rw [h2]
    unfold list
    rw [← lst_back _ _ (Nat.le_refl _) l hl]
theorem fin_zero {r : Rd} (h : r.fin = 0) : r.bad = 0 ∧ r.rest = [] := by
  unfold Rd.fin at h
  split at h
  · cases h
  · rename_i hx
    refine ⟨h, ?_⟩
    apply Classical.byContradiction
    intro e
    exact hx ⟨h, e⟩
/-- (11) what is read is laid as the same bytes -/
theorem all_same {α : Type} {takes : Rd → α × Rd} {lays : α → List UInt8} (hb : ∀ s, (takes ⟨s, 0⟩).2.fin = 0 → s = lays (takes ⟨s, 0⟩).1) {data : List UInt8} {l : List α} (h : all takes data = (l, 0)) : data = list (l.map lays) := by
  unfold all at h
  simp only at h
  split at h
  · rename_i hf
    injection h with h1 h2
    exact absurd h2 hf
  · rename_i hf
    obtain ⟨f1, f2⟩ := fin_zero (Classical.byContradiction hf)
    obtain ⟨_, e⟩ := list_bad ⟨data, 0⟩ f1
    have he : ∀ (ts : List (List UInt8)) (m : List α), each takes ts = some m → ts = m.map lays := by
      intro ts
      induction ts with
      | nil => intro m hm; rw [each] at hm; injection hm with hm; subst hm; rfl
      | cons t ts ih =>
        intro m hm
        rw [each] at hm
        split at hm
        · cases hm
        · rename_i hft
          cases hts : each takes ts with
          | none => rw [hts] at hm; cases hm
          | some m' =>
            rw [hts] at hm
            injection hm with hm
            subst hm
            rw [List.map_cons, ← ih m' hts, ← hb t (Classical.byContradiction hft)]
    split at h
    · injection h with h1 h2; omega
    · rename_i a ha
      injection h with h1 h2
      subst h1
      rw [← he _ _ ha]
      rw [f2, List.append_nil] at e
      exact e
end Go.Proofs.YtglenhlhkgjnbaaGreatDoor.Pk
