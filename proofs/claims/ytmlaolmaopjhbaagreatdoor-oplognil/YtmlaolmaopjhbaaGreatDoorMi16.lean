/- Joined by mkmerged.py: PkNext, PkRead. -/
import Derived.Test.YtmlaolmaopjhbaaGreatDoorMi15
import Derived.Lib.Atoi
import Derived.Lib.AtoiErrMem
/- PkNext, what a claim needs of it (prune.py). -/
namespace Go.Proofs.YtmlaolmaopjhbaaGreatDoor
open Go.RowKit
set_option linter.unusedVariables false
set_option maxRecDepth 100000
def lenV : Nat ⊕ (Nat × List UInt8) → Value
  | .inl c => .tuple #[.int .i64 0, .string ⟨#[]⟩, .int .i64 c]
  | .inr (n, r) => .tuple #[.int .i64 n, .string (bs r), .int .i64 0]
theorem kd_le (s : List UInt8) : Pk.kd s ≤ s.length ∧ Pk.kd s ≤ 7 := by
  have := (List.takeWhile_prefix (p := Pk.isDig) (l := s.take 7)).length_le
  unfold Pk.kd
  simp at this ⊢
  omega
theorem takeWhile_at {p : UInt8 → Bool} : ∀ (l : List UInt8) (j : Nat), j < (l.takeWhile p).length → ∃ c, l[j]? = some c ∧ p c = true
  | [], j, h => by simp at h
  | a :: l, j, h => by
    rw [List.takeWhile_cons] at h
    by_cases ha : p a = true
    · rw [if_pos ha] at h
      cases j with
      | zero => exact ⟨a, rfl, ha⟩
      | succ j => exact takeWhile_at l j (by simpa using h)
    · rw [if_neg ha] at h; simp at h
theorem takeWhile_end {p : UInt8 → Bool} : ∀ (l : List UInt8) (c : UInt8), l[(l.takeWhile p).length]? = some c → p c = false
  | [], c, h => by simp at h
  | a :: l, c, h => by
    rw [List.takeWhile_cons] at h
    by_cases ha : p a = true
    · rw [if_pos ha] at h
      exact takeWhile_end l c (by simpa using h)
    · rw [if_neg ha] at h
      simp at h
      subst h
      simpa using ha
theorem kd_dig {s : List UInt8} {j : Nat} (h : j < Pk.kd s) : ∃ c, s[j]? = some c ∧ 48 ≤ c.toNat ∧ c.toNat ≤ 57 := by
  obtain ⟨c, hc, hp⟩ := takeWhile_at (s.take 7) j h
  rw [List.getElem?_take] at hc
  split at hc
  · exact ⟨c, hc, by simpa [Pk.isDig] using hp⟩
  · cases hc
theorem kd_end {s : List UInt8} (h : Pk.kd s < s.length) : Pk.kd s = 7 ∨ ∃ c, s[Pk.kd s]? = some c ∧ ¬ (48 ≤ c.toNat ∧ c.toNat ≤ 57) := by
  have h7 := (kd_le s).2
  rcases Nat.lt_or_ge (Pk.kd s) 7 with h1 | h1
  · refine .inr ⟨s[Pk.kd s], List.getElem?_eq_getElem h, ?_⟩
    have := takeWhile_end (p := Pk.isDig) (s.take 7) s[Pk.kd s] (by
      rw [List.getElem?_take, if_pos (by unfold Pk.kd at h1; exact h1)]
      exact List.getElem?_eq_getElem h)
    simpa [Pk.isDig] using this
  · exact .inl (by omega)
theorem decFrom_digs : ∀ (l : List UInt8) (acc : Nat), (∀ c ∈ l, 48 ≤ c.toNat ∧ c.toNat ≤ 57) → Lib.decFrom acc l = some (l.foldl (fun n c => 10 * n + (c.toNat - 48)) acc)
  | [], acc, _ => rfl
  | a :: l, acc, h => by
    have ha := h a (List.mem_cons_self ..)
    have h1 : Lib.digitVal a = some (a.toNat - 48) := by simp [Lib.digitVal, ha]
    simp only [Lib.decFrom, h1, List.foldl_cons]
    rw [show acc * 10 + (a.toNat - 48) = 10 * acc + (a.toNat - 48) by omega]
    exact decFrom_digs l _ (fun c hc => h c (List.mem_cons_of_mem _ hc))
theorem atoi_digs (l : List UInt8) (h0 : l ≠ []) (h : ∀ c ∈ l, 48 ≤ c.toNat ∧ c.toNat ≤ 57) : Lib.atoi l = some (Pk.dval l : Int) := by
  cases l with
  | nil => exact absurd rfl h0
  | cons a l =>
    have ha := h a (List.mem_cons_self ..)
    have n1 : (a == 45) = false := by simp; intro e; subst e; simp at ha
    have n2 : (a == 43) = false := by simp; intro e; subst e; simp at ha
    simp only [Lib.atoi, n1, n2, Bool.false_eq_true, if_false, Lib.decNat, decFrom_digs _ _ h]
    rfl
theorem ret_val {a b : Value} (h : b = a) : Ending.returned a = .returned b := by rw [h]
theorem dval_go : ∀ (l : List UInt8) (a : Nat), (∀ c ∈ l, 48 ≤ c.toNat ∧ c.toNat ≤ 57) → l.foldl (fun n c => 10 * n + (c.toNat - 48)) a < (a + 1) * 10 ^ l.length
  | [], a, _ => by simp
  | x :: l, a, h => by
    have hx := h x (List.mem_cons_self ..)
    have := dval_go l (10 * a + (x.toNat - 48)) (fun c hc => h c (List.mem_cons_of_mem _ hc))
    simp only [List.foldl_cons, List.length_cons]
    refine Nat.lt_of_lt_of_le this ?_
    rw [Nat.pow_succ, Nat.mul_comm (10 ^ l.length) 10, ← Nat.mul_assoc]
    exact Nat.mul_le_mul_right _ (by omega)
theorem dval_lt (l : List UInt8) (h : ∀ c ∈ l, 48 ≤ c.toNat ∧ c.toNat ≤ 57) (h7 : l.length ≤ 7) : Pk.dval l < 100000000 := by
  have h1 := dval_go l 0 h
  have h2 : 10 ^ l.length ≤ 10 ^ 7 := Nat.pow_le_pow_right (by omega) h7
  unfold Pk.dval
  omega
theorem byte_at {s : ByteArray} {k : Nat} {c : UInt8} (h : (tl s)[k]? = some c) : ∃ hk : k < s.size, s[k]'hk = c := by
  obtain ⟨h1, h2⟩ := List.getElem?_eq_some_iff.1 h
  exact ⟨by rw [Lib.size_eq]; exact h1, h2⟩
theorem getD_byte {s : ByteArray} {k : Nat} (hk : k < s.size) : (tl s).getD k 0 = s[k]'hk := by
  rw [List.getD_eq_getElem?_getD, List.getElem?_eq_getElem (by rw [← Lib.size_eq]; exact hk)]
  rfl
theorem length_end {s : ByteArray} (h : Pk.kd (tl s) < s.size) : Pk.kd (tl s) = 7 ∨ (Pk.kd (tl s) < 7 ∧ (s[Pk.kd (tl s)]'h).toNat < 48) ∨ (Pk.kd (tl s) < 7 ∧ 57 < (s[Pk.kd (tl s)]'h).toNat) := by
  have h7 := (kd_le (tl s)).2
  rcases Nat.lt_or_ge (Pk.kd (tl s)) 7 with hl | hl
  · rcases kd_end (s := tl s) (by rw [← Lib.size_eq]; exact h) with h1 | ⟨c, h1, h2⟩
    · exact .inl h1
    · obtain ⟨_, h3⟩ := byte_at h1
      rw [h3]
      omega
  · exact .inl (by omega)
set_option maxHeartbeats 4000000 in
theorem length_any (s : ByteArray) (hs : s.size ≤ 1000000000) (w : World) :
    Calls Tryz.prog 183 #[.string s] w fun e w' => e = .returned (lenV (Pk.len (tl s))) ∧ Below w.heap.size w w' := by
  have hsz : (tl s).length = s.size := (Lib.size_eq s).symm
  have hK := kd_le (tl s)
  have DG : Hid (∀ j, j < Pk.kd (tl s) → ∃ hk : j < s.size, 48 ≤ (s[j]'hk).toNat ∧ (s[j]'hk).toNat ≤ 57) := Lib.hid (fun j hj => by
    obtain ⟨c, h1, h2, h3⟩ := kd_dig hj
    obtain ⟨hk, e⟩ := byte_at h1
    exact ⟨hk, by rw [e]; exact h2, by rw [e]; exact h3⟩)
  have EN := Lib.hid (length_end (s := s))
  have LN : Hid (∀ V, lenV (Pk.len (tl s)) = V → lenV (Pk.len (tl s)) = V) := Lib.hid (fun _ h => h)
  obtain ⟨K, eK⟩ : ∃ K, K = Pk.kd (tl s) := ⟨_, rfl⟩
  have EK := Lib.hid eK
  rw [← eK] at hK DG EN
  have HSZ := Lib.hid hsz
  have hK1 : K ≤ s.size := by omega
  have hK7 : K ≤ 7 := hK.2
  clear hK eK hsz
  go_enter Tryz.func183, Tryz.ntmps183
  go_wp2_with (fail)
  go_loop [5] (fun i => ∃ k : Nat, i = .int .i64 k ∧ k ≤ K) (fun i => K - (intOf i).toNat)
  case atStart => exact ⟨0, rfl, by omega⟩
  case round =>
    obtain ⟨k, rfl, hk⟩ := hrel
    by_cases hlt : k < K
    · obtain ⟨hks, d1, d2⟩ := DG.out k hlt
      have e1 : (k : Int) < (s.size : Int) := by omega
      have e2 : (k : Int) < 7 := by omega
      have e3 : (48 : Int) ≤ (s[k].toNat : Int) := by omega
      have e4 : (s[k].toNat : Int) ≤ 57 := by omega
      go_wp2_with (fail)
      go_round
      case rel => exact ⟨k + 1, by go_num, by omega⟩
      case measure => simp [intOf]; omega
    · obtain rfl : k = K := by omega
      have DD : Hid (∀ c ∈ (tl s).take k, 48 ≤ c.toNat ∧ c.toNat ≤ 57) := Lib.hid (fun c hc => by
        obtain ⟨j, hj, rfl⟩ := List.mem_iff_getElem.1 hc
        rw [List.length_take] at hj
        obtain ⟨hk, h1, h2⟩ := DG.out j (by omega)
        rw [List.getElem_take]
        exact ⟨h1, h2⟩)
      clear DG hlt hk
      rcases Nat.lt_or_ge k s.size with hks | hks
      · have e1 : (k : Int) < (s.size : Int) := by omega
        have n1 : ((k : Int) == (s.size : Int)) = false := by simp; omega
        have hend := EN.out hks
        have OUT : Hid ((s[k].toNat ≠ 58 ∨ k = 0 ∨ (1 < k ∧ (tl s).getD 0 0 = 48)) ∧ lenV (Pk.len (tl s)) = .tuple #[.int .i64 0, .string ⟨#[]⟩, .int .i64 11] ∨ ¬ (s[k].toNat ≠ 58 ∨ k = 0 ∨ (1 < k ∧ (tl s).getD 0 0 = 48)) ∧ lenV (Pk.len (tl s)) = .tuple #[.int .i64 (Pk.dval ((tl s).take k)), .string (bs ((tl s).drop (k + 1))), .int .i64 0]) := Lib.hid (by
          have hg : (tl s).getD k 0 = s[k] := getD_byte hks
          unfold Pk.len
          rw [← EK.out]
          simp only
          rw [if_neg (by rw [HSZ.out]; omega), hg]
          have hn : (s[k] ≠ 58) ↔ (s[k].toNat ≠ 58) := by rw [ne_eq, ne_eq, ← UInt8.toNat_inj]; rfl
          by_cases hc : s[k].toNat ≠ 58 ∨ k = 0 ∨ (1 < k ∧ (tl s).getD 0 0 = 48)
          · exact .inl ⟨hc, by rw [if_pos (by rw [hn]; exact hc)]; rfl⟩
          · exact .inr ⟨hc, by rw [if_neg (by rw [hn]; exact hc)]; rfl⟩)
        clear EK LN
        have AT : Hid (0 < k → ∀ W, Calls Tryz.prog 213 #[.string (s.extract 0 k)] W fun e w' => e = .returned (.tuple #[.int .i64 (Pk.dval ((tl s).take k)), .nilIface]) ∧ Below W.heap.size W w') := Lib.hid (fun h0 W => by
          have hx : (s.extract 0 k).data.toList = (tl s).take k := by rw [Lib.extract_data]; simp
          have hz : (s.extract 0 k).size = k := by rw [ByteArray.size_extract]; omega
          refine (Tryz.strconv_Atoi (s.extract 0 k) _ (by omega) (by rw [hx]; exact atoi_digs _ (by intro h; have := congrArg List.length h; rw [List.length_take] at this; simp only [List.length_nil] at this; have := HSZ.out; omega) DD.out) W).mono ?_
          rintro e w' ⟨h1, t, h2⟩
          exact ⟨h1, by rw [h2]; exact Lib.bytesWorld_below _ _ _⟩)
        have HV2 : Hid (lenV (Pk.len (tl s)) = .tuple #[.int .i64 (Pk.dval ((tl s).take k)), .string (bs ((tl s).drop (k + 1))), .int .i64 0] → lenV (Pk.len (tl s)) = .tuple #[.int .i64 (Pk.dval ((tl s).take k)), .string (s.extract (k + 1) s.size), .int .i64 0]) := Lib.hid (fun h => by
          rw [h, show bs ((tl s).drop (k + 1)) = s.extract (k + 1) s.size by rw [← bs_of (s.extract (k + 1) s.size), Lib.extract_to_end]])
        have hdv : Pk.dval ((tl s).take k) < 100000000 := dval_lt _ DD.out (by rw [List.length_take]; omega)
        clear EN DD
        generalize Pk.dval ((tl s).take k) = nv at *
        rcases hend with h7 | ⟨hl7, h8⟩ | ⟨hl7, h9⟩
        · have e2 : ¬ (k : Int) < 7 := by omega
          have h7' : 7 ≤ k := by omega
          clear h7
          by_cases g58 : s[k].toNat = 58
          · have a5 : (s[k].toNat : Int) = 58 := by omega
            have a6 : ((k : Int) == 0) = false := by simp; omega
            by_cases g1 : 1 < k
            · have s0 : 0 < s.size := by omega
              have a9 : (1 : Int) < (k : Int) := by omega
              by_cases gz : s[0].toNat = 48
              · have hV := OUT.out.resolve_right (fun h => h.1 (.inr (.inr ⟨g1, by rw [getD_byte s0]; exact UInt8.toNat_inj.1 gz⟩))) |>.2
                have a10 : ((s[0].toNat : Int) == 48) = true := by simp; omega
                have HV := Lib.hid hV
                clear OUT AT HV2 hV
                try clear g58
                try clear g0
                try clear gz
                go_wp2_with (fail)
                go_ret3
                exact ⟨ret_val HV.out, Below.refl _ _⟩
              · have HW := Lib.hid <| HV2.out (OUT.out.resolve_left (fun h => by
                  rcases h.1 with h | h | h
                  · exact h g58
                  · omega
                  · rw [getD_byte s0] at h; exact gz (by rw [h.2]; rfl))).2
                have a10 : ((s[0].toNat : Int) == 48) = false := by simp; omega
                have a7 : (k : Int) ≤ (s.size : Int) := by omega
                have a8 : (k : Int) + 1 ≤ (s.size : Int) := by omega
                have AT1 := Lib.hid (AT.out (by omega))
                clear OUT AT HV2
                try clear g58
                try clear gz
                go_wp2_with (go_at_call 213; ((with_reducible refine (AT1.out _).mono ?_); rintro e w1 ⟨rfl, hb1⟩))
                go_quiet (fail)
                go_wp2
                go_ret3
                exact ⟨ret_val HW.out, hb1.trans (belowDN (Below.refl _ _) _)⟩
            · omega
          · have hV := OUT.out.resolve_right (fun h => h.1 (.inl g58)) |>.2
            have a5 : (s[k].toNat : Int) ≠ 58 := by omega
            have HV := Lib.hid hV
            clear OUT AT HV2 hV
            try clear g58
            try clear g0
            try clear gz
            go_wp2_with (fail)
            go_ret3
            exact ⟨ret_val HV.out, Below.refl _ _⟩
        · have e2 : (k : Int) < 7 := by omega
          have e3 : ¬ (48 : Int) ≤ (s[k].toNat : Int) := by omega
          by_cases g58 : s[k].toNat = 58
          · omega
          · have hV := OUT.out.resolve_right (fun h => h.1 (.inl g58)) |>.2
            have a5 : (s[k].toNat : Int) ≠ 58 := by omega
            have HV := Lib.hid hV
            clear OUT AT HV2 hV
            try clear g58
            try clear g0
            try clear gz
            go_wp2_with (fail)
            go_ret3
            exact ⟨ret_val HV.out, Below.refl _ _⟩
        · have e2 : (k : Int) < 7 := by omega
          have e3 : ¬ (s[k].toNat : Int) ≤ 57 := by omega
          have e4 : (48 : Int) ≤ (s[k].toNat : Int) := by omega
          by_cases g58 : s[k].toNat = 58
          · have a5 : (s[k].toNat : Int) = 58 := by omega
            by_cases g0 : k = 0
            · have hV := OUT.out.resolve_right (fun h => h.1 (.inr (.inl g0))) |>.2
              have a6 : ((k : Int) == 0) = true := by simp; omega
              have HV := Lib.hid hV
              clear OUT AT HV2 hV
              try clear g58
              try clear g0
              try clear gz
              go_wp2_with (fail)
              go_ret3
              exact ⟨ret_val HV.out, Below.refl _ _⟩
            · have a6 : ((k : Int) == 0) = false := by simp; omega
              by_cases g1 : 1 < k
              · have s0 : 0 < s.size := by omega
                have a9 : (1 : Int) < (k : Int) := by omega
                by_cases gz : s[0].toNat = 48
                · have hV := OUT.out.resolve_right (fun h => h.1 (.inr (.inr ⟨g1, by rw [getD_byte s0]; exact UInt8.toNat_inj.1 gz⟩))) |>.2
                  have a10 : ((s[0].toNat : Int) == 48) = true := by simp; omega
                  have HV := Lib.hid hV
                  clear OUT AT HV2 hV
                  try clear g58
                  try clear g0
                  try clear gz
                  go_wp2_with (fail)
                  go_ret3
                  exact ⟨ret_val HV.out, Below.refl _ _⟩
                · have HW := Lib.hid <| HV2.out (OUT.out.resolve_left (fun h => by
                    rcases h.1 with h | h | h
                    · exact h g58
                    · omega
                    · rw [getD_byte s0] at h; exact gz (by rw [h.2]; rfl))).2
                  have a10 : ((s[0].toNat : Int) == 48) = false := by simp; omega
                  have a7 : (k : Int) ≤ (s.size : Int) := by omega
                  have a8 : (k : Int) + 1 ≤ (s.size : Int) := by omega
                  have AT1 := Lib.hid (AT.out (by omega))
                  clear OUT AT HV2
                  try clear g58
                  try clear gz
                  go_wp2_with (go_at_call 213; ((with_reducible refine (AT1.out _).mono ?_); rintro e w1 ⟨rfl, hb1⟩))
                  go_quiet (fail)
                  go_wp2
                  go_ret3
                  exact ⟨ret_val HW.out, hb1.trans (belowDN (Below.refl _ _) _)⟩
              · have HW := Lib.hid <| HV2.out (OUT.out.resolve_left (fun h => by
                  rcases h.1 with h | h | h
                  · exact h g58
                  · omega
                  · omega)).2
                have a9 : ¬ (1 : Int) < (k : Int) := by omega
                have a7 : (k : Int) ≤ (s.size : Int) := by omega
                have a8 : (k : Int) + 1 ≤ (s.size : Int) := by omega
                have AT1 := Lib.hid (AT.out (by omega))
                clear OUT AT HV2
                try clear g58
                try clear gz
                go_wp2_with (go_at_call 213; ((with_reducible refine (AT1.out _).mono ?_); rintro e w1 ⟨rfl, hb1⟩))
                go_quiet (fail)
                go_wp2
                go_ret3
                exact ⟨ret_val HW.out, hb1.trans (belowDN (Below.refl _ _) _)⟩
          · have hV := OUT.out.resolve_right (fun h => h.1 (.inl g58)) |>.2
            have a5 : (s[k].toNat : Int) ≠ 58 := by omega
            have HV := Lib.hid hV
            clear OUT AT HV2 hV
            try clear g58
            try clear g0
            try clear gz
            go_wp2_with (fail)
            go_ret3
            exact ⟨ret_val HV.out, Below.refl _ _⟩
      · obtain rfl : k = s.size := by omega
        have hV : lenV (Pk.len (tl s)) = .tuple #[.int .i64 0, .string ⟨#[]⟩, .int .i64 10] := by
          unfold Pk.len
          rw [← EK.out]
          simp only
          rw [if_pos HSZ.out.symm]
          rfl
        have HV := Lib.hid hV
        clear hV
        clear EK LN EN
        go_wp2_with (fail)
        go_ret3
        exact ⟨ret_val HV.out, Below.refl _ _⟩
end Go.Proofs.YtmlaolmaopjhbaaGreatDoor
/- PkRead, what a claim needs of it (prune.py). -/
namespace Go.Proofs.YtmlaolmaopjhbaaGreatDoor
open Go.RowKit
set_option linter.unusedVariables false
set_option maxRecDepth 100000
def nxV : Pk.Nx → Value
  | .bad c => .tuple #[.string ⟨#[]⟩, .string ⟨#[]⟩, .int .i64 c]
  | .ok t r => .tuple #[.string (bs t), .string (bs r), .int .i64 0]
theorem len_bad {l : List UInt8} {c : Nat} (h : Pk.len l = .inl c) : c = 10 ∨ c = 11 := by
  unfold Pk.len at h
  simp only at h
  split at h
  · injection h with h; exact .inl h.symm
  · split at h
    · injection h with h; exact .inr h.symm
    · cases h
theorem len_good {l r : List UInt8} {n : Nat} (h : Pk.len l = .inr (n, r)) : r.length ≤ l.length ∧ n < 100000000 := by
  unfold Pk.len at h
  simp only at h
  split at h
  · cases h
  · split at h
    · cases h
    · injection h with h
      injection h with h1 h2
      subst h1 h2
      refine ⟨by simp, ?_⟩
      refine dval_lt _ (fun c hc => ?_) (by rw [List.length_take]; have := (kd_le l).2; omega)
      obtain ⟨j, hj, rfl⟩ := List.mem_iff_getElem.1 hc
      rw [List.length_take] at hj
      obtain ⟨c, h1, h2, h3⟩ := kd_dig (s := l) (j := j) (by omega)
      rw [List.getElem_take]
      have := (List.getElem?_eq_some_iff.1 h1).2
      rw [this]
      exact ⟨h2, h3⟩
set_option maxHeartbeats 4000000 in
theorem next_any (l : List UInt8) (hs : l.length ≤ 1000000000) (w : World) :
    Calls Tryz.prog 140 #[.string (bs l)] w fun e w' => e = .returned (nxV (Pk.nxt l)) ∧ Below w.heap.size w w' := by
  have LN := length_any (bs l) (by rw [bs_size]; omega)
  rw [show tl (bs l) = l from rfl] at LN
  rcases hlen : Pk.len l with c | ⟨n, r⟩
  · have hc := len_bad hlen
    have HV : Hid (nxV (Pk.nxt l) = .tuple #[.string ⟨#[]⟩, .string ⟨#[]⟩, .int .i64 c]) := Lib.hid (by unfold Pk.nxt; rw [hlen]; rfl)
    rw [hlen, show lenV (.inl c) = .tuple #[.int .i64 0, .string ⟨#[]⟩, .int .i64 c] from rfl] at LN
    have LNH := Lib.hid LN
    clear LN hlen
    rcases hc with rfl | rfl
    all_goals
      go_enter Tryz.func140, Tryz.ntmps140
      go_wp2_with (go_at_call 183; ((with_reducible refine (LNH.out _).mono ?_); rintro e w1 ⟨rfl, hb1⟩))
      go_ret3
      exact ⟨ret_val HV.out, hb1⟩
  · obtain ⟨hr, hn⟩ := len_good hlen
    rw [hlen, show lenV (.inr (n, r)) = .tuple #[.int .i64 n, .string (bs r), .int .i64 0] from rfl] at LN
    have LNH := Lib.hid LN
    clear LN
    have hrs := bs_size r
    obtain ⟨R, eR⟩ : ∃ R, R = bs r := ⟨_, rfl⟩
    have hRl : tl R = r := by rw [eR]; rfl
    rw [← eR] at LNH hrs
    have OUT : nxV (Pk.nxt l) = if r.length ≤ n then .tuple #[.string ⟨#[]⟩, .string ⟨#[]⟩, .int .i64 10] else if r.getD n 0 ≠ 44 then .tuple #[.string ⟨#[]⟩, .string ⟨#[]⟩, .int .i64 11] else .tuple #[.string (bs (r.take n)), .string (bs (r.drop (n + 1))), .int .i64 0] := by
      unfold Pk.nxt
      rw [hlen]
      simp only
      split
      · rfl
      · split <;> rfl
    by_cases h1 : r.length ≤ n
    · have HV := Lib.hid (OUT.trans (if_pos h1))
      have i1 : R.size ≤ n := by omega
      have i1' : (R.size : Int) ≤ (n : Int) := by omega
      clear OUT hlen eR hRl hrs
      go_enter Tryz.func140, Tryz.ntmps140
      go_wp2_with (go_at_call 183; ((with_reducible refine (LNH.out _).mono ?_); rintro e w1 ⟨rfl, hb1⟩))
      go_ret3
      exact ⟨ret_val HV.out, hb1⟩
    · have i1 : ¬ R.size ≤ n := by omega
      have hnR : n < R.size := by omega
      have i2 : (n : Int) < (R.size : Int) := by omega
      have i3 : (n : Int) + 1 ≤ (R.size : Int) := by omega
      have i4 : (n : Int) ≤ (R.size : Int) := by omega
      have hg : r.getD n 0 = R[n] := by rw [← hRl]; exact getD_byte hnR
      have hq : (r.getD n 0 ≠ 44) ↔ R[n].toNat ≠ 44 := by rw [hg, ne_eq, ne_eq, ← UInt8.toNat_inj]; rfl
      by_cases h2 : R[n].toNat ≠ 44
      · have HV := Lib.hid ((OUT.trans (if_neg h1)).trans (if_pos (hq.2 h2)))
        have j1 : (R[n].toNat : Int) ≠ 44 := by omega
        clear OUT hlen eR hRl hrs hg hq
        go_enter Tryz.func140, Tryz.ntmps140
        go_wp2_with (go_at_call 183; ((with_reducible refine (LNH.out _).mono ?_); rintro e w1 ⟨rfl, hb1⟩))
        go_ret3
        exact ⟨ret_val HV.out, hb1⟩
      · have hV := (OUT.trans (if_neg h1)).trans (if_neg (fun h => h2 (hq.1 h)))
        have b1 : bs (r.take n) = R.extract 0 n := by rw [← bs_of (R.extract 0 n), Lib.extract_data, show R.data.toList = r from hRl]; simp
        have b2 : bs (r.drop (n + 1)) = R.extract (n + 1) R.size := by rw [← bs_of (R.extract (n + 1) R.size), Lib.extract_to_end, show R.data.toList = r from hRl]
        rw [b1, b2] at hV
        have HV := Lib.hid hV
        have j1 : (R[n].toNat : Int) = 44 := by omega
        clear OUT hlen eR hRl hrs hg hq hV b1 b2 h2
        go_enter Tryz.func140, Tryz.ntmps140
        go_wp2_with (go_at_call 183; ((with_reducible refine (LNH.out _).mono ?_); rintro e w1 ⟨rfl, hb1⟩))
        go_quiet (fail)
        go_wp2
        go_ret3
        exact ⟨ret_val HV.out, hb1.trans (belowDN (Below.refl _ _) _)⟩
def RdAt (w : World) (b : Nat) (r : Pk.Rd) : Prop := w.heap[b]? = some (.cells #[.string (bs r.rest), .int .i64 r.bad] 182 (0, 0))
set_option maxHeartbeats 4000000 in
theorem rtext_any (b : Nat) (r : Pk.Rd) (hs : r.rest.length ≤ 1000000000) (w : World) (h : RdAt w b r) :
    Calls Tryz.prog 137 #[.pointer (some ⟨b, 0, none⟩)] w fun e w' => e = .returned (.string (bs r.text.1)) ∧ RdAt w' b r.text.2 ∧ w.grownBy w' (some b) := by
  obtain ⟨l, bad⟩ := r
  have c0 : w.cell? ⟨b, 0, none⟩ = some (.string (bs l)) := (cell_heap h 0).trans rfl
  have c1 : w.cell? ⟨b, 1, none⟩ = some (.int .i64 bad) := (cell_heap h 1).trans rfl
  by_cases hb : bad = 0
  · subst hb
    have f0 : w.frozen? ⟨b, 0, none⟩ = false := frozen_heap h 0
    have f1 : w.frozen? ⟨b, 1, none⟩ = false := frozen_heap h 1
    have NX := next_any l hs w
    rcases hn : Pk.nxt l with c | ⟨t, q⟩
    · rw [hn, show nxV (.bad c) = .tuple #[.string ⟨#[]⟩, .string ⟨#[]⟩, .int .i64 c] from rfl] at NX
      have hc : c = 10 ∨ c = 11 := by
        unfold Pk.nxt at hn
        split at hn
        · rename_i e he; injection hn with hn; subst hn; exact len_bad he
        · split at hn
          · injection hn with hn; exact .inl hn.symm
          · split at hn
            · injection hn with hn; exact .inr hn.symm
            · cases hn
      have HT : Hid (Pk.Rd.text ⟨l, 0⟩ = ([], ⟨l, c⟩)) := Lib.hid (by unfold Pk.Rd.text; simp [hn])
      have NXH := Lib.hid NX
      clear NX hn
      have hbl : b < w.heap.size := lt_heap h
      have H := Lib.hid h
      clear h
      rcases hc with rfl | rfl
      all_goals
        go_enter Tryz.func137, Tryz.ntmps137
        go_wp2_with (go_at_call 140; ((with_reducible refine (NXH.out).mono ?_); rintro e w1 ⟨rfl, hb1⟩; have d1 := (hb1.cell (p := ⟨b, 1, none⟩) hbl).trans c1; have g1 := (hb1.frozen (p := ⟨b, 1, none⟩) hbl).trans f1))
        go_ret
        refine ⟨ret_str (by rw [HT.out]; rfl), ?_, ?_⟩
        · rw [HT.out]
          exact heap_set (heap_below hb1 hbl H.out)
        · exact grown_set (grown_of_below hb1 _) (.inr rfl) _ _
    · rw [hn, show nxV (.ok t q) = .tuple #[.string (bs t), .string (bs q), .int .i64 0] from rfl] at NX
      have HT : Hid (Pk.Rd.text ⟨l, 0⟩ = (t, ⟨q, 0⟩)) := Lib.hid (by unfold Pk.Rd.text; simp [hn])
      have NXH := Lib.hid NX
      clear NX hn
      have hbl : b < w.heap.size := lt_heap h
      have H := Lib.hid h
      clear h
      go_enter Tryz.func137, Tryz.ntmps137
      go_wp2_with (go_at_call 140; ((with_reducible refine (NXH.out).mono ?_); rintro e w1 ⟨rfl, hb1⟩; have d1 := (hb1.cell (p := ⟨b, 0, none⟩) hbl).trans c0; have g1 := (hb1.frozen (p := ⟨b, 0, none⟩) hbl).trans f0))
      go_ret
      refine ⟨ret_str (by rw [HT.out]), ?_, ?_⟩
      · rw [HT.out]
        exact heap_set (heap_below hb1 hbl H.out)
      · exact grown_set (grown_of_below hb1 _) (.inr rfl) _ _
  · have n1 : ((bad : Int) != 0) = true := by simp; omega
    have HT : Hid (Pk.Rd.text ⟨l, bad⟩ = ([], ⟨l, bad⟩)) := Lib.hid (by unfold Pk.Rd.text; simp [hb])
    have H := Lib.hid h
    clear h
    go_enter Tryz.func137, Tryz.ntmps137
    go_wp2_with (fail)
    go_ret
    exact ⟨ret_str (by rw [HT.out]; rfl), by rw [HT.out]; exact H.out, grown_refl _ _⟩
end Go.Proofs.YtmlaolmaopjhbaaGreatDoor
namespace Go.Proofs.YtmlaolmaopjhbaaGreatDoor
open Go.RowKit
set_option linter.unusedVariables false
set_option maxRecDepth 100000
theorem read_any (l : List UInt8) (w : World) :
    Calls Tryz.prog 69 #[.string (bs l)] w fun e w' => e = .returned (.pointer (some ⟨w.heap.size, 0, none⟩)) ∧ RdAt w' w.heap.size ⟨l, 0⟩ ∧ Below w.heap.size w w' := by
  go_enter Tryz.func69, Tryz.ntmps69
  go_wp2_with (fail)
  go_ret
  exact ⟨rfl, heap_alloc_new w _, (Below.refl _ _).alloc (Nat.le_refl _) _⟩
theorem bs_nil : bs [] = ⟨#[]⟩ := rfl
theorem bs_ne {l : List UInt8} (h : l ≠ []) : (bs l).toList.isEmpty = false := by
  rw [Lib.toList_data]
  cases l with
  | nil => exact absurd rfl h
  | cons a l => rfl
theorem rend_any (b : Nat) (r : Pk.Rd) (w : World) (h : RdAt w b r) :
    Calls Tryz.prog 71 #[.pointer (some ⟨b, 0, none⟩)] w fun e w' => e = .returned (.int .i64 r.fin) ∧ w = w' := by
  obtain ⟨l, bad⟩ := r
  have c0 : w.cell? ⟨b, 0, none⟩ = some (.string (bs l)) := (cell_heap h 0).trans rfl
  have c1 : w.cell? ⟨b, 1, none⟩ = some (.int .i64 bad) := (cell_heap h 1).trans rfl
  clear h
  by_cases hb : bad = 0
  · subst hb
    by_cases hl : l = []
    · subst hl
      rw [bs_nil] at c0
      have HV : Hid (Pk.Rd.fin ⟨[], 0⟩ = 0) := Lib.hid (by simp [Pk.Rd.fin])
      go_enter Tryz.func71, Tryz.ntmps71
      go_wp2_with (fail)
      go_ret
      exact ⟨ret_val (by rw [HV.out]; rfl), rfl⟩
    · have HV : Hid (Pk.Rd.fin ⟨l, 0⟩ = 12) := Lib.hid (by simp [Pk.Rd.fin, hl])
      have e1 := bs_ne hl
      clear hl
      go_enter Tryz.func71, Tryz.ntmps71
      go_wp2_with (fail)
      go_ret
      exact ⟨ret_val (by rw [HV.out]; rfl), rfl⟩
  · have HV : Hid (Pk.Rd.fin ⟨l, bad⟩ = bad) := Lib.hid (by simp [Pk.Rd.fin, hb])
    have n1 : ((bad : Int) == 0) = false := by simp; omega
    clear hb
    go_enter Tryz.func71, Tryz.ntmps71
    go_wp2_with (fail)
    go_ret
    exact ⟨ret_val (by rw [HV.out]; rfl), rfl⟩
theorem lst_nil : Pk.lst [] = some [] := by rw [Pk.lst]; rfl
theorem lst_bad {l : List UInt8} {c : Nat} (h0 : l ≠ []) (h : Pk.nxt l = .bad c) : Pk.lst l = none := by
  rw [Pk.lst, if_neg h0]
  split
  · rfl
  · rename_i h2; rw [h] at h2; cases h2
theorem lst_ok {l t q : List UInt8} (h0 : l ≠ []) (h : Pk.nxt l = .ok t q) : Pk.lst l = (Pk.lst q).map (t :: ·) := by
  rw [Pk.lst, if_neg h0]
  split
  · rename_i h2; rw [h] at h2; cases h2
  · rename_i h2; rw [h] at h2; injection h2 with h3 h4; rw [h3, h4]
theorem nxt_bad {l : List UInt8} {c : Nat} (hn : Pk.nxt l = .bad c) : c = 10 ∨ c = 11 := by
  unfold Pk.nxt at hn
  split at hn
  · rename_i e he; injection hn with hn; subst hn; exact len_bad he
  · split at hn
    · injection hn with hn; exact .inl hn.symm
    · split at hn
      · injection hn with hn; exact .inr hn.symm
      · cases hn
theorem rtext_lt (r : Pk.Rd) : r.text.1.length ≤ r.rest.length := by
  unfold Pk.Rd.text
  split
  · simp
  · split
    · simp
    · rename_i t q h
      unfold Pk.nxt at h
      split at h
      · cases h
      · rename_i n r' he
        have := (len_good he).1
        split at h
        · cases h
        · split at h
          · cases h
          · injection h with h1 h2
            subst h1
            simp
            omega
def strLen : Value → Nat
  | .string s => s.size
  | _ => 0
def ListSays (b : Nat) (r : Pk.Rd) (w : World) (e : Ending) (w' : World) : Prop :=
  ∃ v, e = .returned v ∧ w'.ownsRow w.heap.size 9 1 v r.list.1.length (r.list.1.map fun t => Value.string (bs t)) ∧ RdAt w' b r.list.2 ∧ w.grownBy w' (some b)
theorem RdAt.later {w w' : World} {b : Nat} {r : Pk.Rd} (h : RdAt w b r) (k : Below w.heap.size w w') : RdAt w' b r := heap_below k (lt_heap h) h
theorem grown_below {w w1 w2 : World} {r : Option Nat} (h : w.grownBy w1 r) (k : Below w.heap.size w1 w2) : w.grownBy w2 r :=
  ⟨k.os.trans h.os, k.tape.trans h.tape, k.output.trans h.output, Nat.le_trans h.size k.size, fun b hb hr => (k.block b hb).trans (h.block b hb hr)⟩
set_option maxHeartbeats 4000000 in
theorem rlist_any (b : Nat) (r : Pk.Rd) (hs : r.rest.length ≤ 1000000000) (w : World) (h : RdAt w b r) :
    Calls Tryz.prog 70 #[.pointer (some ⟨b, 0, none⟩)] w (ListSays b r w) := by
  have RT := rtext_any b r hs w h
  have hl0 : r.text.1.length ≤ 1000000000 := Nat.le_trans (rtext_lt r) hs
  have RLS : Hid (∀ l, Pk.lst r.text.1 = some l → r.list = (l, r.text.2)) := Lib.hid (fun l h => by unfold Pk.Rd.list; rw [h])
  have RLN : Hid (Pk.lst r.text.1 = none → r.list = ([], ⟨r.text.2.rest, 11⟩)) := Lib.hid (fun h => by unfold Pk.Rd.list; rw [h])
  have hbw : b < w.heap.size := lt_heap h
  clear h
  generalize r.text.1 = s0 at *
  generalize r.text.2 = r1 at *
  have RTH := Lib.hid RT
  clear RT
  go_enter Tryz.func70, Tryz.ntmps70
  go_wp2_with (go_at_call 137; ((with_reducible refine (RTH.out).mono ?_); rintro e w1 ⟨rfl, hrd, hg1⟩))
  go_loopw [3, 4] (fun s v wx => ∃ cur pre, s = .string (bs cur) ∧ cur.length ≤ 1000000000 ∧ Pk.lst s0 = (Pk.lst cur).map (pre ++ ·) ∧ wx.ownsRow w.heap.size 9 1 v pre.length (pre.map fun t => Value.string (bs t)) ∧ pre.length + cur.length ≤ 1000000000 ∧ RdAt wx b r1 ∧ w.grownBy wx (some b)) (fun s _ _ => strLen s)
  case atStart => exact ⟨s0, [], rfl, hl0, by simp, by simpa using World.ownsRow_nil _ _ _ _, by simpa using hl0, hrd, hg1⟩
  case round =>
    obtain ⟨cur, pre, rfl, hcl, hls, hown, hpc, hrdx, hgx⟩ := hrel
    rename World => wx
    clear hrd hg1
    by_cases hc : cur = []
    · subst hc
      rw [lst_nil] at hls
      have RL := Lib.hid (RLS.out _ hls)
      clear hls hcl
      rw [bs_nil]
      obtain ⟨p, m, c', rfl⟩ := own_form hown
      go_wp2_with (fail)
      go_ret
      exact ⟨_, rfl, by rw [RL.out]; simpa using hown, by rw [RL.out]; exact hrdx, hgx⟩
    · have e1 := bs_ne hc
      have NX := next_any cur hcl wx
      have hBx := hgx.size
      rcases hn : Pk.nxt cur with c | ⟨t, q⟩
      · rw [hn, show nxV (.bad c) = .tuple #[.string ⟨#[]⟩, .string ⟨#[]⟩, .int .i64 c] from rfl] at NX
        have hcc := nxt_bad hn
        rw [lst_bad hc hn] at hls
        have RL := Lib.hid (RLN.out hls)
        have NXH := Lib.hid NX
        have HRD := Lib.hid hrdx
        have hbl : b < wx.heap.size := lt_heap hrdx
        have c1 : wx.cell? ⟨b, 1, none⟩ = some (.int .i64 r1.bad) := (cell_heap hrdx 1).trans rfl
        have f1 : wx.frozen? ⟨b, 1, none⟩ = false := frozen_heap hrdx 1
        clear NX hn hls hc hrdx
        rcases hcc with rfl | rfl
        all_goals
          go_wp2_with (go_at_call 140; ((with_reducible refine (NXH.out).mono ?_); rintro e w1 ⟨rfl, hb1⟩; have d1 := (hb1.cell (p := ⟨b, 1, none⟩) hbl).trans c1; have g1 := (hb1.frozen (p := ⟨b, 1, none⟩) hbl).trans f1))
          go_ret
          refine ⟨_, rfl, ?_, ?_, ?_⟩
          · rw [RL.out]; simpa using World.ownsRow_nil _ _ _ _
          · rw [RL.out]; exact heap_set (heap_below hb1 hbl HRD.out)
          · exact grown_set (grown_trans hgx (grown_of_below hb1 _)) (.inr rfl) _ _
      · rw [hn, show nxV (.ok t q) = .tuple #[.string (bs t), .string (bs q), .int .i64 0] from rfl] at NX
        have hql := Pk.nxt_lt hn
        rw [lst_ok hc hn] at hls
        have HLS : Hid (Pk.lst s0 = (Pk.lst q).map ((pre ++ [t]) ++ ·)) := Lib.hid (by rw [hls]; cases Pk.lst q <;> simp)
        have NXH := Lib.hid NX
        have hk9 : pre.length + 1 ≤ 1000000000 := by omega
        have PM : Hid ((pre ++ [t]).map (fun t => Value.string (bs t)) = pre.map (fun t => Value.string (bs t)) ++ [.string (bs t)]) := Lib.hid (by simp)
        clear NX hn hls hc
        go_wp2_with (first | (go_at_call 140; ((with_reducible refine (NXH.out).mono ?_); rintro e w1 ⟨rfl, hb1⟩; have hown1 := own_later hown hb1; have hB := Nat.le_trans hBx hb1.size; clear hown)) | (at_builtin; refine append_one (w0 := w1) rfl (.tmp 25) (.tmp 27) 65 rfl w.heap.size 9 _ 16 Tryz.underlying65 str_info rfl (by decide) _ pre.length _ rfl hown1 (.string (bs t)) rfl rfl hk9 hB (Below.refl _ _) ?_; intro v' w2 hown2 hb2 _))
        go_roundw
        case rel =>
          refine ⟨q, pre ++ [t], rfl, by omega, HLS.out, ?_, by simp; omega, heap_below hb2 hbw (hrdx.later hb1), grown_below (grown_trans hgx (grown_of_below hb1 _)) hb2⟩
          rw [PM.out, List.length_append]
          exact hown2
        case measure => simp only [strLen, bs_size]; omega
end Go.Proofs.YtmlaolmaopjhbaaGreatDoor
