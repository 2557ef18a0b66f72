/- The contracts of pack's length and next. -/
import Derived.Test.YtcpkhaebcmgehaaGreatDoorPkList
import Derived.Lib.Atoi
import Derived.Lib.AtoiErrMem
namespace Go.Proofs.YtcpkhaebcmgehaaGreatDoor
open Go.RowKit
set_option linter.unusedVariables false
set_option maxRecDepth 100000
def lenV : Nat ⊕ (Nat × List UInt8) → Value
  | .inl c => .tuple #[.int .i64 0, .string ⟨#[]⟩, .int .i64 c]
  | .inr (n, r) => .tuple #[.int .i64 n, .string (bs r), .int .i64 0]
theorem kd_le (s : List UInt8) : Pk.kd s ≤ s.length ∧ Pk.kd s ≤ 7 := by
  have := (List.takeWhile_prefix (p := Pk.isDig) (l := s.take 7)).length_le
  unfold Pk.kd
  simp at this ⊢
  omega
theorem takeWhile_at {p : UInt8 → Bool} : ∀ (l : List UInt8) (j : Nat), j < (l.takeWhile p).length → ∃ c, l[j]? = some c ∧ p c = true
  | [], j, h => by simp at h
  | a :: l, j, h => by
    rw [List.takeWhile_cons] at h
    by_cases ha : p a = true
    · rw [if_pos ha] at h
      cases j with
      | zero => exact ⟨a, rfl, ha⟩
      | succ j => exact takeWhile_at l j (by simpa using h)
    · rw [if_neg ha] at h; simp at h
theorem takeWhile_end {p : UInt8 → Bool} : ∀ (l : List UInt8) (c : UInt8), l[(l.takeWhile p).length]? = some c → p c = false
  | [], c, h => by simp at h
  | a :: l, c, h => by
    rw [List.takeWhile_cons] at h
    by_cases ha : p a = true
    · rw [if_pos ha] at h
      exact takeWhile_end l c (by simpa using h)
    · rw [if_neg ha] at h
      simp at h
      subst h
      simpa using ha
theorem kd_dig {s : List UInt8} {j : Nat} (h : j < Pk.kd s) : ∃ c, s[j]? = some c ∧ 48 ≤ c.toNat ∧ c.toNat ≤ 57 := by
  obtain ⟨c, hc, hp⟩ := takeWhile_at (s.take 7) j h
  rw [List.getElem?_take] at hc
  split at hc
  · exact ⟨c, hc, by simpa [Pk.isDig] using hp⟩
  · cases hc
theorem kd_end {s : List UInt8} (h : Pk.kd s < s.length) : Pk.kd s = 7 ∨ ∃ c, s[Pk.kd s]? = some c ∧ ¬ (48 ≤ c.toNat ∧ c.toNat ≤ 57) := by
  have h7 := (kd_le s).2
  rcases Nat.lt_or_ge (Pk.kd s) 7 with h1 | h1
  · refine .inr ⟨s[Pk.kd s], List.getElem?_eq_getElem h, ?_⟩
    have := takeWhile_end (p := Pk.isDig) (s.take 7) s[Pk.kd s] (by
      rw [List.getElem?_take, if_pos (by unfold Pk.kd at h1; exact h1)]
      exact List.getElem?_eq_getElem h)
    simpa [Pk.isDig] using this
  · exact .inl (by omega)
theorem decFrom_digs : ∀ (l : List UInt8) (acc : Nat), (∀ c ∈ l, 48 ≤ c.toNat ∧ c.toNat ≤ 57) → Lib.decFrom acc l = some (l.foldl (fun n c => 10 * n + (c.toNat - 48)) acc)
  | [], acc, _ => rfl
  | a :: l, acc, h => by
    have ha := h a (List.mem_cons_self ..)
    have h1 : Lib.digitVal a = some (a.toNat - 48) := by simp [Lib.digitVal, ha]
    simp only [Lib.decFrom, h1, List.foldl_cons]
    rw [show acc * 10 + (a.toNat - 48) = 10 * acc + (a.toNat - 48) by omega]
    exact decFrom_digs l _ (fun c hc => h c (List.mem_cons_of_mem _ hc))
theorem atoi_digs (l : List UInt8) (h0 : l ≠ []) (h : ∀ c ∈ l, 48 ≤ c.toNat ∧ c.toNat ≤ 57) : Lib.atoi l = some (Pk.dval l : Int) := by
  cases l with
  | nil => exact absurd rfl h0
  | cons a l =>
    have ha := h a (List.mem_cons_self ..)
    have n1 : (a == 45) = false := by simp; intro e; subst e; simp at ha
    have n2 : (a == 43) = false := by simp; intro e; subst e; simp at ha
    simp only [Lib.atoi, n1, n2, Bool.false_eq_true, if_false, Lib.decNat, decFrom_digs _ _ h]
    rfl
theorem ret_val {a b : Value} (h : b = a) : Ending.returned a = .returned b := by rw [h]
theorem dval_go : ∀ (l : List UInt8) (a : Nat), (∀ c ∈ l, 48 ≤ c.toNat ∧ c.toNat ≤ 57) → l.foldl (fun n c => 10 * n + (c.toNat - 48)) a < (a + 1) * 10 ^ l.length
  | [], a, _ => by simp
  | x :: l, a, h => by
    have hx := h x (List.mem_cons_self ..)
    have := dval_go l (10 * a + (x.toNat - 48)) (fun c hc => h c (List.mem_cons_of_mem _ hc))
    simp only [List.foldl_cons, List.length_cons]
    refine Nat.lt_of_lt_of_le this ?_
    rw [Nat.pow_succ, Nat.mul_comm (10 ^ l.length) 10, ← Nat.mul_assoc]
    exact Nat.mul_le_mul_right _ (by omega)
theorem dval_lt (l : List UInt8) (h : ∀ c ∈ l, 48 ≤ c.toNat ∧ c.toNat ≤ 57) (h7 : l.length ≤ 7) : Pk.dval l < 100000000 := by
  have h1 := dval_go l 0 h
  have h2 : 10 ^ l.length ≤ 10 ^ 7 := Nat.pow_le_pow_right (by omega) h7
  unfold Pk.dval
  omega
theorem byte_at {s : ByteArray} {k : Nat} {c : UInt8} (h : (tl s)[k]? = some c) : ∃ hk : k < s.size, s[k]'hk = c := by
  obtain ⟨h1, h2⟩ := List.getElem?_eq_some_iff.1 h
  exact ⟨by rw [Lib.size_eq]; exact h1, h2⟩
theorem getD_byte {s : ByteArray} {k : Nat} (hk : k < s.size) : (tl s).getD k 0 = s[k]'hk := by
  rw [List.getD_eq_getElem?_getD, List.getElem?_eq_getElem (by rw [← Lib.size_eq]; exact hk)]
  rfl
/-- how the loop over the digits ends -/
theorem length_end {s : ByteArray} (h : Pk.kd (tl s) < s.size) : Pk.kd (tl s) = 7 ∨ (Pk.kd (tl s) < 7 ∧ (s[Pk.kd (tl s)]'h).toNat < 48) ∨ (Pk.kd (tl s) < 7 ∧ 57 < (s[Pk.kd (tl s)]'h).toNat) := by
  have h7 := (kd_le (tl s)).2
  rcases Nat.lt_or_ge (Pk.kd (tl s)) 7 with hl | hl
  · rcases kd_end (s := tl s) (by rw [← Lib.size_eq]; exact h) with h1 | ⟨c, h1, h2⟩
    · exact .inl h1
    · obtain ⟨_, h3⟩ := byte_at h1
      rw [h3]
      omega
  · exact .inl (by omega)
set_option maxHeartbeats 4000000 in
theorem length_any (s : ByteArray) (hs : s.size ≤ 1000000000) (w : World) :
    Calls Tryz.prog 164 #[.string s] w fun e w' => e = .returned (lenV (Pk.len (tl s))) ∧ Below w.heap.size w w' := by
  have hsz : (tl s).length = s.size := (Lib.size_eq s).symm
  have hK := kd_le (tl s)
  have DG : Hid (∀ j, j < Pk.kd (tl s) → ∃ hk : j < s.size, 48 ≤ (s[j]'hk).toNat ∧ (s[j]'hk).toNat ≤ 57) := Lib.hid (fun j hj => by
    obtain ⟨c, h1, h2, h3⟩ := kd_dig hj
    obtain ⟨hk, e⟩ := byte_at h1
    exact ⟨hk, by rw [e]; exact h2, by rw [e]; exact h3⟩)
  have EN := Lib.hid (length_end (s := s))
  have LN : Hid (∀ V, lenV (Pk.len (tl s)) = V → lenV (Pk.len (tl s)) = V) := Lib.hid (fun _ h => h)
  obtain ⟨K, eK⟩ : ∃ K, K = Pk.kd (tl s) := ⟨_, rfl⟩
  have EK := Lib.hid eK
  rw [← eK] at hK DG EN
  have HSZ := Lib.hid hsz
  have hK1 : K ≤ s.size := by omega
  have hK7 : K ≤ 7 := hK.2
  clear hK eK hsz
  go_enter Tryz.func164, Tryz.ntmps164
  go_wp2_with (fail)
  go_loop [5] (fun i => ∃ k : Nat, i = .int .i64 k ∧ k ≤ K) (fun i => K - (intOf i).toNat)
  case atStart => exact ⟨0, rfl, by omega⟩
  case round =>
    obtain ⟨k, rfl, hk⟩ := hrel
    by_cases hlt : k < K
    · obtain ⟨hks, d1, d2⟩ := DG.out k hlt
      have e1 : (k : Int) < (s.size : Int) := by omega
      have e2 : (k : Int) < 7 := by omega
      have e3 : (48 : Int) ≤ (s[k].toNat : Int) := by omega
      have e4 : (s[k].toNat : Int) ≤ 57 := by omega
      go_wp2_with (fail)
      go_round
      case rel => exact ⟨k + 1, by go_num, by omega⟩
      case measure => simp [intOf]; omega
    · obtain rfl : k = K := by omega
      have DD : Hid (∀ c ∈ (tl s).take k, 48 ≤ c.toNat ∧ c.toNat ≤ 57) := Lib.hid (fun c hc => by
        obtain ⟨j, hj, rfl⟩ := List.mem_iff_getElem.1 hc
        rw [List.length_take] at hj
        obtain ⟨hk, h1, h2⟩ := DG.out j (by omega)
        rw [List.getElem_take]
        exact ⟨h1, h2⟩)
      clear DG hlt hk
      rcases Nat.lt_or_ge k s.size with hks | hks
      · have e1 : (k : Int) < (s.size : Int) := by omega
        have n1 : ((k : Int) == (s.size : Int)) = false := by simp; omega
        have hend := EN.out hks
        have OUT : Hid ((s[k].toNat ≠ 58 ∨ k = 0 ∨ (1 < k ∧ (tl s).getD 0 0 = 48)) ∧ lenV (Pk.len (tl s)) = .tuple #[.int .i64 0, .string ⟨#[]⟩, .int .i64 11] ∨ ¬ (s[k].toNat ≠ 58 ∨ k = 0 ∨ (1 < k ∧ (tl s).getD 0 0 = 48)) ∧ lenV (Pk.len (tl s)) = .tuple #[.int .i64 (Pk.dval ((tl s).take k)), .string (bs ((tl s).drop (k + 1))), .int .i64 0]) := Lib.hid (by
          have hg : (tl s).getD k 0 = s[k] := getD_byte hks
          unfold Pk.len
          rw [← EK.out]
          simp only
          rw [if_neg (by rw [HSZ.out]; omega), hg]
          have hn : (s[k] ≠ 58) ↔ (s[k].toNat ≠ 58) := by rw [ne_eq, ne_eq, ← UInt8.toNat_inj]; rfl
          by_cases hc : s[k].toNat ≠ 58 ∨ k = 0 ∨ (1 < k ∧ (tl s).getD 0 0 = 48)
          · exact .inl ⟨hc, by rw [if_pos (by rw [hn]; exact hc)]; rfl⟩
          · exact .inr ⟨hc, by rw [if_neg (by rw [hn]; exact hc)]; rfl⟩)
        clear EK LN
        have AT : Hid (0 < k → ∀ W, Calls Tryz.prog 195 #[.string (s.extract 0 k)] W fun e w' => e = .returned (.tuple #[.int .i64 (Pk.dval ((tl s).take k)), .nilIface]) ∧ Below W.heap.size W w') := Lib.hid (fun h0 W => by
          have hx : (s.extract 0 k).data.toList = (tl s).take k := by rw [Lib.extract_data]; simp
          have hz : (s.extract 0 k).size = k := by rw [ByteArray.size_extract]; omega
          refine (Tryz.strconv_Atoi (s.extract 0 k) _ (by omega) (by rw [hx]; exact atoi_digs _ (by intro h; have := congrArg List.length h; rw [List.length_take] at this; simp only [List.length_nil] at this; have := HSZ.out; omega) DD.out) W).mono ?_
          rintro e w' ⟨h1, t, h2⟩
          exact ⟨h1, by rw [h2]; exact Lib.bytesWorld_below _ _ _⟩)
        have HV2 : Hid (lenV (Pk.len (tl s)) = .tuple #[.int .i64 (Pk.dval ((tl s).take k)), .string (bs ((tl s).drop (k + 1))), .int .i64 0] → lenV (Pk.len (tl s)) = .tuple #[.int .i64 (Pk.dval ((tl s).take k)), .string (s.extract (k + 1) s.size), .int .i64 0]) := Lib.hid (fun h => by
          rw [h, show bs ((tl s).drop (k + 1)) = s.extract (k + 1) s.size by rw [← bs_of (s.extract (k + 1) s.size), Lib.extract_to_end]])
        have hdv : Pk.dval ((tl s).take k) < 100000000 := dval_lt _ DD.out (by rw [List.length_take]; omega)
        clear EN DD
        generalize Pk.dval ((tl s).take k) = nv at *
        rcases hend with h7 | ⟨hl7, h8⟩ | ⟨hl7, h9⟩
        · have e2 : ¬ (k : Int) < 7 := by omega
          have h7' : 7 ≤ k := by omega
          clear h7
          by_cases g58 : s[k].toNat = 58
          · have a5 : (s[k].toNat : Int) = 58 := by omega
            have a6 : ((k : Int) == 0) = false := by simp; omega
            by_cases g1 : 1 < k
            · have s0 : 0 < s.size := by omega
              have a9 : (1 : Int) < (k : Int) := by omega
              by_cases gz : s[0].toNat = 48
              · have hV := OUT.out.resolve_right (fun h => h.1 (.inr (.inr ⟨g1, by rw [getD_byte s0]; exact UInt8.toNat_inj.1 gz⟩))) |>.2
                have a10 : ((s[0].toNat : Int) == 48) = true := by simp; omega
                have HV := Lib.hid hV
                clear OUT AT HV2 hV
                try clear g58
                try clear g0
                try clear gz
                go_wp2_with (fail)
                go_ret3
                exact ⟨ret_val HV.out, Below.refl _ _⟩
              · have HW := Lib.hid <| HV2.out (OUT.out.resolve_left (fun h => by
                  rcases h.1 with h | h | h
                  · exact h g58
                  · omega
                  · rw [getD_byte s0] at h; exact gz (by rw [h.2]; rfl))).2
                have a10 : ((s[0].toNat : Int) == 48) = false := by simp; omega
                have a7 : (k : Int) ≤ (s.size : Int) := by omega
                have a8 : (k : Int) + 1 ≤ (s.size : Int) := by omega
                have AT1 := Lib.hid (AT.out (by omega))
                clear OUT AT HV2
                try clear g58
                try clear gz
                go_wp2_with (go_at_call 195; ((with_reducible refine (AT1.out _).mono ?_); rintro e w1 ⟨rfl, hb1⟩))
                go_quiet (fail)
                go_wp2
                go_ret3
                exact ⟨ret_val HW.out, hb1.trans (belowDN (Below.refl _ _) _)⟩
            · omega
          · have hV := OUT.out.resolve_right (fun h => h.1 (.inl g58)) |>.2
            have a5 : (s[k].toNat : Int) ≠ 58 := by omega
            have HV := Lib.hid hV
            clear OUT AT HV2 hV
            try clear g58
            try clear g0
            try clear gz
            go_wp2_with (fail)
            go_ret3
            exact ⟨ret_val HV.out, Below.refl _ _⟩
        · have e2 : (k : Int) < 7 := by omega
          have e3 : ¬ (48 : Int) ≤ (s[k].toNat : Int) := by omega
          by_cases g58 : s[k].toNat = 58
          · omega
          · have hV := OUT.out.resolve_right (fun h => h.1 (.inl g58)) |>.2
            have a5 : (s[k].toNat : Int) ≠ 58 := by omega
            have HV := Lib.hid hV
            clear OUT AT HV2 hV
            try clear g58
            try clear g0
            try clear gz
            go_wp2_with (fail)
            go_ret3
            exact ⟨ret_val HV.out, Below.refl _ _⟩
        · have e2 : (k : Int) < 7 := by omega
          have e3 : ¬ (s[k].toNat : Int) ≤ 57 := by omega
          have e4 : (48 : Int) ≤ (s[k].toNat : Int) := by omega
          by_cases g58 : s[k].toNat = 58
          · have a5 : (s[k].toNat : Int) = 58 := by omega
            by_cases g0 : k = 0
            · have hV := OUT.out.resolve_right (fun h => h.1 (.inr (.inl g0))) |>.2
              have a6 : ((k : Int) == 0) = true := by simp; omega
              have HV := Lib.hid hV
              clear OUT AT HV2 hV
              try clear g58
              try clear g0
              try clear gz
              go_wp2_with (fail)
              go_ret3
              exact ⟨ret_val HV.out, Below.refl _ _⟩
            · have a6 : ((k : Int) == 0) = false := by simp; omega
              by_cases g1 : 1 < k
              · have s0 : 0 < s.size := by omega
                have a9 : (1 : Int) < (k : Int) := by omega
                by_cases gz : s[0].toNat = 48
                · have hV := OUT.out.resolve_right (fun h => h.1 (.inr (.inr ⟨g1, by rw [getD_byte s0]; exact UInt8.toNat_inj.1 gz⟩))) |>.2
                  have a10 : ((s[0].toNat : Int) == 48) = true := by simp; omega
                  have HV := Lib.hid hV
                  clear OUT AT HV2 hV
                  try clear g58
                  try clear g0
                  try clear gz
                  go_wp2_with (fail)
                  go_ret3
                  exact ⟨ret_val HV.out, Below.refl _ _⟩
                · have HW := Lib.hid <| HV2.out (OUT.out.resolve_left (fun h => by
                    rcases h.1 with h | h | h
                    · exact h g58
                    · omega
                    · rw [getD_byte s0] at h; exact gz (by rw [h.2]; rfl))).2
                  have a10 : ((s[0].toNat : Int) == 48) = false := by simp; omega
                  have a7 : (k : Int) ≤ (s.size : Int) := by omega
                  have a8 : (k : Int) + 1 ≤ (s.size : Int) := by omega
                  have AT1 := Lib.hid (AT.out (by omega))
                  clear OUT AT HV2
                  try clear g58
                  try clear gz
                  go_wp2_with (go_at_call 195; ((with_reducible refine (AT1.out _).mono ?_); rintro e w1 ⟨rfl, hb1⟩))
                  go_quiet (fail)
                  go_wp2
                  go_ret3
                  exact ⟨ret_val HW.out, hb1.trans (belowDN (Below.refl _ _) _)⟩
              · have HW := Lib.hid <| HV2.out (OUT.out.resolve_left (fun h => by
                  rcases h.1 with h | h | h
                  · exact h g58
                  · omega
                  · omega)).2
                have a9 : ¬ (1 : Int) < (k : Int) := by omega
                have a7 : (k : Int) ≤ (s.size : Int) := by omega
                have a8 : (k : Int) + 1 ≤ (s.size : Int) := by omega
                have AT1 := Lib.hid (AT.out (by omega))
                clear OUT AT HV2
                try clear g58
                try clear gz
                go_wp2_with (go_at_call 195; ((with_reducible refine (AT1.out _).mono ?_); rintro e w1 ⟨rfl, hb1⟩))
                go_quiet (fail)
                go_wp2
                go_ret3
                exact ⟨ret_val HW.out, hb1.trans (belowDN (Below.refl _ _) _)⟩
          · have hV := OUT.out.resolve_right (fun h => h.1 (.inl g58)) |>.2
            have a5 : (s[k].toNat : Int) ≠ 58 := by omega
            have HV := Lib.hid hV
            clear OUT AT HV2 hV
            try clear g58
            try clear g0
            try clear gz
            go_wp2_with (fail)
            go_ret3
            exact ⟨ret_val HV.out, Below.refl _ _⟩
      · obtain rfl : k = s.size := by omega
        have hV : lenV (Pk.len (tl s)) = .tuple #[.int .i64 0, .string ⟨#[]⟩, .int .i64 10] := by
          unfold Pk.len
          rw [← EK.out]
          simp only
          rw [if_pos HSZ.out.symm]
          rfl
        have HV := Lib.hid hV
        clear hV
        clear EK LN EN
        go_wp2_with (fail)
        go_ret3
        exact ⟨ret_val HV.out, Below.refl _ _⟩
end Go.Proofs.YtcpkhaebcmgehaaGreatDoor
