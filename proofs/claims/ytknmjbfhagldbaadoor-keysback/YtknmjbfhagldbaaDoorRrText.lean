/- The contracts of the reference's Reader: wrong and Text. -/
import Derived.Test.YtknmjbfhagldbaaDoorPkRead
namespace Go.Proofs.YtknmjbfhagldbaaDoor
open Go.RowKit
set_option linter.unusedVariables false
set_option maxRecDepth 100000
/-- a reference's reader in a block -/
def RqAt (w : World) (b : Nat) (r : Pk.Rd) : Prop := w.heap[b]? = some (.cells #[.string (bs r.rest), .int .i64 r.bad] 62 (0, 0))
theorem rwrong_any (b : Nat) (l : List UInt8) (bad : Nat) (c : Int) (w : World) (h : RqAt w b ⟨l, bad⟩) (n : Nat) (hc : c = n) :
    Calls Tryd.prog 53 #[.pointer (some ⟨b, 0, none⟩), .int .i64 c] w fun e w' => e = .returned (.string ⟨#[]⟩) ∧ RqAt w' b ⟨l, n⟩ ∧ w.grownBy w' (some b) := by
  have c1 : w.cell? ⟨b, 1, none⟩ = some (.int .i64 bad) := (cell_heap h 1).trans rfl
  have f1 : w.frozen? ⟨b, 1, none⟩ = false := frozen_heap h 1
  have H := Lib.hid h
  have HC := Lib.hid hc
  clear h hc
  go_enter Tryd.func53, Tryd.ntmps53
  go_wp2_with (fail)
  go_ret
  refine ⟨rfl, ?_, grown_set (grown_refl _ _) (.inr rfl) _ _⟩
  rw [HC.out]
  exact heap_set H.out
theorem text_of_bad {l : List UInt8} {c : Nat} (h : Pk.nxt l = .bad c) : Pk.Rd.text ⟨l, 0⟩ = ([], ⟨l, c⟩) := by unfold Pk.Rd.text; simp [h]
theorem text_of_ok {l t q : List UInt8} (h : Pk.nxt l = .ok t q) : Pk.Rd.text ⟨l, 0⟩ = (t, ⟨q, 0⟩) := by unfold Pk.Rd.text; simp [h]
theorem dval_take {s : ByteArray} {k : Nat} (hk : k < s.size) : Pk.dval ((tl s).take (k + 1)) = 10 * Pk.dval ((tl s).take k) + ((s[k]'hk).toNat - 48) := by
  have hl : k < (tl s).length := by rw [← Lib.size_eq]; exact hk
  rw [List.take_succ_eq_append_getElem hl]
  unfold Pk.dval
  rw [List.foldl_append]
  rfl
set_option maxHeartbeats 8000000 in
theorem rrtext_any (b : Nat) (r : Pk.Rd) (hs : r.rest.length ≤ 1000000000) (w : World) (h : RqAt w b r) :
    Calls Tryd.prog 36 #[.pointer (some ⟨b, 0, none⟩)] w fun e w' => e = .returned (.string (bs r.text.1)) ∧ RqAt w' b r.text.2 ∧ w.grownBy w' (some b) := by
  obtain ⟨l, bad⟩ := r
  have c0 : w.cell? ⟨b, 0, none⟩ = some (.string (bs l)) := (cell_heap h 0).trans rfl
  have c1 : w.cell? ⟨b, 1, none⟩ = some (.int .i64 bad) := (cell_heap h 1).trans rfl
  by_cases hb : bad = 0
  · subst hb
    obtain ⟨s, es⟩ : ∃ s, s = bs l := ⟨_, rfl⟩
    have hl : tl s = l := by rw [es]; rfl
    rw [← es] at c0
    have hsz : (tl s).length = s.size := (Lib.size_eq s).symm
    have hs' : s.size ≤ 1000000000 := by rw [← hsz, hl]; exact hs
    have ES := Lib.hid es
    have HL := Lib.hid hl
    have HSZ := Lib.hid hsz
    have f0 : w.frozen? ⟨b, 0, none⟩ = false := frozen_heap h 0
    have H := Lib.hid h
    have hK := kd_le (tl s)
    have DG : Hid (∀ j, j < Pk.kd (tl s) → ∃ hk : j < s.size, 48 ≤ (s[j]'hk).toNat ∧ (s[j]'hk).toNat ≤ 57) := Lib.hid (fun j hj => by
      obtain ⟨c, h1, h2, h3⟩ := kd_dig hj
      obtain ⟨hk, e⟩ := byte_at h1
      exact ⟨hk, by rw [e]; exact h2, by rw [e]; exact h3⟩)
    have EN := Lib.hid (length_end (s := s))
    have DV : Hid (∀ k, k ≤ Pk.kd (tl s) → Pk.dval ((tl s).take k) < 100000000) := Lib.hid (fun k hk => dval_lt _ (fun c hc => by
      obtain ⟨j, hj, rfl⟩ := List.mem_iff_getElem.1 hc
      rw [List.length_take] at hj
      obtain ⟨c, h1, h2, h3⟩ := kd_dig (s := tl s) (j := j) (by omega)
      rw [List.getElem_take]
      have := (List.getElem?_eq_some_iff.1 h1).2
      rw [this]
      exact ⟨h2, h3⟩) (by rw [List.length_take]; omega))
    obtain ⟨K, eK⟩ : ∃ K, K = Pk.kd (tl s) := ⟨_, rfl⟩
    have EK := Lib.hid eK
    rw [← eK] at hK DG EN DV
    have hK1 : K ≤ s.size := by omega
    have hK7 : K ≤ 7 := hK.2
    have WR := fun (c : Nat) => rwrong_any b l 0 (c : Int) w h c rfl
    have W10 : Hid (Calls Tryd.prog 53 #[.pointer (some ⟨b, 0, none⟩), .int .i64 10] w fun e w' => e = .returned (.string ⟨#[]⟩) ∧ RqAt w' b ⟨l, 10⟩ ∧ w.grownBy w' (some b)) := Lib.hid (rwrong_any b l 0 10 w h 10 rfl)
    have W11 : Hid (Calls Tryd.prog 53 #[.pointer (some ⟨b, 0, none⟩), .int .i64 11] w fun e w' => e = .returned (.string ⟨#[]⟩) ∧ RqAt w' b ⟨l, 11⟩ ∧ w.grownBy w' (some b)) := Lib.hid (rwrong_any b l 0 11 w h 11 rfl)
    clear hK eK hsz hl es h WR
    go_enter Tryd.func36, Tryd.ntmps36
    go_wp2_with (fail)
    go_loop [3, 4] (fun n i => ∃ k : Nat, i = .int .i64 k ∧ k ≤ K ∧ n = .int .i64 (Pk.dval ((tl s).take k) : Nat)) (fun _ i => K - (intOf i).toNat)
    case atStart => exact ⟨0, rfl, by omega, rfl⟩
    case round =>
      obtain ⟨k, rfl, hk, rfl⟩ := hrel
      by_cases hlt : k < K
      · obtain ⟨hks, d1, d2⟩ := DG.out k hlt
        have e1 : (k : Int) < (s.size : Int) := by omega
        have e2 : (k : Int) < 7 := by omega
        have e3 : (48 : Int) ≤ (s[k].toNat : Int) := by omega
        have e4 : (s[k].toNat : Int) ≤ 57 := by omega
        have hdv := DV.out k (by omega)
        have ST := Lib.hid (dval_take hks)
        obtain ⟨v, ev⟩ : ∃ v, v = Pk.dval ((tl s).take k) := ⟨_, rfl⟩
        rw [← ev] at hdv ST
        rw [← ev]
        clear ev
        go_wp2_with (fail)
        go_round
        case rel => exact ⟨k + 1, by go_num, by omega, by rw [ST.out]; congr 1; omega⟩
        case measure => simp [intOf]; omega
      · obtain rfl : k = K := by omega
        have hdv := DV.out k (by omega)
        clear DG hlt hk DV
        obtain ⟨nv, env⟩ : ∃ v, v = Pk.dval ((tl s).take k) := ⟨_, rfl⟩
        rw [← env]
        rw [← env] at hdv
        have ENV := Lib.hid env
        clear env
        rcases Nat.lt_or_ge k s.size with hks | hks
        · have e1 : (k : Int) < (s.size : Int) := by omega
          have n1 : ((k : Int) == (s.size : Int)) = false := by simp; omega
          have hend := EN.out hks
          clear EN
          have OUT : Hid ((s[k].toNat ≠ 58 ∨ k = 0 ∨ (1 < k ∧ (tl s).getD 0 0 = 48)) ∧ Pk.nxt (tl s) = .bad 11 ∨ ¬ (s[k].toNat ≠ 58 ∨ k = 0 ∨ (1 < k ∧ (tl s).getD 0 0 = 48)) ∧ Pk.len (tl s) = .inr (nv, (tl s).drop (k + 1))) := Lib.hid (by
            have hg : (tl s).getD k 0 = s[k] := getD_byte hks
            have hn : (s[k] ≠ 58) ↔ (s[k].toNat ≠ 58) := by rw [ne_eq, ne_eq, ← UInt8.toNat_inj]; rfl
            have hlen : Pk.len (tl s) = if s[k] ≠ 58 ∨ k = 0 ∨ (1 < k ∧ (tl s).getD 0 0 = 48) then .inl 11 else .inr (nv, (tl s).drop (k + 1)) := by
              unfold Pk.len
              rw [← EK.out, ENV.out]
              simp only
              rw [if_neg (by rw [HSZ.out]; omega), hg]
            by_cases hc : s[k].toNat ≠ 58 ∨ k = 0 ∨ (1 < k ∧ (tl s).getD 0 0 = 48)
            · refine .inl ⟨hc, ?_⟩
              unfold Pk.nxt
              rw [hlen, if_pos (by rw [hn]; exact hc)]
            · exact .inr ⟨hc, by rw [hlen, if_neg (by rw [hn]; exact hc)]⟩)
          clear EK ENV
          rcases hend with h7 | ⟨hl7, h8⟩ | ⟨hl7, h9⟩
          · have e2 : ¬ (k : Int) < 7 := by omega
            have h7' : 7 ≤ k := by omega
            clear h7
            by_cases g58 : s[k].toNat = 58
            · have a5 : (s[k].toNat : Int) = 58 := by omega
              have a6 : ((k : Int) == 0) = false := by simp; omega
              by_cases g1 : 1 < k
              · have s0 : 0 < s.size := by omega
                have a9 : (1 : Int) < (k : Int) := by omega
                by_cases gz : s[0].toNat = 48
                · have hV := OUT.out.resolve_right (fun h => h.1 (.inr (.inr ⟨g1, by rw [getD_byte s0]; exact UInt8.toNat_inj.1 gz⟩))) |>.2
                  have a10 : ((s[0].toNat : Int) == 48) = true := by simp; omega
                  have HT := Lib.hid (text_of_bad (HL.out ▸ hV : Pk.nxt l = .bad 11))
                  clear OUT hV
                  try clear g58
                  try clear g0
                  try clear gz
                  go_wp2_with (go_at_call 53; ((with_reducible refine (W11.out).mono ?_); rintro e w1 ⟨rfl, hr1, hg1⟩))
                  go_ret
                  exact ⟨ret_str (by rw [HT.out]; rfl), by rw [HT.out]; exact hr1, hg1⟩
                · have hV2 := (OUT.out.resolve_left (fun h => by
                    rcases h.1 with h | h | h
                    · exact h g58
                    · omega
                    · rw [getD_byte s0] at h; exact gz (by rw [h.2]; rfl))).2
                  have a10 : ((s[0].toNat : Int) == 48) = false := by simp; omega
                  clear OUT
                  try clear g58
                  try clear gz
                  obtain ⟨R, eR⟩ : ∃ R, R = s.extract (k + 1) s.size := ⟨_, rfl⟩
                  have hRt : tl R = (tl s).drop (k + 1) := by rw [eR]; exact Lib.extract_to_end _ _
                  have hRl : R.size = ((tl s).drop (k + 1)).length := by rw [← hRt, ← Lib.size_eq]
                  rw [← hRt] at hV2
                  have rR := eR.symm
                  have hRn : R.size ≤ 1000000000 := by rw [hRl, List.length_drop, HSZ.out]; omega
                  have a8 : (k : Int) + 1 ≤ (s.size : Int) := by omega
                  have NX : Pk.nxt (tl s) = if R.size ≤ nv then .bad 10 else if (tl R).getD nv 0 ≠ 44 then .bad 11 else .ok ((tl R).take nv) ((tl R).drop (nv + 1)) := by
                    unfold Pk.nxt
                    rw [hV2]
                    simp only
                    rw [← Lib.size_eq]
                  clear hV2 hRt hRl eR
                  by_cases q1 : R.size ≤ nv
                  · have HT := Lib.hid (text_of_bad (HL.out ▸ (NX.trans (if_pos q1)) : Pk.nxt l = .bad 10))
                    clear NX
                    have q2 : (R.size : Int) < (nv : Int) + 1 := by omega
                    go_wp2_with (go_at_call 53; ((with_reducible refine (W10.out).mono ?_); rintro e w1 ⟨rfl, hr1, hg1⟩))
                    go_ret
                    exact ⟨ret_str (by rw [HT.out]; rfl), by rw [HT.out]; exact hr1, hg1⟩
                  · have q2 : ¬ (R.size : Int) < (nv : Int) + 1 := by omega
                    have hnR : nv < R.size := by omega
                    have q3 : (nv : Int) < (R.size : Int) := by omega
                    have q4 : (nv : Int) + 1 ≤ (R.size : Int) := by omega
                    have q5 : (nv : Int) ≤ (R.size : Int) := by omega
                    have hg : (tl R).getD nv 0 = R[nv] := getD_byte hnR
                    have hq : ((tl R).getD nv 0 ≠ 44) ↔ R[nv].toNat ≠ 44 := by rw [hg, ne_eq, ne_eq, ← UInt8.toNat_inj]; rfl
                    by_cases q6 : R[nv].toNat ≠ 44
                    · have HT := Lib.hid (text_of_bad (HL.out ▸ ((NX.trans (if_neg q1)).trans (if_pos (hq.2 q6))) : Pk.nxt l = .bad 11))
                      have q7 : (R[nv].toNat : Int) ≠ 44 := by omega
                      clear NX hg hq
                      go_wp2_with (go_at_call 53; ((with_reducible refine (W11.out).mono ?_); rintro e w1 ⟨rfl, hr1, hg1⟩))
                      go_ret
                      exact ⟨ret_str (by rw [HT.out]; rfl), by rw [HT.out]; exact hr1, hg1⟩
                    · have HT := Lib.hid (text_of_ok (HL.out ▸ ((NX.trans (if_neg q1)).trans (if_neg (fun h => q6 (hq.1 h)))) : Pk.nxt l = .ok ((tl R).take nv) ((tl R).drop (nv + 1))))
                      have b1 : bs ((tl R).take nv) = R.extract 0 nv := by rw [← bs_of (R.extract 0 nv), Lib.extract_data]; simp
                      have b2 : bs ((tl R).drop (nv + 1)) = R.extract (nv + 1) R.size := by rw [← bs_of (R.extract (nv + 1) R.size), Lib.extract_to_end]
                      have B1 := Lib.hid b1
                      have B2 := Lib.hid b2
                      have q7 : (R[nv].toNat : Int) = 44 := by omega
                      clear NX hg hq b1 b2 q6
                      go_wp2_with (fail)
                      go_ret
                      refine ⟨ret_str (by rw [HT.out]; exact B1.out.symm), ?_, grown_set (grown_refl _ _) (.inr rfl) _ _⟩
                      rw [HT.out]
                      unfold RqAt
                      rw [B2.out]
                      exact heap_set H.out
              · omega
            · have hV := OUT.out.resolve_right (fun h => h.1 (.inl g58)) |>.2
              have a5 : (s[k].toNat : Int) ≠ 58 := by omega
              have HT := Lib.hid (text_of_bad (HL.out ▸ hV : Pk.nxt l = .bad 11))
              clear OUT hV
              try clear g58
              try clear g0
              try clear gz
              go_wp2_with (go_at_call 53; ((with_reducible refine (W11.out).mono ?_); rintro e w1 ⟨rfl, hr1, hg1⟩))
              go_ret
              exact ⟨ret_str (by rw [HT.out]; rfl), by rw [HT.out]; exact hr1, hg1⟩
          · have e2 : (k : Int) < 7 := by omega
            have e3 : ¬ (48 : Int) ≤ (s[k].toNat : Int) := by omega
            by_cases g58 : s[k].toNat = 58
            · omega
            · have hV := OUT.out.resolve_right (fun h => h.1 (.inl g58)) |>.2
              have a5 : (s[k].toNat : Int) ≠ 58 := by omega
              have HT := Lib.hid (text_of_bad (HL.out ▸ hV : Pk.nxt l = .bad 11))
              clear OUT hV
              try clear g58
              try clear g0
              try clear gz
              go_wp2_with (go_at_call 53; ((with_reducible refine (W11.out).mono ?_); rintro e w1 ⟨rfl, hr1, hg1⟩))
              go_ret
              exact ⟨ret_str (by rw [HT.out]; rfl), by rw [HT.out]; exact hr1, hg1⟩
          · have e2 : (k : Int) < 7 := by omega
            have e3 : ¬ (s[k].toNat : Int) ≤ 57 := by omega
            have e4 : (48 : Int) ≤ (s[k].toNat : Int) := by omega
            by_cases g58 : s[k].toNat = 58
            · have a5 : (s[k].toNat : Int) = 58 := by omega
              by_cases g0 : k = 0
              · have hV := OUT.out.resolve_right (fun h => h.1 (.inr (.inl g0))) |>.2
                have a6 : ((k : Int) == 0) = true := by simp; omega
                have HT := Lib.hid (text_of_bad (HL.out ▸ hV : Pk.nxt l = .bad 11))
                clear OUT hV
                try clear g58
                try clear g0
                try clear gz
                go_wp2_with (go_at_call 53; ((with_reducible refine (W11.out).mono ?_); rintro e w1 ⟨rfl, hr1, hg1⟩))
                go_ret
                exact ⟨ret_str (by rw [HT.out]; rfl), by rw [HT.out]; exact hr1, hg1⟩
              · have a6 : ((k : Int) == 0) = false := by simp; omega
                by_cases g1 : 1 < k
                · have s0 : 0 < s.size := by omega
                  have a9 : (1 : Int) < (k : Int) := by omega
                  by_cases gz : s[0].toNat = 48
                  · have hV := OUT.out.resolve_right (fun h => h.1 (.inr (.inr ⟨g1, by rw [getD_byte s0]; exact UInt8.toNat_inj.1 gz⟩))) |>.2
                    have a10 : ((s[0].toNat : Int) == 48) = true := by simp; omega
                    have HT := Lib.hid (text_of_bad (HL.out ▸ hV : Pk.nxt l = .bad 11))
                    clear OUT hV
                    try clear g58
                    try clear g0
                    try clear gz
                    go_wp2_with (go_at_call 53; ((with_reducible refine (W11.out).mono ?_); rintro e w1 ⟨rfl, hr1, hg1⟩))
                    go_ret
                    exact ⟨ret_str (by rw [HT.out]; rfl), by rw [HT.out]; exact hr1, hg1⟩
                  · have hV2 := (OUT.out.resolve_left (fun h => by
                      rcases h.1 with h | h | h
                      · exact h g58
                      · omega
                      · rw [getD_byte s0] at h; exact gz (by rw [h.2]; rfl))).2
                    have a10 : ((s[0].toNat : Int) == 48) = false := by simp; omega
                    clear OUT
                    try clear g58
                    try clear gz
                    obtain ⟨R, eR⟩ : ∃ R, R = s.extract (k + 1) s.size := ⟨_, rfl⟩
                    have hRt : tl R = (tl s).drop (k + 1) := by rw [eR]; exact Lib.extract_to_end _ _
                    have hRl : R.size = ((tl s).drop (k + 1)).length := by rw [← hRt, ← Lib.size_eq]
                    rw [← hRt] at hV2
                    have rR := eR.symm
                    have hRn : R.size ≤ 1000000000 := by rw [hRl, List.length_drop, HSZ.out]; omega
                    have a8 : (k : Int) + 1 ≤ (s.size : Int) := by omega
                    have NX : Pk.nxt (tl s) = if R.size ≤ nv then .bad 10 else if (tl R).getD nv 0 ≠ 44 then .bad 11 else .ok ((tl R).take nv) ((tl R).drop (nv + 1)) := by
                      unfold Pk.nxt
                      rw [hV2]
                      simp only
                      rw [← Lib.size_eq]
                    clear hV2 hRt hRl eR
                    by_cases q1 : R.size ≤ nv
                    · have HT := Lib.hid (text_of_bad (HL.out ▸ (NX.trans (if_pos q1)) : Pk.nxt l = .bad 10))
                      clear NX
                      have q2 : (R.size : Int) < (nv : Int) + 1 := by omega
                      go_wp2_with (go_at_call 53; ((with_reducible refine (W10.out).mono ?_); rintro e w1 ⟨rfl, hr1, hg1⟩))
                      go_ret
                      exact ⟨ret_str (by rw [HT.out]; rfl), by rw [HT.out]; exact hr1, hg1⟩
                    · have q2 : ¬ (R.size : Int) < (nv : Int) + 1 := by omega
                      have hnR : nv < R.size := by omega
                      have q3 : (nv : Int) < (R.size : Int) := by omega
                      have q4 : (nv : Int) + 1 ≤ (R.size : Int) := by omega
                      have q5 : (nv : Int) ≤ (R.size : Int) := by omega
                      have hg : (tl R).getD nv 0 = R[nv] := getD_byte hnR
                      have hq : ((tl R).getD nv 0 ≠ 44) ↔ R[nv].toNat ≠ 44 := by rw [hg, ne_eq, ne_eq, ← UInt8.toNat_inj]; rfl
                      by_cases q6 : R[nv].toNat ≠ 44
                      · have HT := Lib.hid (text_of_bad (HL.out ▸ ((NX.trans (if_neg q1)).trans (if_pos (hq.2 q6))) : Pk.nxt l = .bad 11))
                        have q7 : (R[nv].toNat : Int) ≠ 44 := by omega
                        clear NX hg hq
                        go_wp2_with (go_at_call 53; ((with_reducible refine (W11.out).mono ?_); rintro e w1 ⟨rfl, hr1, hg1⟩))
                        go_ret
                        exact ⟨ret_str (by rw [HT.out]; rfl), by rw [HT.out]; exact hr1, hg1⟩
                      · have HT := Lib.hid (text_of_ok (HL.out ▸ ((NX.trans (if_neg q1)).trans (if_neg (fun h => q6 (hq.1 h)))) : Pk.nxt l = .ok ((tl R).take nv) ((tl R).drop (nv + 1))))
                        have b1 : bs ((tl R).take nv) = R.extract 0 nv := by rw [← bs_of (R.extract 0 nv), Lib.extract_data]; simp
                        have b2 : bs ((tl R).drop (nv + 1)) = R.extract (nv + 1) R.size := by rw [← bs_of (R.extract (nv + 1) R.size), Lib.extract_to_end]
                        have B1 := Lib.hid b1
                        have B2 := Lib.hid b2
                        have q7 : (R[nv].toNat : Int) = 44 := by omega
                        clear NX hg hq b1 b2 q6
                        go_wp2_with (fail)
                        go_ret
                        refine ⟨ret_str (by rw [HT.out]; exact B1.out.symm), ?_, grown_set (grown_refl _ _) (.inr rfl) _ _⟩
                        rw [HT.out]
                        unfold RqAt
                        rw [B2.out]
                        exact heap_set H.out
                · have hV2 := (OUT.out.resolve_left (fun h => by
                    rcases h.1 with h | h | h
                    · exact h g58
                    · omega
                    · omega)).2
                  have a9 : ¬ (1 : Int) < (k : Int) := by omega
                  clear OUT
                  try clear g58
                  try clear gz
                  obtain ⟨R, eR⟩ : ∃ R, R = s.extract (k + 1) s.size := ⟨_, rfl⟩
                  have hRt : tl R = (tl s).drop (k + 1) := by rw [eR]; exact Lib.extract_to_end _ _
                  have hRl : R.size = ((tl s).drop (k + 1)).length := by rw [← hRt, ← Lib.size_eq]
                  rw [← hRt] at hV2
                  have rR := eR.symm
                  have hRn : R.size ≤ 1000000000 := by rw [hRl, List.length_drop, HSZ.out]; omega
                  have a8 : (k : Int) + 1 ≤ (s.size : Int) := by omega
                  have NX : Pk.nxt (tl s) = if R.size ≤ nv then .bad 10 else if (tl R).getD nv 0 ≠ 44 then .bad 11 else .ok ((tl R).take nv) ((tl R).drop (nv + 1)) := by
                    unfold Pk.nxt
                    rw [hV2]
                    simp only
                    rw [← Lib.size_eq]
                  clear hV2 hRt hRl eR
                  by_cases q1 : R.size ≤ nv
                  · have HT := Lib.hid (text_of_bad (HL.out ▸ (NX.trans (if_pos q1)) : Pk.nxt l = .bad 10))
                    clear NX
                    have q2 : (R.size : Int) < (nv : Int) + 1 := by omega
                    go_wp2_with (go_at_call 53; ((with_reducible refine (W10.out).mono ?_); rintro e w1 ⟨rfl, hr1, hg1⟩))
                    go_ret
                    exact ⟨ret_str (by rw [HT.out]; rfl), by rw [HT.out]; exact hr1, hg1⟩
                  · have q2 : ¬ (R.size : Int) < (nv : Int) + 1 := by omega
                    have hnR : nv < R.size := by omega
                    have q3 : (nv : Int) < (R.size : Int) := by omega
                    have q4 : (nv : Int) + 1 ≤ (R.size : Int) := by omega
                    have q5 : (nv : Int) ≤ (R.size : Int) := by omega
                    have hg : (tl R).getD nv 0 = R[nv] := getD_byte hnR
                    have hq : ((tl R).getD nv 0 ≠ 44) ↔ R[nv].toNat ≠ 44 := by rw [hg, ne_eq, ne_eq, ← UInt8.toNat_inj]; rfl
                    by_cases q6 : R[nv].toNat ≠ 44
                    · have HT := Lib.hid (text_of_bad (HL.out ▸ ((NX.trans (if_neg q1)).trans (if_pos (hq.2 q6))) : Pk.nxt l = .bad 11))
                      have q7 : (R[nv].toNat : Int) ≠ 44 := by omega
                      clear NX hg hq
                      go_wp2_with (go_at_call 53; ((with_reducible refine (W11.out).mono ?_); rintro e w1 ⟨rfl, hr1, hg1⟩))
                      go_ret
                      exact ⟨ret_str (by rw [HT.out]; rfl), by rw [HT.out]; exact hr1, hg1⟩
                    · have HT := Lib.hid (text_of_ok (HL.out ▸ ((NX.trans (if_neg q1)).trans (if_neg (fun h => q6 (hq.1 h)))) : Pk.nxt l = .ok ((tl R).take nv) ((tl R).drop (nv + 1))))
                      have b1 : bs ((tl R).take nv) = R.extract 0 nv := by rw [← bs_of (R.extract 0 nv), Lib.extract_data]; simp
                      have b2 : bs ((tl R).drop (nv + 1)) = R.extract (nv + 1) R.size := by rw [← bs_of (R.extract (nv + 1) R.size), Lib.extract_to_end]
                      have B1 := Lib.hid b1
                      have B2 := Lib.hid b2
                      have q7 : (R[nv].toNat : Int) = 44 := by omega
                      clear NX hg hq b1 b2 q6
                      go_wp2_with (fail)
                      go_ret
                      refine ⟨ret_str (by rw [HT.out]; exact B1.out.symm), ?_, grown_set (grown_refl _ _) (.inr rfl) _ _⟩
                      rw [HT.out]
                      unfold RqAt
                      rw [B2.out]
                      exact heap_set H.out
            · have hV := OUT.out.resolve_right (fun h => h.1 (.inl g58)) |>.2
              have a5 : (s[k].toNat : Int) ≠ 58 := by omega
              have HT := Lib.hid (text_of_bad (HL.out ▸ hV : Pk.nxt l = .bad 11))
              clear OUT hV
              try clear g58
              try clear g0
              try clear gz
              go_wp2_with (go_at_call 53; ((with_reducible refine (W11.out).mono ?_); rintro e w1 ⟨rfl, hr1, hg1⟩))
              go_ret
              exact ⟨ret_str (by rw [HT.out]; rfl), by rw [HT.out]; exact hr1, hg1⟩
        · obtain rfl : k = s.size := by omega
          have hV : Pk.nxt (tl s) = .bad 10 := by
            unfold Pk.nxt Pk.len
            rw [← EK.out]
            simp only
            rw [if_pos HSZ.out.symm]
          have HT := Lib.hid (text_of_bad (HL.out ▸ hV : Pk.nxt l = .bad 10))
          clear EK EN hV ENV
          go_wp2_with (go_at_call 53; ((with_reducible refine (W10.out).mono ?_); rintro e w1 ⟨rfl, hr1, hg1⟩))
          go_ret
          exact ⟨ret_str (by rw [HT.out]; rfl), by rw [HT.out]; exact hr1, hg1⟩
  · have n1 : ((bad : Int) != 0) = true := by simp; omega
    have HT : Hid (Pk.Rd.text ⟨l, bad⟩ = ([], ⟨l, bad⟩)) := Lib.hid (by unfold Pk.Rd.text; simp [hb])
    have H := Lib.hid h
    clear h
    go_enter Tryd.func36, Tryd.ntmps36
    go_wp2_with (fail)
    go_ret
    exact ⟨ret_str (by rw [HT.out]; rfl), by rw [HT.out]; exact H.out, grown_refl _ _⟩
end Go.Proofs.YtknmjbfhagldbaaDoor
