/- Joined by mkmerged.py: PkRf, RrText. -/
import Derived.Test.YtlndnpfjneeeeaaGreatDoorMh23
import Derived.Test.YtlndnpfjneeeeaaGreatDoorMh10
/- PkRf, what a claim needs of it (prune.py). -/
namespace Go.Proofs.YtlndnpfjneeeeaaGreatDoor
open Go.RowKit
set_option linter.unusedVariables false
set_option maxRecDepth 100000
theorem RdAt.grown {w w' : World} {b : Nat} {r : Pk.Rd} (h : RdAt w b r) {g : Nat} (k : w.grownBy w' (some g)) (hne : b ≠ g) : RdAt w' b r := (k.block b (lt_heap h) (fun e => hne (Option.some.inj e))).trans h
end Go.Proofs.YtlndnpfjneeeeaaGreatDoor
namespace Go.Proofs.YtlndnpfjneeeeaaGreatDoor
open Go.RowKit
set_option linter.unusedVariables false
set_option maxRecDepth 100000
theorem own_base {w : World} {B B' : Nat} {e : TypeId} {size : Nat} {v : Value} {n : Nat} {xs : List Value} (hown : w.ownsRow B e size v n xs) (hB : B' ≤ B) : w.ownsRow B' e size v n xs := by
  refine ⟨hown.1, ?_⟩
  rcases hown.2 with h0 | ⟨g, cap, cur, hv, hg, hcc⟩
  · exact .inl h0
  · exact .inr ⟨g, cap, cur, hv, Nat.le_trans hB hg, hcc⟩
end Go.Proofs.YtlndnpfjneeeeaaGreatDoor
/- RrText, what a claim needs of it (prune.py). -/
namespace Go.Proofs.YtlndnpfjneeeeaaGreatDoor
open Go.RowKit
set_option linter.unusedVariables false
set_option maxRecDepth 100000
def RqAt (w : World) (b : Nat) (r : Pk.Rd) : Prop := w.heap[b]? = some (.cells #[.string (bs r.rest), .int .i64 r.bad] 208 (0, 0))
theorem rwrong_any (b : Nat) (l : List UInt8) (bad : Nat) (c : Int) (w : World) (h : RqAt w b ⟨l, bad⟩) (n : Nat) (hc : c = n) :
    Calls Tryz.prog 273 #[.pointer (some ⟨b, 0, none⟩), .int .i64 c] w fun e w' => e = .returned (.string ⟨#[]⟩) ∧ RqAt w' b ⟨l, n⟩ ∧ w.grownBy w' (some b) := by
  have c1 : w.cell? ⟨b, 1, none⟩ = some (.int .i64 bad) := (cell_heap h 1).trans rfl
  have f1 : w.frozen? ⟨b, 1, none⟩ = false := frozen_heap h 1
  have H := Lib.hid h
  have HC := Lib.hid hc
  clear h hc
  go_enter Tryz.func273, Tryz.ntmps273
  go_wp2_with (fail)
  go_ret
  refine ⟨rfl, ?_, grown_set (grown_refl _ _) (.inr rfl) _ _⟩
  rw [HC.out]
  exact heap_set H.out
theorem text_of_bad {l : List UInt8} {c : Nat} (h : Pk.nxt l = .bad c) : Pk.Rd.text ⟨l, 0⟩ = ([], ⟨l, c⟩) := by unfold Pk.Rd.text; simp [h]
theorem text_of_ok {l t q : List UInt8} (h : Pk.nxt l = .ok t q) : Pk.Rd.text ⟨l, 0⟩ = (t, ⟨q, 0⟩) := by unfold Pk.Rd.text; simp [h]
theorem dval_take {s : ByteArray} {k : Nat} (hk : k < s.size) : Pk.dval ((tl s).take (k + 1)) = 10 * Pk.dval ((tl s).take k) + ((s[k]'hk).toNat - 48) := by
  have hl : k < (tl s).length := by rw [← Lib.size_eq]; exact hk
  rw [List.take_succ_eq_append_getElem hl]
  unfold Pk.dval
  rw [List.foldl_append]
  rfl
set_option maxHeartbeats 8000000 in
theorem rrtext_any (b : Nat) (r : Pk.Rd) (hs : r.rest.length ≤ 1000000000) (w : World) (h : RqAt w b r) :
    Calls Tryz.prog 218 #[.pointer (some ⟨b, 0, none⟩)] w fun e w' => e = .returned (.string (bs r.text.1)) ∧ RqAt w' b r.text.2 ∧ w.grownBy w' (some b) := by
  obtain ⟨l, bad⟩ := r
  have c0 : w.cell? ⟨b, 0, none⟩ = some (.string (bs l)) := (cell_heap h 0).trans rfl
  have c1 : w.cell? ⟨b, 1, none⟩ = some (.int .i64 bad) := (cell_heap h 1).trans rfl
  by_cases hb : bad = 0
  · subst hb
    obtain ⟨s, es⟩ : ∃ s, s = bs l := ⟨_, rfl⟩
    have hl : tl s = l := by rw [es]; rfl
    rw [← es] at c0
    have hsz : (tl s).length = s.size := (Lib.size_eq s).symm
    have hs' : s.size ≤ 1000000000 := by rw [← hsz, hl]; exact hs
    have ES := Lib.hid es
    have HL := Lib.hid hl
    have HSZ := Lib.hid hsz
    have f0 : w.frozen? ⟨b, 0, none⟩ = false := frozen_heap h 0
    have H := Lib.hid h
    have hK := kd_le (tl s)
    have DG : Hid (∀ j, j < Pk.kd (tl s) → ∃ hk : j < s.size, 48 ≤ (s[j]'hk).toNat ∧ (s[j]'hk).toNat ≤ 57) := Lib.hid (fun j hj => by
      obtain ⟨c, h1, h2, h3⟩ := kd_dig hj
      obtain ⟨hk, e⟩ := byte_at h1
      exact ⟨hk, by rw [e]; exact h2, by rw [e]; exact h3⟩)
    have EN := Lib.hid (length_end (s := s))
    have DV : Hid (∀ k, k ≤ Pk.kd (tl s) → Pk.dval ((tl s).take k) < 100000000) := Lib.hid (fun k hk => dval_lt _ (fun c hc => by
      obtain ⟨j, hj, rfl⟩ := List.mem_iff_getElem.1 hc
      rw [List.length_take] at hj
      obtain ⟨c, h1, h2, h3⟩ := kd_dig (s := tl s) (j := j) (by omega)
      rw [List.getElem_take]
      have := (List.getElem?_eq_some_iff.1 h1).2
      rw [this]
      exact ⟨h2, h3⟩) (by rw [List.length_take]; omega))
    obtain ⟨K, eK⟩ : ∃ K, K = Pk.kd (tl s) := ⟨_, rfl⟩
    have EK := Lib.hid eK
    rw [← eK] at hK DG EN DV
    have hK1 : K ≤ s.size := by omega
    have hK7 : K ≤ 7 := hK.2
    have WR := fun (c : Nat) => rwrong_any b l 0 (c : Int) w h c rfl
    have W10 : Hid (Calls Tryz.prog 273 #[.pointer (some ⟨b, 0, none⟩), .int .i64 10] w fun e w' => e = .returned (.string ⟨#[]⟩) ∧ RqAt w' b ⟨l, 10⟩ ∧ w.grownBy w' (some b)) := Lib.hid (rwrong_any b l 0 10 w h 10 rfl)
    have W11 : Hid (Calls Tryz.prog 273 #[.pointer (some ⟨b, 0, none⟩), .int .i64 11] w fun e w' => e = .returned (.string ⟨#[]⟩) ∧ RqAt w' b ⟨l, 11⟩ ∧ w.grownBy w' (some b)) := Lib.hid (rwrong_any b l 0 11 w h 11 rfl)
    clear hK eK hsz hl es h WR
    go_enter Tryz.func218, Tryz.ntmps218
    go_wp2_with (fail)
    go_loop [3, 4] (fun n i => ∃ k : Nat, i = .int .i64 k ∧ k ≤ K ∧ n = .int .i64 (Pk.dval ((tl s).take k) : Nat)) (fun _ i => K - (intOf i).toNat)
    case atStart => exact ⟨0, rfl, by omega, rfl⟩
    case round =>
      obtain ⟨k, rfl, hk, rfl⟩ := hrel
      by_cases hlt : k < K
      · obtain ⟨hks, d1, d2⟩ := DG.out k hlt
        have e1 : (k : Int) < (s.size : Int) := by omega
        have e2 : (k : Int) < 7 := by omega
        have e3 : (48 : Int) ≤ (s[k].toNat : Int) := by omega
        have e4 : (s[k].toNat : Int) ≤ 57 := by omega
        have hdv := DV.out k (by omega)
        have ST := Lib.hid (dval_take hks)
        obtain ⟨v, ev⟩ : ∃ v, v = Pk.dval ((tl s).take k) := ⟨_, rfl⟩
        rw [← ev] at hdv ST
        rw [← ev]
        clear ev
        go_wp2_with (fail)
        go_round
        case rel => exact ⟨k + 1, by go_num, by omega, by rw [ST.out]; congr 1; omega⟩
        case measure => simp [intOf]; omega
      · obtain rfl : k = K := by omega
        have hdv := DV.out k (by omega)
        clear DG hlt hk DV
        obtain ⟨nv, env⟩ : ∃ v, v = Pk.dval ((tl s).take k) := ⟨_, rfl⟩
        rw [← env]
        rw [← env] at hdv
        have ENV := Lib.hid env
        clear env
        rcases Nat.lt_or_ge k s.size with hks | hks
        · have e1 : (k : Int) < (s.size : Int) := by omega
          have n1 : ((k : Int) == (s.size : Int)) = false := by simp; omega
          have hend := EN.out hks
          clear EN
          have OUT : Hid ((s[k].toNat ≠ 58 ∨ k = 0 ∨ (1 < k ∧ (tl s).getD 0 0 = 48)) ∧ Pk.nxt (tl s) = .bad 11 ∨ ¬ (s[k].toNat ≠ 58 ∨ k = 0 ∨ (1 < k ∧ (tl s).getD 0 0 = 48)) ∧ Pk.len (tl s) = .inr (nv, (tl s).drop (k + 1))) := Lib.hid (by
            have hg : (tl s).getD k 0 = s[k] := getD_byte hks
            have hn : (s[k] ≠ 58) ↔ (s[k].toNat ≠ 58) := by rw [ne_eq, ne_eq, ← UInt8.toNat_inj]; rfl
            have hlen : Pk.len (tl s) = if s[k] ≠ 58 ∨ k = 0 ∨ (1 < k ∧ (tl s).getD 0 0 = 48) then .inl 11 else .inr (nv, (tl s).drop (k + 1)) := by
              unfold Pk.len
              rw [← EK.out, ENV.out]
              simp only
              rw [if_neg (by rw [HSZ.out]; omega), hg]
            by_cases hc : s[k].toNat ≠ 58 ∨ k = 0 ∨ (1 < k ∧ (tl s).getD 0 0 = 48)
            · refine .inl ⟨hc, ?_⟩
              unfold Pk.nxt
              rw [hlen, if_pos (by rw [hn]; exact hc)]
            · exact .inr ⟨hc, by rw [hlen, if_neg (by rw [hn]; exact hc)]⟩)
          clear EK ENV
          rcases hend with h7 | ⟨hl7, h8⟩ | ⟨hl7, h9⟩
          · have e2 : ¬ (k : Int) < 7 := by omega
            have h7' : 7 ≤ k := by omega
            clear h7
            by_cases g58 : s[k].toNat = 58
            · have a5 : (s[k].toNat : Int) = 58 := by omega
              have a6 : ((k : Int) == 0) = false := by simp; omega
              by_cases g1 : 1 < k
              · have s0 : 0 < s.size := by omega
                have a9 : (1 : Int) < (k : Int) := by omega
                by_cases gz : s[0].toNat = 48
                · have hV := OUT.out.resolve_right (fun h => h.1 (.inr (.inr ⟨g1, by rw [getD_byte s0]; exact UInt8.toNat_inj.1 gz⟩))) |>.2
                  have a10 : ((s[0].toNat : Int) == 48) = true := by simp; omega
                  have HT := Lib.hid (text_of_bad (HL.out ▸ hV : Pk.nxt l = .bad 11))
                  clear OUT hV
                  try clear g58
                  try clear g0
                  try clear gz
                  go_wp2_with (go_at_call 273; ((with_reducible refine (W11.out).mono ?_); rintro e w1 ⟨rfl, hr1, hg1⟩))
                  go_ret
                  exact ⟨ret_str (by rw [HT.out]; rfl), by rw [HT.out]; exact hr1, hg1⟩
                · have hV2 := (OUT.out.resolve_left (fun h => by
                    rcases h.1 with h | h | h
                    · exact h g58
                    · omega
                    · rw [getD_byte s0] at h; exact gz (by rw [h.2]; rfl))).2
                  have a10 : ((s[0].toNat : Int) == 48) = false := by simp; omega
                  clear OUT
                  try clear g58
                  try clear gz
                  obtain ⟨R, eR⟩ : ∃ R, R = s.extract (k + 1) s.size := ⟨_, rfl⟩
                  have hRt : tl R = (tl s).drop (k + 1) := by rw [eR]; exact Lib.extract_to_end _ _
                  have hRl : R.size = ((tl s).drop (k + 1)).length := by rw [← hRt, ← Lib.size_eq]
                  rw [← hRt] at hV2
                  have rR := eR.symm
                  have hRn : R.size ≤ 1000000000 := by rw [hRl, List.length_drop, HSZ.out]; omega
                  have a8 : (k : Int) + 1 ≤ (s.size : Int) := by omega
                  have NX : Pk.nxt (tl s) = if R.size ≤ nv then .bad 10 else if (tl R).getD nv 0 ≠ 44 then .bad 11 else .ok ((tl R).take nv) ((tl R).drop (nv + 1)) := by
                    unfold Pk.nxt
                    rw [hV2]
                    simp only
                    rw [← Lib.size_eq]
                  clear hV2 hRt hRl eR
                  by_cases q1 : R.size ≤ nv
                  · have HT := Lib.hid (text_of_bad (HL.out ▸ (NX.trans (if_pos q1)) : Pk.nxt l = .bad 10))
                    clear NX
                    have q2 : (R.size : Int) < (nv : Int) + 1 := by omega
                    go_wp2_with (go_at_call 273; ((with_reducible refine (W10.out).mono ?_); rintro e w1 ⟨rfl, hr1, hg1⟩))
                    go_ret
                    exact ⟨ret_str (by rw [HT.out]; rfl), by rw [HT.out]; exact hr1, hg1⟩
                  · have q2 : ¬ (R.size : Int) < (nv : Int) + 1 := by omega
                    have hnR : nv < R.size := by omega
                    have q3 : (nv : Int) < (R.size : Int) := by omega
                    have q4 : (nv : Int) + 1 ≤ (R.size : Int) := by omega
                    have q5 : (nv : Int) ≤ (R.size : Int) := by omega
                    have hg : (tl R).getD nv 0 = R[nv] := getD_byte hnR
                    have hq : ((tl R).getD nv 0 ≠ 44) ↔ R[nv].toNat ≠ 44 := by rw [hg, ne_eq, ne_eq, ← UInt8.toNat_inj]; rfl
                    by_cases q6 : R[nv].toNat ≠ 44
                    · have HT := Lib.hid (text_of_bad (HL.out ▸ ((NX.trans (if_neg q1)).trans (if_pos (hq.2 q6))) : Pk.nxt l = .bad 11))
                      have q7 : (R[nv].toNat : Int) ≠ 44 := by omega
                      clear NX hg hq
                      go_wp2_with (go_at_call 273; ((with_reducible refine (W11.out).mono ?_); rintro e w1 ⟨rfl, hr1, hg1⟩))
                      go_ret
                      exact ⟨ret_str (by rw [HT.out]; rfl), by rw [HT.out]; exact hr1, hg1⟩
                    · have HT := Lib.hid (text_of_ok (HL.out ▸ ((NX.trans (if_neg q1)).trans (if_neg (fun h => q6 (hq.1 h)))) : Pk.nxt l = .ok ((tl R).take nv) ((tl R).drop (nv + 1))))
                      have b1 : bs ((tl R).take nv) = R.extract 0 nv := by rw [← bs_of (R.extract 0 nv), Lib.extract_data]; simp
                      have b2 : bs ((tl R).drop (nv + 1)) = R.extract (nv + 1) R.size := by rw [← bs_of (R.extract (nv + 1) R.size), Lib.extract_to_end]
                      have B1 := Lib.hid b1
                      have B2 := Lib.hid b2
                      have q7 : (R[nv].toNat : Int) = 44 := by omega
                      clear NX hg hq b1 b2 q6
                      go_wp2_with (fail)
                      go_ret
                      refine ⟨ret_str (by rw [HT.out]; exact B1.out.symm), ?_, grown_set (grown_refl _ _) (.inr rfl) _ _⟩
                      rw [HT.out]
                      unfold RqAt
                      rw [B2.out]
                      exact heap_set H.out
              · omega
            · have hV := OUT.out.resolve_right (fun h => h.1 (.inl g58)) |>.2
              have a5 : (s[k].toNat : Int) ≠ 58 := by omega
              have HT := Lib.hid (text_of_bad (HL.out ▸ hV : Pk.nxt l = .bad 11))
              clear OUT hV
              try clear g58
              try clear g0
              try clear gz
              go_wp2_with (go_at_call 273; ((with_reducible refine (W11.out).mono ?_); rintro e w1 ⟨rfl, hr1, hg1⟩))
              go_ret
              exact ⟨ret_str (by rw [HT.out]; rfl), by rw [HT.out]; exact hr1, hg1⟩
          · have e2 : (k : Int) < 7 := by omega
            have e3 : ¬ (48 : Int) ≤ (s[k].toNat : Int) := by omega
            by_cases g58 : s[k].toNat = 58
            · omega
            · have hV := OUT.out.resolve_right (fun h => h.1 (.inl g58)) |>.2
              have a5 : (s[k].toNat : Int) ≠ 58 := by omega
              have HT := Lib.hid (text_of_bad (HL.out ▸ hV : Pk.nxt l = .bad 11))
              clear OUT hV
              try clear g58
              try clear g0
              try clear gz
              go_wp2_with (go_at_call 273; ((with_reducible refine (W11.out).mono ?_); rintro e w1 ⟨rfl, hr1, hg1⟩))
              go_ret
              exact ⟨ret_str (by rw [HT.out]; rfl), by rw [HT.out]; exact hr1, hg1⟩
          · have e2 : (k : Int) < 7 := by omega
            have e3 : ¬ (s[k].toNat : Int) ≤ 57 := by omega
            have e4 : (48 : Int) ≤ (s[k].toNat : Int) := by omega
            by_cases g58 : s[k].toNat = 58
            · have a5 : (s[k].toNat : Int) = 58 := by omega
              by_cases g0 : k = 0
              · have hV := OUT.out.resolve_right (fun h => h.1 (.inr (.inl g0))) |>.2
                have a6 : ((k : Int) == 0) = true := by simp; omega
                have HT := Lib.hid (text_of_bad (HL.out ▸ hV : Pk.nxt l = .bad 11))
                clear OUT hV
                try clear g58
                try clear g0
                try clear gz
                go_wp2_with (go_at_call 273; ((with_reducible refine (W11.out).mono ?_); rintro e w1 ⟨rfl, hr1, hg1⟩))
                go_ret
                exact ⟨ret_str (by rw [HT.out]; rfl), by rw [HT.out]; exact hr1, hg1⟩
              · have a6 : ((k : Int) == 0) = false := by simp; omega
                by_cases g1 : 1 < k
                · have s0 : 0 < s.size := by omega
                  have a9 : (1 : Int) < (k : Int) := by omega
                  by_cases gz : s[0].toNat = 48
                  · have hV := OUT.out.resolve_right (fun h => h.1 (.inr (.inr ⟨g1, by rw [getD_byte s0]; exact UInt8.toNat_inj.1 gz⟩))) |>.2
                    have a10 : ((s[0].toNat : Int) == 48) = true := by simp; omega
                    have HT := Lib.hid (text_of_bad (HL.out ▸ hV : Pk.nxt l = .bad 11))
                    clear OUT hV
                    try clear g58
                    try clear g0
                    try clear gz
                    go_wp2_with (go_at_call 273; ((with_reducible refine (W11.out).mono ?_); rintro e w1 ⟨rfl, hr1, hg1⟩))
                    go_ret
                    exact ⟨ret_str (by rw [HT.out]; rfl), by rw [HT.out]; exact hr1, hg1⟩
                  · have hV2 := (OUT.out.resolve_left (fun h => by
                      rcases h.1 with h | h | h
                      · exact h g58
                      · omega
                      · rw [getD_byte s0] at h; exact gz (by rw [h.2]; rfl))).2
                    have a10 : ((s[0].toNat : Int) == 48) = false := by simp; omega
                    clear OUT
                    try clear g58
                    try clear gz
                    obtain ⟨R, eR⟩ : ∃ R, R = s.extract (k + 1) s.size := ⟨_, rfl⟩
                    have hRt : tl R = (tl s).drop (k + 1) := by rw [eR]; exact Lib.extract_to_end _ _
                    have hRl : R.size = ((tl s).drop (k + 1)).length := by rw [← hRt, ← Lib.size_eq]
                    rw [← hRt] at hV2
                    have rR := eR.symm
                    have hRn : R.size ≤ 1000000000 := by rw [hRl, List.length_drop, HSZ.out]; omega
                    have a8 : (k : Int) + 1 ≤ (s.size : Int) := by omega
                    have NX : Pk.nxt (tl s) = if R.size ≤ nv then .bad 10 else if (tl R).getD nv 0 ≠ 44 then .bad 11 else .ok ((tl R).take nv) ((tl R).drop (nv + 1)) := by
                      unfold Pk.nxt
                      rw [hV2]
                      simp only
                      rw [← Lib.size_eq]
                    clear hV2 hRt hRl eR
                    by_cases q1 : R.size ≤ nv
                    · have HT := Lib.hid (text_of_bad (HL.out ▸ (NX.trans (if_pos q1)) : Pk.nxt l = .bad 10))
                      clear NX
                      have q2 : (R.size : Int) < (nv : Int) + 1 := by omega
                      go_wp2_with (go_at_call 273; ((with_reducible refine (W10.out).mono ?_); rintro e w1 ⟨rfl, hr1, hg1⟩))
                      go_ret
                      exact ⟨ret_str (by rw [HT.out]; rfl), by rw [HT.out]; exact hr1, hg1⟩
                    · have q2 : ¬ (R.size : Int) < (nv : Int) + 1 := by omega
                      have hnR : nv < R.size := by omega
                      have q3 : (nv : Int) < (R.size : Int) := by omega
                      have q4 : (nv : Int) + 1 ≤ (R.size : Int) := by omega
                      have q5 : (nv : Int) ≤ (R.size : Int) := by omega
                      have hg : (tl R).getD nv 0 = R[nv] := getD_byte hnR
                      have hq : ((tl R).getD nv 0 ≠ 44) ↔ R[nv].toNat ≠ 44 := by rw [hg, ne_eq, ne_eq, ← UInt8.toNat_inj]; rfl
                      by_cases q6 : R[nv].toNat ≠ 44
                      · have HT := Lib.hid (text_of_bad (HL.out ▸ ((NX.trans (if_neg q1)).trans (if_pos (hq.2 q6))) : Pk.nxt l = .bad 11))
                        have q7 : (R[nv].toNat : Int) ≠ 44 := by omega
                        clear NX hg hq
                        go_wp2_with (go_at_call 273; ((with_reducible refine (W11.out).mono ?_); rintro e w1 ⟨rfl, hr1, hg1⟩))
                        go_ret
                        exact ⟨ret_str (by rw [HT.out]; rfl), by rw [HT.out]; exact hr1, hg1⟩
                      · have HT := Lib.hid (text_of_ok (HL.out ▸ ((NX.trans (if_neg q1)).trans (if_neg (fun h => q6 (hq.1 h)))) : Pk.nxt l = .ok ((tl R).take nv) ((tl R).drop (nv + 1))))
                        have b1 : bs ((tl R).take nv) = R.extract 0 nv := by rw [← bs_of (R.extract 0 nv), Lib.extract_data]; simp
                        have b2 : bs ((tl R).drop (nv + 1)) = R.extract (nv + 1) R.size := by rw [← bs_of (R.extract (nv + 1) R.size), Lib.extract_to_end]
                        have B1 := Lib.hid b1
                        have B2 := Lib.hid b2
                        have q7 : (R[nv].toNat : Int) = 44 := by omega
                        clear NX hg hq b1 b2 q6
                        go_wp2_with (fail)
                        go_ret
                        refine ⟨ret_str (by rw [HT.out]; exact B1.out.symm), ?_, grown_set (grown_refl _ _) (.inr rfl) _ _⟩
                        rw [HT.out]
                        unfold RqAt
                        rw [B2.out]
                        exact heap_set H.out
                · have hV2 := (OUT.out.resolve_left (fun h => by
                    rcases h.1 with h | h | h
                    · exact h g58
                    · omega
                    · omega)).2
                  have a9 : ¬ (1 : Int) < (k : Int) := by omega
                  clear OUT
                  try clear g58
                  try clear gz
                  obtain ⟨R, eR⟩ : ∃ R, R = s.extract (k + 1) s.size := ⟨_, rfl⟩
                  have hRt : tl R = (tl s).drop (k + 1) := by rw [eR]; exact Lib.extract_to_end _ _
                  have hRl : R.size = ((tl s).drop (k + 1)).length := by rw [← hRt, ← Lib.size_eq]
                  rw [← hRt] at hV2
                  have rR := eR.symm
                  have hRn : R.size ≤ 1000000000 := by rw [hRl, List.length_drop, HSZ.out]; omega
                  have a8 : (k : Int) + 1 ≤ (s.size : Int) := by omega
                  have NX : Pk.nxt (tl s) = if R.size ≤ nv then .bad 10 else if (tl R).getD nv 0 ≠ 44 then .bad 11 else .ok ((tl R).take nv) ((tl R).drop (nv + 1)) := by
                    unfold Pk.nxt
                    rw [hV2]
                    simp only
                    rw [← Lib.size_eq]
                  clear hV2 hRt hRl eR
                  by_cases q1 : R.size ≤ nv
                  · have HT := Lib.hid (text_of_bad (HL.out ▸ (NX.trans (if_pos q1)) : Pk.nxt l = .bad 10))
                    clear NX
                    have q2 : (R.size : Int) < (nv : Int) + 1 := by omega
                    go_wp2_with (go_at_call 273; ((with_reducible refine (W10.out).mono ?_); rintro e w1 ⟨rfl, hr1, hg1⟩))
                    go_ret
                    exact ⟨ret_str (by rw [HT.out]; rfl), by rw [HT.out]; exact hr1, hg1⟩
                  · have q2 : ¬ (R.size : Int) < (nv : Int) + 1 := by omega
                    have hnR : nv < R.size := by omega
                    have q3 : (nv : Int) < (R.size : Int) := by omega
                    have q4 : (nv : Int) + 1 ≤ (R.size : Int) := by omega
                    have q5 : (nv : Int) ≤ (R.size : Int) := by omega
                    have hg : (tl R).getD nv 0 = R[nv] := getD_byte hnR
                    have hq : ((tl R).getD nv 0 ≠ 44) ↔ R[nv].toNat ≠ 44 := by rw [hg, ne_eq, ne_eq, ← UInt8.toNat_inj]; rfl
                    by_cases q6 : R[nv].toNat ≠ 44
                    · have HT := Lib.hid (text_of_bad (HL.out ▸ ((NX.trans (if_neg q1)).trans (if_pos (hq.2 q6))) : Pk.nxt l = .bad 11))
                      have q7 : (R[nv].toNat : Int) ≠ 44 := by omega
                      clear NX hg hq
                      go_wp2_with (go_at_call 273; ((with_reducible refine (W11.out).mono ?_); rintro e w1 ⟨rfl, hr1, hg1⟩))
                      go_ret
                      exact ⟨ret_str (by rw [HT.out]; rfl), by rw [HT.out]; exact hr1, hg1⟩
                    · have HT := Lib.hid (text_of_ok (HL.out ▸ ((NX.trans (if_neg q1)).trans (if_neg (fun h => q6 (hq.1 h)))) : Pk.nxt l = .ok ((tl R).take nv) ((tl R).drop (nv + 1))))
                      have b1 : bs ((tl R).take nv) = R.extract 0 nv := by rw [← bs_of (R.extract 0 nv), Lib.extract_data]; simp
                      have b2 : bs ((tl R).drop (nv + 1)) = R.extract (nv + 1) R.size := by rw [← bs_of (R.extract (nv + 1) R.size), Lib.extract_to_end]
                      have B1 := Lib.hid b1
                      have B2 := Lib.hid b2
                      have q7 : (R[nv].toNat : Int) = 44 := by omega
                      clear NX hg hq b1 b2 q6
                      go_wp2_with (fail)
                      go_ret
                      refine ⟨ret_str (by rw [HT.out]; exact B1.out.symm), ?_, grown_set (grown_refl _ _) (.inr rfl) _ _⟩
                      rw [HT.out]
                      unfold RqAt
                      rw [B2.out]
                      exact heap_set H.out
            · have hV := OUT.out.resolve_right (fun h => h.1 (.inl g58)) |>.2
              have a5 : (s[k].toNat : Int) ≠ 58 := by omega
              have HT := Lib.hid (text_of_bad (HL.out ▸ hV : Pk.nxt l = .bad 11))
              clear OUT hV
              try clear g58
              try clear g0
              try clear gz
              go_wp2_with (go_at_call 273; ((with_reducible refine (W11.out).mono ?_); rintro e w1 ⟨rfl, hr1, hg1⟩))
              go_ret
              exact ⟨ret_str (by rw [HT.out]; rfl), by rw [HT.out]; exact hr1, hg1⟩
        · obtain rfl : k = s.size := by omega
          have hV : Pk.nxt (tl s) = .bad 10 := by
            unfold Pk.nxt Pk.len
            rw [← EK.out]
            simp only
            rw [if_pos HSZ.out.symm]
          have HT := Lib.hid (text_of_bad (HL.out ▸ hV : Pk.nxt l = .bad 10))
          clear EK EN hV ENV
          go_wp2_with (go_at_call 273; ((with_reducible refine (W10.out).mono ?_); rintro e w1 ⟨rfl, hr1, hg1⟩))
          go_ret
          exact ⟨ret_str (by rw [HT.out]; rfl), by rw [HT.out]; exact hr1, hg1⟩
  · have n1 : ((bad : Int) != 0) = true := by simp; omega
    have HT : Hid (Pk.Rd.text ⟨l, bad⟩ = ([], ⟨l, bad⟩)) := Lib.hid (by unfold Pk.Rd.text; simp [hb])
    have H := Lib.hid h
    clear h
    go_enter Tryz.func218, Tryz.ntmps218
    go_wp2_with (fail)
    go_ret
    exact ⟨ret_str (by rw [HT.out]; rfl), by rw [HT.out]; exact H.out, grown_refl _ _⟩
end Go.Proofs.YtlndnpfjneeeeaaGreatDoor
namespace Go.Proofs.YtlndnpfjneeeeaaGreatDoor
open Go.RowKit
set_option linter.unusedVariables false
set_option maxRecDepth 100000
theorem rrend_any (b : Nat) (r : Pk.Rd) (w : World) (h : RqAt w b r) :
    Calls Tryz.prog 154 #[.pointer (some ⟨b, 0, none⟩)] w fun e w' => e = .returned (.int .i64 r.fin) ∧ w = w' := by
  obtain ⟨l, bad⟩ := r
  have c0 : w.cell? ⟨b, 0, none⟩ = some (.string (bs l)) := (cell_heap h 0).trans rfl
  have c1 : w.cell? ⟨b, 1, none⟩ = some (.int .i64 bad) := (cell_heap h 1).trans rfl
  clear h
  by_cases hb : bad = 0
  · subst hb
    by_cases hl : l = []
    · subst hl
      rw [bs_nil] at c0
      have HV : Hid (Pk.Rd.fin ⟨[], 0⟩ = 0) := Lib.hid (by simp [Pk.Rd.fin])
      go_enter Tryz.func154, Tryz.ntmps154
      go_wp2_with (fail)
      go_ret
      exact ⟨ret_val (by rw [HV.out]; rfl), rfl⟩
    · have HV : Hid (Pk.Rd.fin ⟨l, 0⟩ = 12) := Lib.hid (by simp [Pk.Rd.fin, hl])
      have e1 := bs_ne hl
      clear hl
      go_enter Tryz.func154, Tryz.ntmps154
      go_wp2_with (fail)
      go_ret
      exact ⟨ret_val (by rw [HV.out]; rfl), rfl⟩
  · have HV : Hid (Pk.Rd.fin ⟨l, bad⟩ = bad) := Lib.hid (by simp [Pk.Rd.fin, hb])
    have n1 : ((bad : Int) == 0) = false := by simp; omega
    clear hb
    go_enter Tryz.func154, Tryz.ntmps154
    go_wp2_with (fail)
    go_ret
    exact ⟨ret_val (by rw [HV.out]; rfl), rfl⟩
theorem RqAt.later {w w' : World} {b : Nat} {r : Pk.Rd} (h : RqAt w b r) (k : Below w.heap.size w w') : RqAt w' b r := heap_below k (lt_heap h) h
theorem RqAt.grown {w w' : World} {b : Nat} {r : Pk.Rd} (h : RqAt w b r) {g : Nat} (k : w.grownBy w' (some g)) (hne : b ≠ g) : RqAt w' b r := (k.block b (lt_heap h) (fun e => hne (Option.some.inj e))).trans h
theorem own_grown2 {wx w' : World} {B : Nat} {e : TypeId} {size : Nat} {v : Value} {n : Nat} {xs : List Value} {g : Nat} (hown : wx.ownsRow B e size v n xs) (hg : wx.grownBy w' (some g)) (hgB : g < B) : w'.ownsRow B e size v n xs := by
  refine ⟨hown.1, ?_⟩
  rcases hown.2 with h0 | ⟨g', cap, cur, hv, hgg, hcc, h1, h2, h3, h4⟩
  · exact .inl h0
  · exact .inr ⟨g', cap, cur, hv, hgg, (hg.block g' (lt_heap hcc) (fun e => by have := Option.some.inj e; omega)).trans hcc, h1, h2, h3, h4⟩
def mRd (w : World) (X : Nat) : Nat := match w.cell? ⟨X, 0, none⟩, w.cell? ⟨X, 1, none⟩ with
  | some (.string s), some (.int _ n) => 2 * s.size + (if n = 0 then 1 else 0)
  | _, _ => 0
theorem mRd_at {w : World} {X : Nat} {r : Pk.Rd} (h : RqAt w X r) : mRd w X = 2 * r.rest.length + (if r.bad = 0 then 1 else 0) := by
  have c0 : w.cell? ⟨X, 0, none⟩ = some (.string (bs r.rest)) := (cell_heap h 0).trans rfl
  have c1 : w.cell? ⟨X, 1, none⟩ = some (.int .i64 r.bad) := (cell_heap h 1).trans rfl
  unfold mRd
  rw [c0, c1]
  simp only [bs_size]
  congr 1
  by_cases hb : r.bad = 0
  · rw [if_pos hb, if_pos (by omega)]
  · rw [if_neg hb, if_neg (by omega)]
theorem text_none {r : Pk.Rd} (h : r.text.2.bad ≠ 0) : r.text.1 = [] := by
  unfold Pk.Rd.text at h ⊢
  split
  · rfl
  · rename_i hb
    rw [if_neg hb] at h
    cases hn : Pk.nxt r.rest with
    | bad c => rfl
    | ok t q => rw [hn] at h; exact absurd rfl h
def ListSaysR (b : Nat) (r : Pk.Rd) (w : World) (e : Ending) (w' : World) : Prop :=
  ∃ v, e = .returned v ∧ w'.ownsRow w.heap.size 9 1 v r.list.1.length (r.list.1.map fun t => Value.string (bs t)) ∧ RqAt w' b r.list.2 ∧ w.grownBy w' (some b)
set_option maxHeartbeats 4000000 in
theorem rrlist_any (b : Nat) (r : Pk.Rd) (hs : r.rest.length ≤ 1000000000) (w : World) (h : RqAt w b r) :
    Calls Tryz.prog 153 #[.pointer (some ⟨b, 0, none⟩)] w (ListSaysR b r w) := by
  have RT := rrtext_any b r hs w h
  have hl0 : r.text.1.length ≤ 1000000000 := Nat.le_trans (rtext_lt r) hs
  have TN := Lib.hid (@text_none r)
  have RLS : Hid (∀ l, Pk.lst r.text.1 = some l → r.list = (l, r.text.2)) := Lib.hid (fun l h => by unfold Pk.Rd.list; rw [h])
  have RLN : Hid (Pk.lst r.text.1 = none → r.list = ([], ⟨r.text.2.rest, 11⟩)) := Lib.hid (fun h => by unfold Pk.Rd.list; rw [h])
  have hbw : b < w.heap.size := lt_heap h
  clear h
  generalize r.text.1 = s0 at *
  generalize r.text.2 = r1 at *
  have RTH := Lib.hid RT
  clear RT
  go_enter Tryz.func153, Tryz.ntmps153
  go_wp2_with (go_at_call 218; ((with_reducible refine (RTH.out).mono ?_); rintro e w1 ⟨rfl, hrd, hg1⟩))
  have hz1 := hg1.size
  have hstart : RqAt (w1.alloc (.cells #[.string (bs s0), .int .i64 0] 208)) w1.heap.size ⟨s0, 0⟩ := heap_alloc_new w1 _
  have hrst : RqAt (w1.alloc (.cells #[.string (bs s0), .int .i64 0] 208)) b r1 := hrd.later ((Below.refl _ _).alloc (Nat.le_refl _) _)
  have hbst : Below w1.heap.size w1 (w1.alloc (.cells #[.string (bs s0), .int .i64 0] 208)) := (Below.refl _ _).alloc (Nat.le_refl _) _
  go_loopw [5] (fun v wx => ∃ cur xb pre, RqAt wx w1.heap.size ⟨cur, xb⟩ ∧ cur.length ≤ 1000000000 ∧ (xb = 0 → Pk.lst s0 = (Pk.lst cur).map (pre ++ ·)) ∧ (xb ≠ 0 → Pk.lst s0 = none ∧ r1.bad = 0) ∧ (r1.bad ≠ 0 → cur = []) ∧ wx.ownsRow (w1.heap.size + 1) 9 1 v pre.length (pre.map fun t => Value.string (bs t)) ∧ (xb = 0 → pre.length + cur.length ≤ 1000000000) ∧ RqAt wx b r1 ∧ Below w1.heap.size w1 wx ∧ w1.heap.size < wx.heap.size) (fun _ wx => mRd wx w1.heap.size)
  case atStart => exact ⟨s0, 0, [], hstart, hl0, fun _ => by simp, fun h => absurd rfl h, TN.out, by simpa using World.ownsRow_nil _ _ _ _, fun _ => by simp; omega, hrst, hbst, by simp⟩
  case round =>
    obtain ⟨cur, xb, pre, hx, hcl, hl1, hl2, hcb, hown, hpc, hrx, hbx, hlx⟩ := hrel
    rename World => wx
    clear hstart hrst hbst
    have x0 : wx.cell? ⟨w1.heap.size, 0, none⟩ = some (.string (bs cur)) := (cell_heap hx 0).trans rfl
    have x1 : wx.cell? ⟨w1.heap.size, 1, none⟩ = some (.int .i64 xb) := (cell_heap hx 1).trans rfl
    have b1 : wx.cell? ⟨b, 1, none⟩ = some (.int .i64 r1.bad) := (cell_heap hrx 1).trans rfl
    have g1 : wx.frozen? ⟨b, 1, none⟩ = false := frozen_heap hrx 1
    have hgw : w.grownBy wx (some b) := grown_below hg1 (hbx.mono hz1)
    have HX := Lib.hid hx
    have HRX := Lib.hid hrx
    by_cases hxb : xb = 0
    · subst hxb
      have hl1' := hl1 rfl
      have hpc := hpc rfl
      by_cases hc : cur = []
      · subst hc
        rw [lst_nil] at hl1'
        have RL := Lib.hid (RLS.out pre (by rw [hl1']; simp))
        rw [bs_nil] at x0
        by_cases hr1 : r1.bad = 0
        · have n1 : ((r1.bad : Int) != 0) = false := by simp; omega
          have n2 : ((r1.bad : Int) == 0) = true := by simp; omega
          have hownF := own_base hown (show w.heap.size ≤ w1.heap.size + 1 by omega)
          obtain ⟨p, m, c', rfl⟩ := own_form hown
          clear hl1 hl2 hcb hl1' hr1 hx hrx
          go_wp2_with (fail)
          go_ret
          exact ⟨_, rfl, by rw [RL.out]; exact hownF, by rw [RL.out]; exact HRX.out, hgw⟩
        · have n1 : ((r1.bad : Int) != 0) = true := by simp; omega
          have n2 : ((r1.bad : Int) == 0) = false := by simp; omega
          have hs0 := TN.out hr1
          have hp0 : pre = [] := by
            rw [hs0, lst_nil] at hl1'
            simpa using hl1'
          have RL2 : Hid (r.list = ([], r1)) := Lib.hid (by rw [RL.out, hp0])
          clear hl1 hl2 hcb hl1' hr1 hs0 hp0 hx hrx
          go_wp2_with (fail)
          go_ret
          exact ⟨_, rfl, by rw [RL2.out]; simpa using World.ownsRow_nil _ _ _ _, by rw [RL2.out]; exact HRX.out, hgw⟩
      · have hr1 : r1.bad = 0 := Classical.byContradiction (fun e => hc (hcb e))
        have n2 : ((r1.bad : Int) == 0) = true := by simp; omega
        have e1 := bs_ne hc
        have RX := Lib.hid (rrtext_any w1.heap.size ⟨cur, 0⟩ hcl wx hx)
        have hB1 : w1.heap.size + 1 ≤ wx.heap.size := hlx
        have hM := Lib.hid (mRd_at hx)
        have hk9 : pre.length + 1 ≤ 1000000000 + 3 := by omega
        obtain ⟨t, q, xq, hTq, hlen, hL1, hL2⟩ : ∃ t q xq, Pk.Rd.text ⟨cur, 0⟩ = (t, ⟨q, xq⟩) ∧ (xq = 0 ∧ q.length < cur.length ∨ xq ≠ 0 ∧ q = cur) ∧ (xq = 0 → Pk.lst s0 = (Pk.lst q).map ((pre ++ [t]) ++ ·)) ∧ (xq ≠ 0 → Pk.lst s0 = none) := by
          rcases hn : Pk.nxt cur with c | ⟨t, q⟩
          · have hcc := nxt_bad hn
            refine ⟨[], cur, c, text_of_bad hn, .inr ⟨by omega, rfl⟩, fun h => by omega, fun _ => by rw [hl1', lst_bad hc hn]; rfl⟩
          · refine ⟨t, q, 0, text_of_ok hn, .inl ⟨rfl, Pk.nxt_lt hn⟩, fun _ => by rw [hl1', lst_ok hc hn]; cases Pk.lst q <;> simp, fun h => absurd rfl h⟩
        have RXX : Hid (Calls Tryz.prog 218 #[.pointer (some ⟨w1.heap.size, 0, none⟩)] wx fun e w' => e = .returned (.string (bs t)) ∧ RqAt w' w1.heap.size ⟨q, xq⟩ ∧ wx.grownBy w' (some w1.heap.size)) := Lib.hid (by have := RX.out; rw [hTq] at this; exact this)
        have PM : Hid ((pre ++ [t]).map (fun t => Value.string (bs t)) = pre.map (fun t => Value.string (bs t)) ++ [.string (bs t)]) := Lib.hid (by simp)
        have HQ := Lib.hid hlen
        have HL1 := Lib.hid hL1
        have HL2 := Lib.hid hL2
        have HR1 := Lib.hid hr1
        have hbx0 : b < w1.heap.size := by omega
        have hc1 : 0 < cur.length := List.length_pos_iff.2 hc
        have hpc2 : pre.length + 1 ≤ 1000000000 := by omega
        clear hl1 hl2 hcb hl1' hc hr1 hx hrx RX hTq hlen hL1 hL2
        go_wp2_with (first | (go_at_call 218; ((with_reducible refine (RXX.out).mono ?_); rintro e w2 ⟨rfl, hq2, hg2⟩; have hown2 := own_grown2 hown hg2 (Nat.lt_succ_self _); have hB2 := Nat.le_trans hB1 hg2.size; clear hown)) | (at_builtin; refine append_one (w0 := w2) rfl (.tmp 30) (.tmp 33) 22 rfl (w1.heap.size + 1) 9 _ 16 Tryz.underlying22 str_info rfl (by decide) _ pre.length _ rfl hown2 (.string (bs t)) rfl rfl hpc2 hB2 (Below.refl _ _) ?_; intro v' w3 hown3 hb3 _))
        have hq3 : RqAt w3 w1.heap.size ⟨q, xq⟩ := heap_below hb3 (Nat.lt_succ_self _) hq2
        go_roundw
        case rel =>
          refine ⟨q, xq, pre ++ [t], hq3, ?_, HL1.out, fun h => ⟨HL2.out h, HR1.out⟩, fun h => absurd HR1.out h, ?_, ?_, heap_below hb3 (by omega) (HRX.out.grown hg2 (by omega)), ?_, ?_⟩
          · rcases HQ.out with ⟨_, h2⟩ | ⟨_, h2⟩
            · omega
            · rw [h2]; exact hcl
          · rw [PM.out, List.length_append]; exact hown3
          · intro h0
            rw [List.length_append]
            rcases HQ.out with ⟨_, h2⟩ | ⟨h1, _⟩
            · simp; omega
            · exact absurd h0 h1
          · exact (hbx.grown hg2 hbx.size (fun g hg => by cases hg; exact Nat.le_refl _)).trans (hb3.mono (Nat.le_succ _))
          · exact Nat.lt_of_lt_of_le hB2 hb3.size
        case measure =>
          rw [mRd_at hq3, hM.out]
          rcases HQ.out with ⟨h1, h2⟩ | ⟨h1, h2⟩
          · simp only [h1]; omega
          · simp only [h2, if_neg h1]; simp
    · obtain ⟨hN, hr1⟩ := hl2 hxb
      have n0 : ((xb : Int) == 0) = false := by simp; omega
      have n1 : ((xb : Int) != 0) = true := by simp; omega
      have RL := Lib.hid (RLN.out hN)
      have HC : cur = [] ∨ cur ≠ [] := Classical.em _
      clear hl1 hl2 hcb hxb hr1 hN hx hrx hown
      rcases HC with hc | hc
      · subst hc
        rw [bs_nil] at x0
        go_wp2_with (fail)
        go_ret
        refine ⟨_, rfl, by rw [RL.out]; simpa using World.ownsRow_nil _ _ _ _, ?_, grown_set hgw (.inr rfl) _ _⟩
        rw [RL.out]
        exact heap_set HRX.out
      · have e1 := bs_ne hc
        clear hc
        go_wp2_with (fail)
        go_ret
        refine ⟨_, rfl, by rw [RL.out]; simpa using World.ownsRow_nil _ _ _ _, ?_, grown_set hgw (.inr rfl) _ _⟩
        rw [RL.out]
        exact heap_set HRX.out
end Go.Proofs.YtlndnpfjneeeeaaGreatDoor
