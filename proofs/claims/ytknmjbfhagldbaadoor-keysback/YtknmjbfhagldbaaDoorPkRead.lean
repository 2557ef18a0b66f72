/- The contracts of pack's next and of its Reader. -/
import Derived.Test.YtknmjbfhagldbaaDoorPkNext
import Derived.Test.YtknmjbfhagldbaaDoorKgList
namespace Go.Proofs.YtknmjbfhagldbaaDoor
open Go.RowKit
set_option linter.unusedVariables false
set_option maxRecDepth 100000
def nxV : Pk.Nx → Value
  | .bad c => .tuple #[.string ⟨#[]⟩, .string ⟨#[]⟩, .int .i64 c]
  | .ok t r => .tuple #[.string (bs t), .string (bs r), .int .i64 0]
theorem len_bad {l : List UInt8} {c : Nat} (h : Pk.len l = .inl c) : c = 10 ∨ c = 11 := by
  unfold Pk.len at h
  simp only at h
  split at h
  · injection h with h; exact .inl h.symm
  · split at h
    · injection h with h; exact .inr h.symm
    · cases h
theorem len_good {l r : List UInt8} {n : Nat} (h : Pk.len l = .inr (n, r)) : r.length ≤ l.length ∧ n < 100000000 := by
  unfold Pk.len at h
  simp only at h
  split at h
  · cases h
  · split at h
    · cases h
    · injection h with h
      injection h with h1 h2
      subst h1 h2
      refine ⟨by simp, ?_⟩
      refine dval_lt _ (fun c hc => ?_) (by rw [List.length_take]; have := (kd_le l).2; omega)
      obtain ⟨j, hj, rfl⟩ := List.mem_iff_getElem.1 hc
      rw [List.length_take] at hj
      obtain ⟨c, h1, h2, h3⟩ := kd_dig (s := l) (j := j) (by omega)
      rw [List.getElem_take]
      have := (List.getElem?_eq_some_iff.1 h1).2
      rw [this]
      exact ⟨h2, h3⟩
set_option maxHeartbeats 4000000 in
theorem next_any (l : List UInt8) (hs : l.length ≤ 1000000000) (w : World) :
    Calls Tryd.prog 52 #[.string (bs l)] w fun e w' => e = .returned (nxV (Pk.nxt l)) ∧ Below w.heap.size w w' := by
  have LN := length_any (bs l) (by rw [bs_size]; omega)
  rw [show tl (bs l) = l from rfl] at LN
  rcases hlen : Pk.len l with c | ⟨n, r⟩
  · have hc := len_bad hlen
    have HV : Hid (nxV (Pk.nxt l) = .tuple #[.string ⟨#[]⟩, .string ⟨#[]⟩, .int .i64 c]) := Lib.hid (by unfold Pk.nxt; rw [hlen]; rfl)
    rw [hlen, show lenV (.inl c) = .tuple #[.int .i64 0, .string ⟨#[]⟩, .int .i64 c] from rfl] at LN
    have LNH := Lib.hid LN
    clear LN hlen
    rcases hc with rfl | rfl
    all_goals
      go_enter Tryd.func52, Tryd.ntmps52
      go_wp2_with (go_at_call 61; ((with_reducible refine (LNH.out _).mono ?_); rintro e w1 ⟨rfl, hb1⟩))
      go_ret3
      exact ⟨ret_val HV.out, hb1⟩
  · obtain ⟨hr, hn⟩ := len_good hlen
    rw [hlen, show lenV (.inr (n, r)) = .tuple #[.int .i64 n, .string (bs r), .int .i64 0] from rfl] at LN
    have LNH := Lib.hid LN
    clear LN
    have hrs := bs_size r
    obtain ⟨R, eR⟩ : ∃ R, R = bs r := ⟨_, rfl⟩
    have hRl : tl R = r := by rw [eR]; rfl
    rw [← eR] at LNH hrs
    have OUT : nxV (Pk.nxt l) = if r.length ≤ n then .tuple #[.string ⟨#[]⟩, .string ⟨#[]⟩, .int .i64 10] else if r.getD n 0 ≠ 44 then .tuple #[.string ⟨#[]⟩, .string ⟨#[]⟩, .int .i64 11] else .tuple #[.string (bs (r.take n)), .string (bs (r.drop (n + 1))), .int .i64 0] := by
      unfold Pk.nxt
      rw [hlen]
      simp only
      split
      · rfl
      · split <;> rfl
    by_cases h1 : r.length ≤ n
    · have HV := Lib.hid (OUT.trans (if_pos h1))
      have i1 : R.size ≤ n := by omega
      have i1' : (R.size : Int) ≤ (n : Int) := by omega
      clear OUT hlen eR hRl hrs
      go_enter Tryd.func52, Tryd.ntmps52
      go_wp2_with (go_at_call 61; ((with_reducible refine (LNH.out _).mono ?_); rintro e w1 ⟨rfl, hb1⟩))
      go_ret3
      exact ⟨ret_val HV.out, hb1⟩
    · have i1 : ¬ R.size ≤ n := by omega
      have hnR : n < R.size := by omega
      have i2 : (n : Int) < (R.size : Int) := by omega
      have i3 : (n : Int) + 1 ≤ (R.size : Int) := by omega
      have i4 : (n : Int) ≤ (R.size : Int) := by omega
      have hg : r.getD n 0 = R[n] := by rw [← hRl]; exact getD_byte hnR
      have hq : (r.getD n 0 ≠ 44) ↔ R[n].toNat ≠ 44 := by rw [hg, ne_eq, ne_eq, ← UInt8.toNat_inj]; rfl
      by_cases h2 : R[n].toNat ≠ 44
      · have HV := Lib.hid ((OUT.trans (if_neg h1)).trans (if_pos (hq.2 h2)))
        have j1 : (R[n].toNat : Int) ≠ 44 := by omega
        clear OUT hlen eR hRl hrs hg hq
        go_enter Tryd.func52, Tryd.ntmps52
        go_wp2_with (go_at_call 61; ((with_reducible refine (LNH.out _).mono ?_); rintro e w1 ⟨rfl, hb1⟩))
        go_ret3
        exact ⟨ret_val HV.out, hb1⟩
      · have hV := (OUT.trans (if_neg h1)).trans (if_neg (fun h => h2 (hq.1 h)))
        have b1 : bs (r.take n) = R.extract 0 n := by rw [← bs_of (R.extract 0 n), Lib.extract_data, show R.data.toList = r from hRl]; simp
        have b2 : bs (r.drop (n + 1)) = R.extract (n + 1) R.size := by rw [← bs_of (R.extract (n + 1) R.size), Lib.extract_to_end, show R.data.toList = r from hRl]
        rw [b1, b2] at hV
        have HV := Lib.hid hV
        have j1 : (R[n].toNat : Int) = 44 := by omega
        clear OUT hlen eR hRl hrs hg hq hV b1 b2 h2
        go_enter Tryd.func52, Tryd.ntmps52
        go_wp2_with (go_at_call 61; ((with_reducible refine (LNH.out _).mono ?_); rintro e w1 ⟨rfl, hb1⟩))
        go_quiet (fail)
        go_wp2
        go_ret3
        exact ⟨ret_val HV.out, hb1.trans (belowDN (Below.refl _ _) _)⟩

/-- a reader in a block -/
def RdAt (w : World) (b : Nat) (r : Pk.Rd) : Prop := w.heap[b]? = some (.cells #[.string (bs r.rest), .int .i64 r.bad] 79 (0, 0))
set_option maxHeartbeats 4000000 in
theorem rtext_any (b : Nat) (r : Pk.Rd) (hs : r.rest.length ≤ 1000000000) (w : World) (h : RdAt w b r) :
    Calls Tryd.prog 34 #[.pointer (some ⟨b, 0, none⟩)] w fun e w' => e = .returned (.string (bs r.text.1)) ∧ RdAt w' b r.text.2 ∧ w.grownBy w' (some b) := by
  obtain ⟨l, bad⟩ := r
  have c0 : w.cell? ⟨b, 0, none⟩ = some (.string (bs l)) := (cell_heap h 0).trans rfl
  have c1 : w.cell? ⟨b, 1, none⟩ = some (.int .i64 bad) := (cell_heap h 1).trans rfl
  by_cases hb : bad = 0
  · subst hb
    have f0 : w.frozen? ⟨b, 0, none⟩ = false := frozen_heap h 0
    have f1 : w.frozen? ⟨b, 1, none⟩ = false := frozen_heap h 1
    have NX := next_any l hs w
    rcases hn : Pk.nxt l with c | ⟨t, q⟩
    · rw [hn, show nxV (.bad c) = .tuple #[.string ⟨#[]⟩, .string ⟨#[]⟩, .int .i64 c] from rfl] at NX
      have hc : c = 10 ∨ c = 11 := by
        unfold Pk.nxt at hn
        split at hn
        · rename_i e he; injection hn with hn; subst hn; exact len_bad he
        · split at hn
          · injection hn with hn; exact .inl hn.symm
          · split at hn
            · injection hn with hn; exact .inr hn.symm
            · cases hn
      have HT : Hid (Pk.Rd.text ⟨l, 0⟩ = ([], ⟨l, c⟩)) := Lib.hid (by unfold Pk.Rd.text; simp [hn])
      have NXH := Lib.hid NX
      clear NX hn
      have hbl : b < w.heap.size := lt_heap h
      have H := Lib.hid h
      clear h
      rcases hc with rfl | rfl
      all_goals
        go_enter Tryd.func34, Tryd.ntmps34
        go_wp2_with (go_at_call 52; ((with_reducible refine (NXH.out).mono ?_); rintro e w1 ⟨rfl, hb1⟩; have d1 := (hb1.cell (p := ⟨b, 1, none⟩) hbl).trans c1; have g1 := (hb1.frozen (p := ⟨b, 1, none⟩) hbl).trans f1))
        go_ret
        refine ⟨ret_str (by rw [HT.out]; rfl), ?_, ?_⟩
        · rw [HT.out]
          exact heap_set (heap_below hb1 hbl H.out)
        · exact grown_set (grown_of_below hb1 _) (.inr rfl) _ _
    · rw [hn, show nxV (.ok t q) = .tuple #[.string (bs t), .string (bs q), .int .i64 0] from rfl] at NX
      have HT : Hid (Pk.Rd.text ⟨l, 0⟩ = (t, ⟨q, 0⟩)) := Lib.hid (by unfold Pk.Rd.text; simp [hn])
      have NXH := Lib.hid NX
      clear NX hn
      have hbl : b < w.heap.size := lt_heap h
      have H := Lib.hid h
      clear h
      go_enter Tryd.func34, Tryd.ntmps34
      go_wp2_with (go_at_call 52; ((with_reducible refine (NXH.out).mono ?_); rintro e w1 ⟨rfl, hb1⟩; have d1 := (hb1.cell (p := ⟨b, 0, none⟩) hbl).trans c0; have g1 := (hb1.frozen (p := ⟨b, 0, none⟩) hbl).trans f0))
      go_ret
      refine ⟨ret_str (by rw [HT.out]), ?_, ?_⟩
      · rw [HT.out]
        exact heap_set (heap_below hb1 hbl H.out)
      · exact grown_set (grown_of_below hb1 _) (.inr rfl) _ _
  · have n1 : ((bad : Int) != 0) = true := by simp; omega
    have HT : Hid (Pk.Rd.text ⟨l, bad⟩ = ([], ⟨l, bad⟩)) := Lib.hid (by unfold Pk.Rd.text; simp [hb])
    have H := Lib.hid h
    clear h
    go_enter Tryd.func34, Tryd.ntmps34
    go_wp2_with (fail)
    go_ret
    exact ⟨ret_str (by rw [HT.out]; rfl), by rw [HT.out]; exact H.out, grown_refl _ _⟩
end Go.Proofs.YtknmjbfhagldbaaDoor
