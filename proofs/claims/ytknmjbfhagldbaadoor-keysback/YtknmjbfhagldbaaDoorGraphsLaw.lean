/- The walk of KeysGraphs. -/
import Derived.Test.YtknmjbfhagldbaaDoorSameG
import Derived.Test.YtknmjbfhagldbaaDoorAlike
namespace Go.Proofs.YtknmjbfhagldbaaDoor
open Go.RowKit
set_option linter.unusedVariables false
set_option maxRecDepth 100000
theorem each_mem {α : Type} {takes : Pk.Rd → α × Pk.Rd} : ∀ (l : List (List UInt8)) (m : List α), Pk.each takes l = some m → ∀ t ∈ m, ∃ s ∈ l, t = (takes ⟨s, 0⟩).1
  | [], m, h => by rw [Pk.each] at h; injection h with h; subst h; intro t ht; cases ht
  | s :: l, m, h => by
    rw [Pk.each] at h
    split at h
    · cases h
    · cases hm : Pk.each takes l with
      | none => rw [hm] at h; cases h
      | some m' =>
        rw [hm] at h
        injection h with h
        subst h
        intro t ht
        rcases List.mem_cons.1 ht with rfl | ht
        · exact ⟨s, List.mem_cons_self .., rfl⟩
        · obtain ⟨s', h1, h2⟩ := each_mem l m' hm t ht
          exact ⟨s', List.mem_cons_of_mem _ h1, h2⟩
theorem takesT_len (r : Pk.Rd) : (takesT r).1.ds.length ≤ r.rest.length ∧ (takesT r).1.ss.length ≤ r.rest.length := by
  have h1 := rtext_rest r
  have h2 := rtext_rest r.text.2
  have h3 := (rlist_lens r.text.2.text.2).2
  have h4 := rlist_rest r.text.2.text.2
  have h5 := (rlist_lens r.text.2.text.2.list.2).2
  unfold takesT
  exact ⟨by simp only; omega, by simp only; omega⟩
theorem all_fit (l : List UInt8) : ∀ t ∈ (Pk.all takesT l).1, t.ds.length ≤ l.length ∧ t.ss.length ≤ l.length := by
  by_cases hf : (Pk.Rd.list ⟨l, 0⟩).2.fin = 0
  · rw [all_ok hf]
    cases he : Pk.each takesT (Pk.Rd.list ⟨l, 0⟩).1 with
    | none => intro t ht; cases ht
    | some m =>
      intro t ht
      obtain ⟨s, hs, rfl⟩ := each_mem _ _ he t ht
      have h1 := (rlist_lens ⟨l, 0⟩).1 s hs
      have h2 := takesT_len ⟨s, 0⟩
      simp only at h1 h2
      omega
  · rw [all_bad hf]; intro t ht; cases ht
set_option maxHeartbeats 2000000 in
theorem graphslaw_walk (s : ByteArray) (hs : s.size ≤ maxLen) (w : World) (ht : Tab w) :
    Calls Tryd.prog 7 #[.string s] w fun e w' => e = .returned (.bool true) ∧ Below w.heap.size w w' := by
  unfold maxLen at hs
  by_cases h5 : s.size ≤ 50000
  · have i1 : ¬ (50000 : Int) < (s.size : Int) := by omega
    have hsl : (tl s).length ≤ 500000000 := by rw [← Lib.size_eq]; omega
    have hal := Nat.le_trans (all_len (takes := takesT) (tl s)) hsl
    have hft : ∀ t ∈ (Pk.all takesT (tl s)).1.map mkTg, t.ds.length ≤ 9223372036854775807 ∧ t.ss.length ≤ 9223372036854775807 := by
      intro t ht
      obtain ⟨u, hu, rfl⟩ := List.mem_map.1 ht
      have := all_fit (tl s) u hu
      simp only [mkTg, List.length_map]
      omega
    have K := Lib.hid (readGraph_any (tl s) hsl)
    have R := Lib.hid (rreadT_any (tl s) hsl)
    rw [bs_of] at K R
    go_enter Tryd.func7, Tryd.ntmps7
    go_wp2_with (fail)
    refine (K.out w).mono ?_
    rintro e w1 ⟨v1, xs1, rfl, ho1, htc1, hb1⟩
    obtain ⟨A1, m1, c1, rfl⟩ := own_form ho1
    obtain ⟨rfl, hf1⟩ := tgs_of_own ho1 htc1
    go_wp2_with (fail)
    refine (R.out w1).mono ?_
    rintro e w2 ⟨v2, xs2, rfl, ho2, htc2, hb2⟩
    obtain ⟨A2, m2, c2, rfl⟩ := own_form ho2
    obtain ⟨rfl, hf2⟩ := tgs_of_own ho2 htc2
    have hb12 := hb1.trans (hb2.mono hb1.size)
    have AL := sameG_any A1 A2 ((Pk.all takesT (tl s)).1.map mkTg) c1 c2 _ _ w2 (by rw [List.length_map]; omega) hft (hf1.below hb2) hf2
    rw [List.length_map] at AL
    have ALH := Lib.hid AL
    have e0 : (((Pk.all takesT (tl s)).2 : Int) == ((Pk.all takesT (tl s)).2 : Int)) = true := by simp
    clear AL ho1 ho2 htc1 htc2 hf1 hf2 hal hft
    generalize (Pk.all takesT (tl s)).1.length = nn at *
    generalize (Pk.all takesT (tl s)).2 = ee at *
    go_wp2_with (first | (go_at_call 21; ((with_reducible refine (ALH.out).mono ?_); rintro e w3 ⟨rfl, n3, rfl⟩; have hb13 := belowDN hb12 n3; have ht3 := ht.on hb13)) | (go_at_call 11; ((with_reducible refine (awake_any _ ht3).mono ?_); rintro e w4 ⟨rfl, hb4⟩)))
    go_ret
    exact ⟨rfl, hb13.trans (hb4.mono hb13.size)⟩
  · have i1 : (50000 : Int) < (s.size : Int) := by omega
    go_enter Tryd.func7, Tryd.ntmps7
    go_wp2_with (go_at_call 11; ((with_reducible refine (awake_any _ ht).mono ?_); rintro e w4 ⟨rfl, hb4⟩))
    go_ret
    exact ⟨rfl, hb4⟩
end Go.Proofs.YtknmjbfhagldbaaDoor
