/- Joined by mkmerged.py: DkApp, DkSync, DkRead, DkNames. -/
import Derived.Test.YtifiipmmgnmciaaGreatDoorMi27
import Derived.Test.YtifiipmmgnmciaaGreatDoorMi21
/- DkApp, what a claim needs of it (prune.py). -/
namespace Go.Proofs.YtifiipmmgnmciaaGreatDoor.Dk
open Go.RowKit
open Fs (cell_lt B)
set_option linter.unusedVariables false
set_option maxRecDepth 100000
theorem wrong_bad {d : Dk} {n : B} (h : wrong d n = 0) : d.dead = false ∧ bad n = false := by
  unfold wrong at h
  cases hd : d.dead
  · rw [hd] at h
    cases hb : bad n
    · exact ⟨rfl, rfl⟩
    · rw [hb] at h; cases h
  · rw [hd] at h; cases h
theorem bad_len {n : B} (h : bad n = false) : 0 < n.length ∧ n.length ≤ 32 := by
  unfold bad at h
  rw [Bool.or_eq_false_iff, decide_eq_false_iff_not, decide_eq_false_iff_not] at h
  refine ⟨?_, by omega⟩
  cases n with
  | nil => exact absurd rfl h.1
  | cons x l => simp
theorem setD_fine {d : Dk} {f : Fd} (h : Fine d) (hn : bad f.n = false) (hf : f.firm ≤ f.d.length) (hr : sz d.l + f.d.length ≤ d.limit + (dat d.l f.n).length) : Fine (setD d f) := by
  refine ⟨set_rises f h.rises, fun x hx => ?_, ?_, h.limit, h.armed, fun x hx => ?_⟩
  · rcases mem_set hx with rfl | hx
    · exact hf
    · exact h.firm x hx
  · have := sz_set f h.rises
    show sz (set f d.l) ≤ d.limit
    omega
  · rcases mem_set hx with rfl | hx
    · exact bad_len hn
    · exact h.names x hx
theorem firm_le {d : Dk} (h : Fine d) (n : B) : firmOf d.l n ≤ (dat d.l n).length := by
  unfold firmOf dat
  cases hg : get d.l n with
  | none => simp
  | some f => exact h.firm f (get_mem hg).1
theorem act_l (d : Dk) : (act d).l = d.l ∧ (act d).limit = d.limit := by unfold act; split <;> exact ⟨rfl, rfl⟩
theorem wrong1 (b m n : Nat) (d : Dk) (s : ByteArray) (W : World) (hD : DkAt W b m n d) (hs : s.size ≤ maxLen) :
    Calls Tryz.prog 181 #[.pointer (some ⟨b, 0, none⟩), .slice (some ⟨W.heap.size, 0, none⟩) 1 1] (W.alloc (.cells #[.string s] 9)) fun e w' => e = .returned (.int .i64 (wrong d (tl s))) ∧ W.alloc (.cells #[.string s] 9) = w' := by
  have h2 : (W.alloc (.cells #[.string s] 9)).heap[W.heap.size]? = some (.cells #[.string s] 9 (0, 0)) := heap_alloc_new _ _
  have hst : Lg.Strs (W.alloc (.cells #[.string s] 9)) (some ⟨W.heap.size, 0, none⟩) [s] := ⟨rfl, fun _ => ⟨_, rfl, Lg.lt_heap h2, fun j u hu => by
    rw [Lg.add_eq, Lg.cell_at h2]
    simpa using hu⟩⟩
  have := pwrong_any b m n d (some ⟨W.heap.size, 0, none⟩) [s] 1 _ (hD.below ((Below.refl _ _).alloc (Nat.le_refl _) _)) hst (by simp) (by simpa using hs)
  simpa [wrongL, wrong] using this
def AppSays (b m n : Nat) (d : Dk) (s a : ByteArray) (W : World) (e : Ending) (w' : World) : Prop := e = .returned (.int .i64 (append d (tl s) (tl a)).2) ∧ DkAt w' b m (n + 1) (append d (tl s) (tl a)).1 ∧ Kp (DkS b m) W w'
theorem DkAt.more {W : World} {b m n n' : Nat} {d : Dk} (h : DkAt W b m n d) (hn : n ≤ n') : DkAt W b m n' d := ⟨h.st, h.map.more hn, h.fine⟩
set_option maxHeartbeats 2000000 in
theorem pappend_any (b m n : Nat) (d : Dk) (s a : ByteArray) (W : World) (hD : DkAt W b m n d) (hs : s.size ≤ maxLen) (ha : a.size ≤ 16777216) (hn : n < maxLen) :
    Calls Tryz.prog 107 #[.pointer (some ⟨b, 0, none⟩), .string s, .string a] W (AppSays b m n d s a W) := by
  obtain ⟨W2, e2⟩ : ∃ W2, W2 = W.alloc (.cells #[.string s] 9) := ⟨_, rfl⟩
  have s2 : W2.heap.size = W.heap.size + 1 := by rw [e2]; simp
  have B2 : Below W.heap.size W W2 := by rw [e2]; exact (Below.refl _ _).alloc (Nat.le_refl _) _
  have D2 : DkAt W2 b m n d := hD.below B2
  have C := Lib.hid (wrong1 b m n d s W hD hs)
  rw [← e2] at C
  by_cases hw : wrong d (tl s) = 0
  · obtain ⟨hdd, hbb⟩ := wrong_bad hw
    rw [hw] at C
    have hsz := D2.fine.room
    have hli := D2.fine.limit
    have c0 : W2.cell? ⟨b, 0, none⟩ = some (.int .i64 (d.limit : Int)) := (cell_heap D2.st 0).trans rfl
    have c2 : W2.cell? ⟨b, 2, none⟩ = some (.int .i64 (sz d.l : Int)) := (cell_heap D2.st 2).trans rfl
    by_cases hfull : d.limit < sz d.l + a.size
    · have q : (d.limit : Int) - (sz d.l : Int) < (a.size : Int) := by omega
      have E : Hid (AppSays b m n d s a W (.returned (.int .i64 41)) W2.drew) := Lib.hid (by
        have : append d (tl s) (tl a) = (d, 41) := by
          unfold append
          rw [if_neg (by simp [hw]), if_pos (by rw [Lg.tl_len]; exact hfull)]
        unfold AppSays
        rw [this]
        exact ⟨rfl, (D2.more (Nat.le_succ n)).keep rfl rfl, (Kp.of_below B2).drew⟩)
      clear hD D2 hdd hbb hw hfull B2
      generalize AppSays b m n d s a W = Q at *
      generalize sz d.l = z at *
      generalize d.limit = L at *
      go_enter Tryz.func107, Tryz.ntmps107
      go_wp2_with (go_at_call 181; rw [← e2]; clear e2; with_reducible refine (C.out).mono ?_; rintro e w1 ⟨rfl, rfl⟩)
      go_region
      go_wp2_with (fail)
      exact E.out
    · have q : ¬ (d.limit : Int) - (sz d.l : Int) < (a.size : Int) := by omega
      have D3 : DkAt W2.drew b m n d := D2.keep rfl rfl
      have A := Lib.hid (pact_any b m n d W2.drew D3 hdd)
      obtain ⟨o, ho⟩ : ∃ o : ByteArray, o = bs (dat d.l (tl s)) := ⟨_, rfl⟩
      have hos : o.size ≤ 16777216 := by
        have := dat_le d.l (tl s)
        rw [ho, ← Lg.tl_len]
        show (dat d.l (tl s)).length ≤ _
        omega
      obtain ⟨v, hv⟩ : ∃ v, v = (act d).dead := ⟨_, rfl⟩
      have LK : Hid (∀ w1, DkAt w1 b m n (act d) → w1.cell? ⟨b, 1, none⟩ = some (.map (some m)) ∧ (Instr.lookup 112 (.map (some m)) (.string s) false).run Tryz.prog w1 = .ok (.agg #[.string o, .int .i64 (firmOf d.l (tl s) : Int)]) w1) := Lib.hid fun w1 h => by
        refine ⟨(cell_heap h.st 1).trans rfl, ?_⟩
        have lk := h.map.look1 (t := 112) (e := 291) (by kernel_rfl) (z := .agg #[.string ⟨#[]⟩, .int .i64 0]) (by rfl) hs
        rw [(act_l d).1] at lk
        rw [lk, ho]
        unfold firmOf dat
        cases get d.l (tl s) <;> rfl
      have EN : Hid (∀ a' w1, tl a' = (if v = true then (tl a).take ((tl a).length / 2) else tl a) → DkAt w1 b m n (act d) → Kp (DkS b m) W2.drew w1 → Calls Tryz.prog 183 #[.pointer (some ⟨b, 0, none⟩), .string s, .agg #[.string (o ++ a'), .int .i64 (firmOf d.l (tl s) : Int)]] (w1.alloc (.cells #[.string o, .int .i64 (firmOf d.l (tl s) : Int)] 291)) fun e w' => e = .returned (.tuple #[]) ∧ AppSays b m n d s a W (.returned (.int .i64 (if v = true then 40 else 0))) w') := Lib.hid fun a' w1 ha' h1 hk => by
        have hle : a'.size ≤ a.size := by
          have h1 : (tl a').length = a'.size := Lg.tl_len a'
          have h2 : (tl a).length = a.size := Lg.tl_len a
          rw [← h1, ← h2, ha']
          split
          · rw [List.length_take]; omega
          · exact Nat.le_refl _
        have hta : tl (o ++ a') = dat d.l (tl s) ++ tl a' := by rw [show tl (o ++ a') = tl o ++ tl a' from by simp [tl], ho]; rfl
        have hF : Fine (setD (act d) ⟨tl s, tl (o ++ a'), firmOf d.l (tl s)⟩) := setD_fine (act_fine hD.fine) hbb (by
          show firmOf d.l (tl s) ≤ (tl (o ++ a')).length
          rw [hta, List.length_append]
          have := firm_le hD.fine (tl s)
          omega) (by
          show sz (act d).l + (tl (o ++ a')).length ≤ (act d).limit + (dat (act d).l (tl s)).length
          rw [hta, List.length_append, (act_l d).1, (act_l d).2]
          have h1 : (tl a').length = a'.size := Lg.tl_len a'
          omega)
        refine (play_any b m n (act d) s (o ++ a') (firmOf d.l (tl s)) _ (h1.below ((Below.refl _ _).alloc (Nat.le_refl _) _)) hs (by rw [ByteArray.size_append]; omega) hn hF).mono ?_
        rintro e w' ⟨rfl, hd', hk'⟩
        refine ⟨rfl, ?_⟩
        have : append d (tl s) (tl a) = (setD (act d) ⟨tl s, tl (o ++ a'), firmOf d.l (tl s)⟩, if v = true then 40 else 0) := by
          unfold append
          rw [if_neg (by simp [hw]), if_neg (by rw [Lg.tl_len]; omega), hta, ha', hv]
          unfold setD
          rw [(act_l d).1]
          split <;> rfl
        unfold AppSays
        rw [this]
        exact ⟨rfl, hd', ((Kp.of_below B2).drew.trans hk).trans ((Kp.of_below ((Below.refl _ _).alloc (Nat.le_refl _) _)).trans hk')⟩
      rw [show ActSays b m n d W2.drew = fun e w' => e = .returned (.int .i64 (if v = true then 40 else 0)) ∧ DkAt w' b m n (act d) ∧ Kp (DkS b m) W2.drew w' from by rw [hv]; rfl] at A
      clear hD D2 D3 hdd hbb hw hfull B2 hv ho
      generalize AppSays b m n d s a W = Q at *
      generalize sz d.l = z at *
      generalize d.limit = L at *
      generalize firmOf d.l (tl s) = i at *
      have TK : Hid (tl (a.extract 0 (a.size / 2)) = (tl a).take ((tl a).length / 2)) := Lib.hid (by
        have h2 : (tl a).length = a.size := Lg.tl_len a
        rw [h2]
        simp [tl])
      have E2 := Lib.hid (fun w1 => EN.out (if v = true then a.extract 0 (a.size / 2) else a) w1 (by cases v; exact rfl; exact TK.out))
      clear EN TK
      cases v
      all_goals
        simp only [if_true, Bool.false_eq_true, if_false] at E2
        go_enter Tryz.func107, Tryz.ntmps107
        go_upto_region 4 with (go_at_call 181; rw [← e2]; clear e2; with_reducible refine (C.out).mono ?_; rintro e w1 ⟨rfl, rfl⟩)
        go_region
        go_upto_region 9 with (go_at_call 182; with_reducible refine (A.out).mono ?_; rintro e w1 ⟨rfl, hd1, hk1⟩)
        obtain ⟨k1, lk⟩ := LK.out w1 hd1
        clear LK
        obtain ⟨W5, e5⟩ : ∃ W5, W5 = w1.alloc (.cells #[.string o, .int .i64 (i : Int)] 291) := ⟨_, rfl⟩
        have y5 : W5.heap[w1.heap.size]? = some (.cells #[.string o, .int .i64 (i : Int)] 291 (0, 0)) := by rw [e5]; exact heap_alloc_new _ _
        have y0 : W5.cell? ⟨w1.heap.size, 0, none⟩ = some (.string o) := (cell_heap y5 0).trans rfl
        have y1 : W5.cell? ⟨w1.heap.size, 1, none⟩ = some (.int .i64 (i : Int)) := (cell_heap y5 1).trans rfl
        clear y5
        go_upto_region 10 with (fail)
        rw [← e5]
        go_wp2_with (go_at_call 183; (with_reducible refine (E2.out w1 hd1 hk1).mono ?_); rintro e w3 ⟨rfl, hQ⟩)
        exact hQ
  · have E : Hid (AppSays b m n d s a W (.returned (.int .i64 (wrong d (tl s)))) W2) := Lib.hid (by
      have : append d (tl s) (tl a) = (d, wrong d (tl s)) := by
        unfold append
        rw [if_pos hw]
      unfold AppSays
      rw [this]
      exact ⟨rfl, D2.more (Nat.le_succ n), Kp.of_below B2⟩)
    clear hD D2 B2
    generalize AppSays b m n d s a W = Q at *
    generalize wrong d (tl s) = x at *
    go_enter Tryz.func107, Tryz.ntmps107
    go_wp2_with (go_at_call 181; rw [← e2]; clear e2; with_reducible refine (C.out).mono ?_; rintro e w1 ⟨rfl, rfl⟩)
    exact E.out
end Go.Proofs.YtifiipmmgnmciaaGreatDoor.Dk
/- DkSync, what a claim needs of it (prune.py). -/
namespace Go.Proofs.YtifiipmmgnmciaaGreatDoor.Dk
open Go.RowKit
open Fs (cell_lt B)
set_option linter.unusedVariables false
set_option maxRecDepth 100000
theorem find_some {d : Dk} {n : B} {f : Fd} (h : (find d n).1 = some f) : find d n = (some f, 0) ∧ get d.l n = some f ∧ wrong d n = 0 := by
  unfold find at h ⊢
  by_cases hw : wrong d n ≠ 0
  · rw [if_pos hw] at h; cases h
  · rw [if_neg hw] at h ⊢
    cases hg : get d.l n with
    | none => rw [hg] at h; cases h
    | some g => rw [hg] at h; simp only at h ⊢; injection h with h; subst h; exact ⟨rfl, rfl, by simpa using hw⟩
theorem find_none {d : Dk} {n : B} (h : (find d n).1 = none) : ∃ e, find d n = (none, e) ∧ e ≠ 0 := by
  unfold find at h ⊢
  by_cases hw : wrong d n ≠ 0
  · rw [if_pos hw]; exact ⟨_, rfl, hw⟩
  · rw [if_neg hw] at h ⊢
    cases hg : get d.l n with
    | none => exact ⟨17, rfl, by simp⟩
    | some g => rw [hg] at h; cases h
theorem dat_of {l : List Fd} {n : B} {f : Fd} (h : get l n = some f) : dat l n = f.d := by unfold dat; rw [h]
def SynSays (b m n : Nat) (d : Dk) (s : ByteArray) (W : World) (e : Ending) (w' : World) : Prop := e = .returned (.int .i64 (sync d (tl s)).2) ∧ DkAt w' b m (n + 1) (sync d (tl s)).1 ∧ Kp (DkS b m) W w'
set_option maxHeartbeats 2000000 in
theorem psync_any (b m n : Nat) (d : Dk) (s : ByteArray) (W : World) (hD : DkAt W b m n d) (hs : s.size ≤ maxLen) (hn : n < maxLen) :
    Calls Tryz.prog 109 #[.pointer (some ⟨b, 0, none⟩), .string s] W (SynSays b m n d s W) := by
  have C := Lib.hid (pfind_any b m n d s W hD hs)
  rw [show ExpF d s W = fun e w' => e = .returned (.tuple #[valO (find d (tl s)).1, .int .i64 (find d (tl s)).2]) ∧ Below W.heap.size W w' from rfl] at C
  cases hf : (find d (tl s)).1 with
  | none =>
    obtain ⟨x, hx, hx0⟩ := find_none hf
    rw [hx, show valO (none, x).1 = .agg #[.string ⟨#[]⟩, .int .i64 0] from rfl] at C
    have E : Hid (∀ w', Below W.heap.size W w' → SynSays b m n d s W (.returned (.int .i64 x)) w') := Lib.hid fun w' hb => by
      unfold SynSays
      have : sync d (tl s) = (d, x) := by unfold sync; rw [hx]
      rw [this]
      exact ⟨rfl, (hD.below hb).more (Nat.le_succ n), Kp.of_below hb⟩
    clear hf hx hD
    generalize SynSays b m n d s W = Q at *
    go_enter Tryz.func109, Tryz.ntmps109
    go_wp2_with (go_at_call 184; (with_reducible refine (C.out).mono ?_); rintro e w1 ⟨rfl, hb1⟩)
    exact E.out _ (hb1.alloc hb1.size _)
  | some f =>
    obtain ⟨hx, hg, hw⟩ := find_some hf
    obtain ⟨hdd, hbb⟩ := wrong_bad hw
    rw [hx, show valO (some f, (0 : Int)).1 = valO (some f) from rfl] at C
    have hsz := hD.fine.room
    have hli := hD.fine.limit
    have hfl : f.d.length ≤ sz d.l := by have := dat_le d.l (tl s); rwa [dat_of hg] at this
    obtain ⟨o, ho⟩ : ∃ o : ByteArray, o = bs f.d := ⟨_, rfl⟩
    have hto : tl o = f.d := by rw [ho]; rfl
    have hol : o.size = f.d.length := by rw [← hto]; exact (Lg.tl_len o).symm
    obtain ⟨i, hi⟩ : ∃ i, i = f.firm := ⟨_, rfl⟩
    obtain ⟨v, hv⟩ : ∃ v, v = (act d).dead := ⟨_, rfl⟩
    have A : Hid (∀ w1, Below W.heap.size W w1 → Calls Tryz.prog 182 #[.pointer (some ⟨b, 0, none⟩)] w1 fun e w' => e = .returned (.int .i64 (if v = true then 40 else 0)) ∧ DkAt w' b m n (act d) ∧ Kp (DkS b m) w1 w') := Lib.hid fun w1 hb => by
      have := pact_any b m n d w1 (hD.below hb) hdd
      rw [show ActSays b m n d w1 = fun e w' => e = .returned (.int .i64 (if v = true then 40 else 0)) ∧ DkAt w' b m n (act d) ∧ Kp (DkS b m) w1 w' from by rw [hv]; rfl] at this
      exact this
    have hF : Fine (setD (act d) ⟨tl s, f.d, o.size⟩) := setD_fine (act_fine hD.fine) hbb (by show o.size ≤ f.d.length; omega) (by
      show sz (act d).l + f.d.length ≤ (act d).limit + (dat (act d).l (tl s)).length
      rw [(act_l d).1, (act_l d).2, dat_of hg]
      omega)
    have LY : Hid (∀ w1 w2, Below W.heap.size W w1 → Kp (DkS b m) w1 w2 → DkAt w2 b m n (act d) → v = false → Calls Tryz.prog 183 #[.pointer (some ⟨b, 0, none⟩), .string s, .agg #[.string o, .int .i64 (o.size : Int)]] w2 fun e w' => e = .returned (.tuple #[]) ∧ SynSays b m n d s W (.returned (.int .i64 0)) w') := Lib.hid fun w1 w2 hb hk h2 hvf => by
      rw [← hto] at hF
      refine (play_any b m n (act d) s o o.size w2 h2 hs (by omega) hn hF).mono ?_
      rintro e w' ⟨rfl, hd', hk'⟩
      refine ⟨rfl, ?_⟩
      have : sync d (tl s) = (setD (act d) ⟨tl s, tl o, o.size⟩, 0) := by
        unfold sync
        rw [hx]
        simp only
        rw [if_neg (by rw [← hv, hvf]; simp), hto, hol]
        unfold setD
        rw [(act_l d).1]
      unfold SynSays
      rw [this]
      exact ⟨rfl, hd', ((Kp.of_below hb).trans hk).trans hk'⟩
    have EN : Hid (∀ w1 w2, Below W.heap.size W w1 → Kp (DkS b m) w1 w2 → DkAt w2 b m n (act d) → v = true → SynSays b m n d s W (.returned (.int .i64 40)) w2) := Lib.hid fun w1 w2 hb hk h2 hvt => by
      have : sync d (tl s) = (act d, 40) := by
        unfold sync
        rw [hx]
        simp only
        rw [if_pos (by rw [← hv, hvt])]
      unfold SynSays
      rw [this]
      exact ⟨rfl, h2.more (Nat.le_succ n), (Kp.of_below hb).trans hk⟩
    rw [show valO (some f) = .agg #[.string o, .int .i64 (i : Int)] from by rw [ho, hi]; rfl] at C
    have hlb := Lg.lt_heap hD.st
    have hlm := hD.map.lt
    have CL : Hid (∀ w1 w2, Below W.heap.size W w1 → Kp (DkS b m) (w1.alloc (.cells #[.string o, .int .i64 (i : Int)] 291)) w2 → w2.cell? ⟨w1.heap.size, 0, none⟩ = some (.string o)) := Lib.hid fun w1 w2 hb hk => by
      have h1 : (w1.alloc (.cells #[.string o, .int .i64 (i : Int)] 291)).heap[w1.heap.size]? = some (.cells #[.string o, .int .i64 (i : Int)] 291 (0, 0)) := heap_alloc_new _ _
      have := hb.size
      exact (cell_heap ((hk.block _ (Lg.lt_heap h1) (fun e => by rcases e with e | e <;> omega)).trans h1) 0).trans rfl
    have hom : o.size ≤ 16777216 := by omega
    clear hf hx hg hw hdd hbb hD hsz hli hfl ho hto hol hi hv hF hlb hlm
    generalize SynSays b m n d s W = Q at *
    cases v
    all_goals
      go_enter Tryz.func109, Tryz.ntmps109
      go_upto_region 2 with (go_at_call 184; (with_reducible refine (C.out).mono ?_); rintro e w1 ⟨rfl, hb1⟩)
      obtain ⟨W3, e3⟩ : ∃ W3, W3 = w1.alloc (.cells #[.string o, .int .i64 (i : Int)] 291) := ⟨_, rfl⟩
      have hb3 : Below W.heap.size W W3 := by rw [e3]; exact hb1.alloc hb1.size _
      have CC := Lib.hid (fun w2 => CL.out w1 w2 hb1)
      rw [← e3]
      rw [← e3] at CC
      clear CL e3 C
      go_upto_region 5 with (go_at_call 182; (with_reducible refine (A.out _ hb3).mono ?_); rintro e w2 ⟨rfl, hd2, hk2⟩)
      have k0 := CC.out w2 hk2
      clear CC A
    · have LL := Lib.hid (LY.out W3 w2 hb3 hk2 hd2 trivial)
      clear LY EN
      go_wp2_with (go_at_call 183; (with_reducible refine (LL.out).mono ?_); rintro e w3 ⟨rfl, hQ⟩)
      exact hQ
    · have EE := Lib.hid (EN.out W3 w2 hb3 hk2 hd2 trivial)
      clear LY EN
      go_wp2_with (fail)
      exact EE.out
end Go.Proofs.YtifiipmmgnmciaaGreatDoor.Dk
/- DkRead, what a claim needs of it (prune.py). -/
namespace Go.Proofs.YtifiipmmgnmciaaGreatDoor.Dk
open Go.RowKit
open Fs (cell_lt B)
set_option linter.unusedVariables false
set_option maxRecDepth 100000
theorem pdead_any (b m n : Nat) (d : Dk) (W : World) (hD : DkAt W b m n d) :
    Calls Tryz.prog 149 #[.pointer (some ⟨b, 0, none⟩)] W fun e w' => e = .returned (.bool d.dead) ∧ W = w' := by
  have c4 : W.cell? ⟨b, 4, none⟩ = some (.bool d.dead) := (cell_heap hD.st 4).trans rfl
  clear hD
  go_enter Tryz.func149, Tryz.ntmps149
  go_wp2_with (fail)
  go_ret
  exact ⟨rfl, rfl⟩
theorem pread_any (b m n : Nat) (d : Dk) (s : ByteArray) (W : World) (hD : DkAt W b m n d) (hs : s.size ≤ maxLen) :
    Calls Tryz.prog 150 #[.pointer (some ⟨b, 0, none⟩), .string s] W fun e w' => e = .returned (.tuple #[.string (bs (read d (tl s)).1), .int .i64 (read d (tl s)).2]) ∧ Below W.heap.size W w' := by
  have C := Lib.hid (pfind_any b m n d s W hD hs)
  rw [show ExpF d s W = fun e w' => e = .returned (.tuple #[valO (find d (tl s)).1, .int .i64 (find d (tl s)).2]) ∧ Below W.heap.size W w' from rfl] at C
  obtain ⟨o, i, x, h1, h2, h3⟩ : ∃ (o : ByteArray) (i x : Int), valO (find d (tl s)).1 = .agg #[.string o, .int .i64 i] ∧ (find d (tl s)).2 = x ∧ read d (tl s) = (tl o, x) := by
    unfold read
    rcases find d (tl s) with ⟨f, e⟩
    cases f with
    | none => exact ⟨⟨#[]⟩, 0, e, rfl, rfl, rfl⟩
    | some f => exact ⟨bs f.d, f.firm, e, rfl, rfl, rfl⟩
  rw [h1, h2] at C
  rw [h3]
  have ho : Hid (bs (tl o) = o) := Lib.hid (Lg.tl_inj rfl)
  clear h1 h2 h3 hD
  go_enter Tryz.func150, Tryz.ntmps150
  go_wp2_with (go_at_call 184; (with_reducible refine (C.out).mono ?_); rintro e w1 ⟨rfl, hb1⟩)
  go_ret2
  refine ⟨?_, hb1.alloc hb1.size _⟩
  rw [ho.out]
  rfl
end Go.Proofs.YtifiipmmgnmciaaGreatDoor.Dk
/- DkNames, what a claim needs of it (prune.py). -/
namespace Go.Proofs.YtifiipmmgnmciaaGreatDoor.Dk
open Go.RowKit Go.Maps Go.Sort
open Fs (cell_lt B)
set_option linter.unusedVariables false
set_option maxRecDepth 100000
theorem rises_nodup {l : List Fd} (h : Rises l) : (l.map Fd.n).Nodup := by
  unfold List.Nodup
  rw [List.pairwise_map]
  exact h.imp (fun hlt e => by rw [e] at hlt; exact List.lt_irrefl _ hlt)
theorem names_sorted {l : List Fd} (h : Rises l) {ss : List B} (hp : ss.Perm (l.map Fd.n)) : ss.mergeSort (fun x y => decide (x ≤ y)) = l.map Fd.n := by
  have tr : ∀ a b c : List UInt8, decide (a ≤ b) = true → decide (b ≤ c) = true → decide (a ≤ c) = true := fun a b c h1 h2 => by simp only [decide_eq_true_eq] at *; exact List.le_trans h1 h2
  have tt : ∀ a b : List UInt8, (decide (a ≤ b) || decide (b ≤ a)) = true := fun a b => by simp only [Bool.or_eq_true, decide_eq_true_eq]; exact List.le_total a b
  refine List.Perm.eq_of_pairwise (le := fun a b => decide (a ≤ b) = true) (fun a b _ _ h1 h2 => ?_) (List.pairwise_mergeSort tr tt ss) ?_ ((List.mergeSort_perm ss _).trans hp)
  · simp only [decide_eq_true_eq] at h1 h2
    exact List.le_antisymm h1 h2
  · rw [List.pairwise_map]
    exact h.imp (fun hlt => by simp only [decide_eq_true_eq]; exact List.le_of_lt hlt)
theorem mem_names {l : List Fd} {n : B} : n ∈ l.map Fd.n ↔ (get l n).isSome = true := by
  unfold get
  rw [List.find?_isSome, List.mem_map]
  constructor
  · rintro ⟨f, hf, rfl⟩; exact ⟨f, hf, by simp⟩
  · rintro ⟨f, hf, h⟩; exact ⟨f, hf, by simpa using h⟩
theorem keys_perm' {W : World} {b m n : Nat} {d : Dk} (h : DkAt W b m n d) : ∃ D : DataW Value, W.ownsMap Tryz.prog 9 Mv.rv m n D ∧ Maps.size D ≤ n ∧ (d.l.map Fd.n).Perm (strKeys D) := by
  obtain ⟨D, hown, hs⟩ := h.map
  have hown' := hown
  obtain ⟨es, rfl, hpw⟩ := hown.tidy Mv.kstr
  obtain ⟨es', cl, h1, F, h3, hD⟩ := hown'
  injection hD with hD
  have hko : ∀ p ∈ es, ∃ x, p.1 = .string x := by
    intro p hp
    rw [hD] at hp
    obtain ⟨v, hv⟩ := (keys_perm (WideShapes.sorted_perm _).symm (fit_keys F)) p hp
    obtain ⟨x, _, hx, _⟩ := Maps.keyOf_str Tryz.underlying9 hv
    exact ⟨x, hx⟩
  refine ⟨_, hown, hown.size_le, perm_strKeys hpw hko (rises_nodup h.fine.rises) fun x => ?_⟩
  · rw [mem_names]
    have := (hs ⟨x.toArray⟩).1
    simp only at this
    rw [this]
    show _ ↔ ((get d.l x).map valF).isSome = true
    rw [Option.isSome_map]
theorem pnames_any (b m n : Nat) (d : Dk) (W : World) (hD : DkAt W b m n d) (hn : n ≤ 1000000) :
    Calls Tryz.prog 152 #[.pointer (some ⟨b, 0, none⟩)] W fun e w' => ∃ v, e = .returned v ∧ w'.ownsRow W.heap.size 9 1 v (names d).length ((names d).map encStr) ∧ Below W.heap.size W w' := by
  obtain ⟨D, hown, hsz, hperm⟩ := keys_perm' hD
  have c1 : W.cell? ⟨b, 1, none⟩ = some (.map (some m)) := (cell_heap hD.st 1).trans rfl
  have hbl := hown.lt
  have hmax : Maps.size D ≤ maxLen := by unfold maxLen; omega
  have hbytes : Maps.size D * 16 ≤ 140737488355328 := by omega
  have hseq : SeqGives Fence.wide 2 Tryz.prog 270 #[.pointer (some ⟨W.heap.size, 0, none⟩)] encStr (fun ss => ss.Perm (strKeys D)) (Maps.size D) (W.alloc (.cells #[.map (some m)] 112)) :=
    AnyZ.keys_gives (ρ := Tryz.l212_ren) { Tryz.l212 with } Fence.wide _ trivial rfl (by omega) W.heap.size m n D _ (by simp) (by simp) (by
      obtain ⟨es, clock, hb, Ft, hs, hD⟩ := hown
      exact ⟨es, clock, (Below.heap_alloc _ _ m hbl).trans hb, Ft, hs, hD⟩)
  have hsorts : AnyZ.SortsIn Tryz.prog Tryz.l190_ren Fence.wide (5 - 1) :=
    ⟨fun blk off cap ss W hH hblk hsz => callsIn_wide.2 (Any.slices_Sort_string Tryz.l245 blk off cap ss W hH hblk hsz),
     fun p cap W => callsIn_wide.2 (Any.slices_Sort_string_none Tryz.l245 p cap W)⟩
  have cK : Hid (∀ mb W, Calls Tryz.prog 212 #[.map mb] W fun e w' => e = .returned (.func (.func 270) #[] #[.pointer (some ⟨W.heap.size, 0, none⟩)]) ∧ w' = W.alloc (.cells #[.map mb] 112)) := Lib.hid fun mb W => callsIn_wide.1 (AnyZ.keys_in Tryz.l212 Fence.wide 5 trivial rfl mb W)
  have cS0 := callsIn_wide.1 (AnyZ.sorted_in Tryz.l190 Fence.wide 5 trivial trivial trivial trivial rfl (by omega) hsorts (enters_of Tryz.func245 (by kernel_rfl) rfl) 270 #[.pointer (some ⟨W.heap.size, 0, none⟩)] trivial (enters_of Tryz.func270 (by kernel_rfl) rfl) _ _ hmax hbytes _ hseq)
  have B1 : Below W.heap.size W (W.alloc (.cells #[.map (some m)] 112)) := (Below.refl _ _).alloc (Nat.le_refl _) _
  have cS : Hid (Calls Tryz.prog 190 #[.func (.func 270) #[] #[.pointer (some ⟨W.heap.size, 0, none⟩)]] (W.alloc (.cells #[.map (some m)] 112)) fun e w' => ∃ v, e = .returned v ∧ w'.ownsRow W.heap.size 9 1 v (names d).length ((names d).map encStr) ∧ Below W.heap.size W w') := Lib.hid (cS0.mono (by
    rintro e w' ⟨v, ss, rfl, hS, hrow, _, hb⟩
    have hp := hS.trans hperm.symm
    rw [names_sorted hD.fine.rises hp, hp.length_eq] at hrow
    exact ⟨v, rfl, ownsRow_base_a hrow (by simp), B1.trans (hb.mono (by simp))⟩))
  clear hD hown hperm hsz hmax hbytes hseq hsorts cS0 B1 hbl
  go_enter Tryz.func152, Tryz.ntmps152
  go_wp2_with (first
    | (go_at_call 212; (with_reducible refine (cK.out _ _).mono ?_); rintro e w' ⟨rfl, rfl⟩)
    | (go_at_call 190; (with_reducible refine (cS.out).mono ?_); rintro e w' ⟨v, rfl, hrow, hb⟩))
  go_ret
  exact ⟨v, rfl, hrow, hb⟩
end Go.Proofs.YtifiipmmgnmciaaGreatDoor.Dk
