/- The contract of the package tree Decode. -/
import Derived.Test.YtglenhlhkgjnbaaGreatDoorFsEnc
import Derived.Test.YtglenhlhkgjnbaaGreatDoorFsDir
import Derived.Test.YtglenhlhkgjnbaaGreatDoorRrText
import Derived.Test.YtglenhlhkgjnbaaGreatDoorKm
import Derived.Test.YtglenhlhkgjnbaaGreatDoorFsRefD
namespace Go.Proofs.YtglenhlhkgjnbaaGreatDoor.Fs
open Go.RowKit
set_option linter.unusedVariables false
set_option maxRecDepth 100000
/-- what Decode answers -/
def DecSays (data : B) (w : World) (e : Ending) (w' : World) : Prop := (∃ A c, e = .returned (.tuple #[.slice A (decode data).1.length c, .int .i64 (decode data).2]) ∧ Ens w' A (decode data).1) ∧ Below w.heap.size w w'
theorem DecSays.no {data : B} {w w' : World} (h : decode data = ([], 11)) (hb : Below w.heap.size w w') : DecSays data w (.returned (.tuple #[.slice none 0 0, .int .i64 11])) w' := by
  unfold DecSays
  rw [h]
  exact ⟨⟨none, 0, rfl, Reads.none_⟩, hb⟩
theorem DecSays.yes {data : B} {m : List En} {w w' : World} {v : Value} {B0 : Nat} (h : decode data = (m, 0)) (ho : w'.ownsRow B0 33 3 v m.length (ec m)) (hb : Below w.heap.size w w') : DecSays data w (.returned (.tuple #[v, .int .i64 0])) w' := by
  unfold DecSays
  rw [h]
  obtain ⟨A, n, c, rfl⟩ := own_form ho
  have hn : n = m.length := by
    rcases ho.2 with ⟨h1, h2⟩ | ⟨g, cap, cur, h1, _⟩
    · injection h1; omega
    · injection h1
  subst hn
  exact ⟨⟨A, c, rfl, Reads.of_own ho⟩, hb⟩
theorem lit_eq {k : B} {c : UInt8} (h : k = [c]) : (bs k).toList = [c] := by rw [Lib.toList_data]; exact h
theorem lit_ne {k : B} {c : UInt8} (h : k ≠ [c]) : ¬ (bs k).toList = [c] := by rw [Lib.toList_data]; exact h
/-- the readings behind a list of three -/
theorem row3 {w : World} {B0 : Nat} {v : Value} {l : List B} (ho : w.ownsRow B0 9 1 v l.length (l.map fun t => Value.string (bs t))) (hl : l.length = 3) :
    ∃ n k d, l = [n, k, d] ∧ ∃ g c, v = .slice (some ⟨g, 0, none⟩) 3 c ∧ B0 ≤ g ∧ g < w.heap.size ∧ w.cell? ⟨g, 0, none⟩ = some (.string (bs n)) ∧ w.cell? ⟨g, 1, none⟩ = some (.string (bs k)) ∧ w.cell? ⟨g, 2, none⟩ = some (.string (bs d)) := by
  match l, hl with
  | [n, k, d], _ =>
    refine ⟨n, k, d, rfl, ?_⟩
    rcases ho.2 with ⟨h1, h2⟩ | ⟨g, cap, cur, rfl, hB, hg, h1, h2, h3, h4⟩
    · cases h2
    · have hc := ho.cells (g := g) rfl
      refine ⟨g, cap, rfl, hB, Lg.lt_heap hg, ?_, ?_, ?_⟩
      · have := hc 0 (.string (bs n)) rfl
        rwa [Lg.add_eq] at this
      · have := hc 1 (.string (bs k)) rfl
        rwa [Lg.add_eq] at this
      · have := hc 2 (.string (bs d)) rfl
        rwa [Lg.add_eq] at this
/-- the loop of Decode -/
def DecTo (data : B) (cur : Pk.Rd) (pre : List En) : Prop := dec ⟨data, 0⟩ = (dec cur).map fun p => (pre ++ p.1, p.2)
theorem DecTo.start (data : B) : DecTo data ⟨data, 0⟩ [] := by unfold DecTo; cases dec ⟨data, 0⟩ <;> rfl
theorem DecTo.next {data : B} {cur : Pk.Rd} {pre : List En} {x : En} (h : DecTo data cur pre) (h0 : left cur ≠ 0) (h1 : entOf cur.list.1 = some x) : DecTo data cur.list.2 (pre ++ [x]) := by
  unfold DecTo at h ⊢
  rw [h, dec_more h0 h1]
  cases dec cur.list.2 <;> simp
theorem DecTo.bad {data : B} {cur : Pk.Rd} {pre : List En} (h : DecTo data cur pre) (h0 : left cur ≠ 0) (h1 : entOf cur.list.1 = none) : decode data = ([], 11) := by
  unfold DecTo at h
  rw [dec_bad h0 h1] at h
  exact decode_none h
theorem DecTo.done {data : B} {cur : Pk.Rd} {pre : List En} (h : DecTo data cur pre) (h0 : left cur = 0) : dec ⟨data, 0⟩ = some (pre, cur) := by
  unfold DecTo at h
  rw [h, dec_end h0]; simp
/-- a reader's rest in memory -/
def restOf (w : World) (X : Nat) : Nat := match w.cell? ⟨X, 0, none⟩ with
  | some (.string s) => s.size
  | _ => 0
theorem pleft_any (b : Nat) (r : Pk.Rd) (w : World) (h : RdAt w b r) :
    Calls Tryz.prog 56 #[.pointer (some ⟨b, 0, none⟩)] w fun e w' => e = .returned (.int .i64 (left r)) ∧ w = w' := by
  obtain ⟨l, bad⟩ := r
  have c0 : w.cell? ⟨b, 0, none⟩ = some (.string (bs l)) := (cell_heap h 0).trans rfl
  have c1 : w.cell? ⟨b, 1, none⟩ = some (.int .i64 bad) := (cell_heap h 1).trans rfl
  clear h
  by_cases hb : bad = 0
  · subst hb
    have HV : Hid (left ⟨l, 0⟩ = (bs l).size) := Lib.hid (by rw [bs_len]; rfl)
    go_enter Tryz.func56, Tryz.ntmps56
    go_wp2_with (fail)
    go_ret
    exact ⟨ret_val (by rw [HV.out]; rfl), rfl⟩
  · have HV : Hid (left ⟨l, bad⟩ = 0) := Lib.hid (by unfold left; rw [if_neg hb])
    have n1 : ((bad : Int) != 0) = true := by simp; omega
    clear hb
    go_enter Tryz.func56, Tryz.ntmps56
    go_wp2_with (fail)
    go_ret
    exact ⟨ret_val (by rw [HV.out]; rfl), rfl⟩
set_option maxHeartbeats 8000000 in
theorem pdecode_any (data : B) (hl : data.length ≤ 10000000) (w : World) (hE : Env w) :
    Calls Tryz.prog 23 #[.string (bs data)] w (DecSays data w) := by
  have EV := Lib.hid (fun W (h : Below w.heap.size w W) => hE.below h)
  obtain ⟨z, hzi, hzs⟩ := infoE
  obtain ⟨i0, hi, hz0, hz1, hz2⟩ := Lg.info_parts hzi
  have NO : Hid (decode data = ([], 11) → ∀ W, Below w.heap.size w W → DecSays data w (.returned (.tuple #[.slice none 0 0, .int .i64 11])) W) := Lib.hid fun h W hW => DecSays.no h hW
  have YES : Hid (∀ m v W, decode data = (m, 0) → W.ownsRow (w.heap.size + 1) 33 3 v m.length (ec m) → Below w.heap.size w W → DecSays data w (.returned (.tuple #[v, .int .i64 0])) W) := Lib.hid fun m v W h ho hW => DecSays.yes h ho hW
  have RIGHT : Hid (∀ (m : List En) A c W, Below w.heap.size w W → Ens W A m → (∀ x ∈ m, x.n.length ≤ 1000000000 ∧ x.g.length ≤ 1000000000) → m.length ≤ 1000000000 → Calls Tryz.prog 52 #[.slice A m.length c] W fun e w' => e = .returned (.bool (rightB m)) ∧ Below W.heap.size W w') := Lib.hid fun m A c W hW hr hz hl => pright_any A m c W (EV.out _ hW) hr hz hl
  have DS := Lib.hid (DecTo.start data)
  clear hE hzi
  generalize hQ : DecSays data w = Q at *
  clear hQ
  have RD := Lib.hid (read_any data)
  go_enter Tryz.func23, Tryz.ntmps23
  go_wp2_with (go_at_call 55; ((with_reducible refine (RD.out _).mono ?_); rintro e w1 ⟨rfl, hr1, hb1⟩))
  go_loopw [5] (fun v W => ∃ (pre : List En) (cur : Pk.Rd), W.ownsRow (w.heap.size + 1) 33 3 v pre.length (ec pre) ∧ RdAt W w.heap.size cur ∧ DecTo data cur pre ∧ cur.rest.length + pre.length ≤ data.length ∧ Below w.heap.size w W) (fun _ W => restOf W w.heap.size)
  case atStart => exact ⟨[], ⟨data, 0⟩, World.ownsRow_nil _ _ _ _, hr1, DS.out, by simp, hb1⟩
  case round =>
    obtain ⟨pre, cur, hown, hrd, hdt, hcl, hb⟩ := hrel
    clear hr1 hb1
    have HO := Lib.hid hown
    have HR := Lib.hid hrd
    have HD := Lib.hid hdt
    have hs0 := hb.size
    have hbl : w.heap.size < wr.heap.size := Lg.lt_heap hrd
    have LF := Lib.hid (pleft_any w.heap.size cur wr hrd)
    have MW : Hid (restOf wr w.heap.size = cur.rest.length) := Lib.hid (by
      have : wr.cell? ⟨w.heap.size, 0, none⟩ = some (.string (bs cur.rest)) := (cell_heap hrd 0).trans rfl
      unfold restOf
      rw [this]
      exact bs_len _)
    clear hown hdt
    by_cases h0 : left cur = 0
    · rw [h0] at LF
      have D0 := HD.out.done h0
      have EN := Lib.hid (rend_any w.heap.size cur wr hrd)
      obtain ⟨A, pn, pc, rfl⟩ := own_form HO.out
      have hpn : pn = pre.length := by
        rcases HO.out.2 with ⟨h1, h2⟩ | ⟨g, cap, gur, h1, _⟩
        · injection h1; omega
        · injection h1
      subst hpn
      clear hrd MW
      by_cases hf : cur.fin = 0
      · have n1 : ((cur.fin : Int) != 0) = false := by simp; omega
        have hbk := dec_back D0 hf
        have RI := Lib.hid (RIGHT.out pre A pc wr hb (Reads.of_own HO.out) (fun x hx => by have := parts_le hx; rw [hbk] at this; omega) (by omega))
        have HB := Lib.hid hb
        cases hrt : rightB pre with
        | true =>
          have F := Lib.hid (decode_good D0 hf hrt)
          rw [hrt] at RI
          clear hrt hf D0 hbk
          go_wp2_with (first
            | (go_at_call 56; (with_reducible refine (LF.out).mono ?_); rintro e w2 ⟨rfl, rfl⟩)
            | (go_at_call 58; (with_reducible refine (EN.out).mono ?_); rintro e w2 ⟨rfl, rfl⟩)
            | (go_at_call 52; (with_reducible refine (RI.out).mono ?_); rintro e w3 ⟨rfl, hb3⟩))
          exact YES.out _ _ _ F.out (own_later HO.out hb3) (HB.out.trans (hb3.mono HB.out.size))
        | false =>
          have F := Lib.hid (NO.out (decode_bad D0 (.inr hrt)))
          rw [hrt] at RI
          clear hrt hf D0 hbk
          go_wp2_with (first
            | (go_at_call 56; (with_reducible refine (LF.out).mono ?_); rintro e w2 ⟨rfl, rfl⟩)
            | (go_at_call 58; (with_reducible refine (EN.out).mono ?_); rintro e w2 ⟨rfl, rfl⟩)
            | (go_at_call 52; (with_reducible refine (RI.out).mono ?_); rintro e w3 ⟨rfl, hb3⟩))
          exact F.out _ (HB.out.trans (hb3.mono HB.out.size))
      · have n1 : ((cur.fin : Int) != 0) = true := by simp; omega
        have F := Lib.hid (NO.out (decode_bad D0 (.inl hf)))
        clear hf D0
        go_wp2_with (first
          | (go_at_call 56; (with_reducible refine (LF.out).mono ?_); rintro e w2 ⟨rfl, rfl⟩)
          | (go_at_call 58; (with_reducible refine (EN.out).mono ?_); rintro e w2 ⟨rfl, rfl⟩))
        exact F.out _ hb
    · have hl0 : (0 : Int) < (left cur : Int) := by omega
      have hl1 : 0 < left cur := by omega
      have LS := rlist_any w.heap.size cur (by omega) wr hrd
      have BAD := Lib.hid (fun h => NO.out (HD.out.bad h0 h))
      have NXT := Lib.hid (fun x h => HD.out.next (x := x) h0 h)
      have LESS := Lib.hid (fun x h => list_less (r := cur) (x := x) h)
      have HB := Lib.hid hb
      clear hrd NO h0 HD
      go_wp2_with (go_at_call 56; (with_reducible refine (LF.out).mono ?_); rintro e w2 ⟨rfl, rfl⟩)
      refine LS.mono ?_
      rintro e w1 ⟨v, rfl, hown1, hrd1, hg1⟩
      have hs1 := hg1.size
      have b1 : Below w.heap.size w w1 := HB.out.grown hg1 hs0 (fun g hg => by cases hg; exact Nat.le_refl _)
      have HO1 := Lib.hid (own_grown2 HO.out hg1 (Nat.lt_succ_self _))
      have HR1 := Lib.hid hrd1
      clear LS LF hg1 hrd1
      generalize cur.list.2 = nx at *
      generalize hts : cur.list.1 = ts at *
      clear hts
      by_cases h3 : ts.length = 3
      · obtain ⟨n, kk, d, rfl, g, c, rfl, hgB, hgl, c0, c1, c2⟩ := row3 hown1 h3
        have hgw : w.heap.size < g := by omega
        rw [entOf_three] at BAD NXT LESS
        clear hown1 h3
        by_cases k1 : kk = [100]
        · rw [if_pos k1] at NXT LESS
          have N1 := Lib.hid (NXT.out _ rfl)
          have L1 := LESS.out _ rfl
          have e1 := lit_eq k1
          have e2 : ((bs kk).toList == [100]) = true := by rw [e1]; rfl
          have e3 : ((bs kk).toList != [100]) = false := by rw [e1]; rfl
          clear BAD NXT LESS k1
          go_wp2_with (fail)
          have d0 : ∀ W, Below w1.heap.size w1 W → W.cell? ⟨g, 0, none⟩ = some (.string (bs n)) := fun W hW => (hW.cell (p := ⟨g, 0, none⟩) hgl).trans c0
          have d1 : ∀ W, Below w1.heap.size w1 W → W.cell? ⟨g, 1, none⟩ = some (.string (bs kk)) := fun W hW => (hW.cell (p := ⟨g, 1, none⟩) hgl).trans c1
          have d2 : ∀ W, Below w1.heap.size w1 W → W.cell? ⟨g, 2, none⟩ = some (.string (bs d)) := fun W hW => (hW.cell (p := ⟨g, 2, none⟩) hgl).trans c2
          refine wp_region_mix (C := fun w' => Below w1.heap.size w1 w') 12 (by kernel_rfl) (by kernel_rfl) (fun _ _ d _ _ h => by cases d <;> exact h) (Below.refl _ _).drew ?_
          simp only [List.take_succ_cons, List.take_zero, List.drop_succ_cons, List.drop_zero]
          repeat (quiet_step (first | (intro _; rfl) | (intro hss; (first | rw [d0 _ hss] | rw [d1 _ hss] | rw [d2 _ hss]); exact ⟨rfl, rfl⟩)))
          refine wpQuiet_nil ?_
          intro w5 hb5
          have hs5 := hb5.size
          clear d0 d1 d2
          go_wp2_with (at_builtin; refine wpList_append_any _ rfl (.tmp 29) (.tmp 41) _ rfl (w.heap.size + 1) 33 i0 _ 3 40 Tryz.underlying26 hi hz0 hz1 hz2 hzs (by omega) _ pre.length _ rfl (own_later HO1.out (hb5.alloc hs5 _)) _ (some ⟨w5.heap.size, 0, none⟩) 1 1 [.string (bs n), .bool true, .string (bs d)] rfl (reads3_new _ _ _ _ _ _ rfl) (ec_cell [⟨n, true, d⟩]) (by simp only [maxLen]; omega) (by omega) (by simp; omega) ?_; intro v' w6 hown6 hg6 hat6)
          have b5 : Below w1.heap.size w1 (w5.alloc (.cells #[.string (bs n), .bool true, .string (bs d)] 33)) := hb5.alloc hs5 _
          have b6 : Below w.heap.size w w6 := Below.grown (b1.trans (b5.mono b1.size)) hg6 (by simp; omega) (fun g hg => by have := (HO1.out.lt g hg).1; omega)
          have HR6 : RdAt w6 w.heap.size nx := (hg6.block _ (by simp; omega) (fun e => by have := (HO1.out.lt _ e.symm).1; omega)).trans (heap_below b5 (by omega) HR1.out)
          go_roundw
          case rel => exact ⟨pre ++ [⟨n, true, d⟩], nx, by rw [ec_append, List.length_append]; exact hown6, HR6, N1.out, by rw [List.length_append, List.length_singleton]; omega, b6⟩
          case measure =>
            have : w6.cell? ⟨w.heap.size, 0, none⟩ = some (.string (bs nx.rest)) := (cell_heap HR6 0).trans rfl
            rw [MW.out]
            unfold restOf
            rw [this]
            show (bs nx.rest).size < _
            rw [bs_len]; omega
        · by_cases k2 : kk = [102]
          · rw [if_neg k1, if_pos k2] at NXT LESS
            have N1 := Lib.hid (NXT.out _ rfl)
            have L1 := LESS.out _ rfl
            have e1 := lit_eq k2
            have e2 : ((bs kk).toList == [100]) = false := by rw [e1]; rfl
            have e3 : ((bs kk).toList != [100]) = true := by rw [e1]; rfl
            have e4 : ((bs kk).toList == [102]) = true := by rw [e1]; rfl
            have e5 : ((bs kk).toList != [102]) = false := by rw [e1]; rfl
            have e6 := lit_ne k1
            clear BAD NXT LESS k1 k2
            go_wp2_with (fail)
            have d0 : ∀ W, Below w1.heap.size w1 W → W.cell? ⟨g, 0, none⟩ = some (.string (bs n)) := fun W hW => (hW.cell (p := ⟨g, 0, none⟩) hgl).trans c0
            have d1 : ∀ W, Below w1.heap.size w1 W → W.cell? ⟨g, 1, none⟩ = some (.string (bs kk)) := fun W hW => (hW.cell (p := ⟨g, 1, none⟩) hgl).trans c1
            have d2 : ∀ W, Below w1.heap.size w1 W → W.cell? ⟨g, 2, none⟩ = some (.string (bs d)) := fun W hW => (hW.cell (p := ⟨g, 2, none⟩) hgl).trans c2
            refine wp_region_mix (C := fun w' => Below w1.heap.size w1 w') 12 (by kernel_rfl) (by kernel_rfl) (fun _ _ d _ _ h => by cases d <;> exact h) (Below.refl _ _).drew ?_
            simp only [List.take_succ_cons, List.take_zero, List.drop_succ_cons, List.drop_zero]
            repeat (quiet_step (first | (intro _; rfl) | (intro hss; (first | rw [d0 _ hss] | rw [d1 _ hss] | rw [d2 _ hss]); exact ⟨rfl, rfl⟩)))
            refine wpQuiet_nil ?_
            intro w5 hb5
            have hs5 := hb5.size
            clear d0 d1 d2
            go_wp2_with (at_builtin; refine wpList_append_any _ rfl (.tmp 29) (.tmp 41) _ rfl (w.heap.size + 1) 33 i0 _ 3 40 Tryz.underlying26 hi hz0 hz1 hz2 hzs (by omega) _ pre.length _ rfl (own_later HO1.out (hb5.alloc hs5 _)) _ (some ⟨w5.heap.size, 0, none⟩) 1 1 [.string (bs n), .bool false, .string (bs d)] rfl (reads3_new _ _ _ _ _ _ rfl) (ec_cell [⟨n, false, d⟩]) (by simp only [maxLen]; omega) (by omega) (by simp; omega) ?_; intro v' w6 hown6 hg6 hat6)
            have b5 : Below w1.heap.size w1 (w5.alloc (.cells #[.string (bs n), .bool false, .string (bs d)] 33)) := hb5.alloc hs5 _
            have b6 : Below w.heap.size w w6 := Below.grown (b1.trans (b5.mono b1.size)) hg6 (by simp; omega) (fun g hg => by have := (HO1.out.lt g hg).1; omega)
            have HR6 : RdAt w6 w.heap.size nx := (hg6.block _ (by simp; omega) (fun e => by have := (HO1.out.lt _ e.symm).1; omega)).trans (heap_below b5 (by omega) HR1.out)
            go_roundw
            case rel => exact ⟨pre ++ [⟨n, false, d⟩], nx, by rw [ec_append, List.length_append]; exact hown6, HR6, N1.out, by rw [List.length_append, List.length_singleton]; omega, b6⟩
            case measure =>
              have : w6.cell? ⟨w.heap.size, 0, none⟩ = some (.string (bs nx.rest)) := (cell_heap HR6 0).trans rfl
              rw [MW.out]
              unfold restOf
              rw [this]
              show (bs nx.rest).size < _
              rw [bs_len]; omega
          · rw [if_neg k1, if_neg k2] at BAD
            have F := Lib.hid (BAD.out rfl)
            have e2 : ((bs kk).toList == [100]) = false := beq_eq_false_iff_ne.2 (lit_ne k1)
            have e4 : ((bs kk).toList == [102]) = false := beq_eq_false_iff_ne.2 (lit_ne k2)
            have e6 := lit_ne k1
            have e7 := lit_ne k2
            clear BAD NXT LESS k1 k2
            go_wp2_with (fail)
            exact F.out _ b1
      · have F := Lib.hid (BAD.out (entOf_none h3))
        obtain ⟨A, m, c, rfl⟩ := own_form hown1
        have hm : m = ts.length := by
          rcases hown1.2 with ⟨h1, h2⟩ | ⟨g, cap, gur, h1, _⟩
          · injection h1; omega
          · injection h1
        subst hm
        have n1 : ((ts.length : Int) != 3) = true := by simp; omega
        have n2 : ¬ ts.length = 3 := h3
        clear BAD NXT LESS hown1 h3
        go_wp2_with (fail)
        exact F.out _ b1
end Go.Proofs.YtglenhlhkgjnbaaGreatDoor.Fs
/- The contract of the reference Decode. -/
namespace Go.Proofs.YtglenhlhkgjnbaaGreatDoor.Fs
open Go.RowKit
set_option linter.unusedVariables false
set_option maxRecDepth 100000
theorem rleft_any (b : Nat) (r : Pk.Rd) (w : World) (h : RqAt w b r) :
    Calls Tryz.prog 59 #[.pointer (some ⟨b, 0, none⟩)] w fun e w' => e = .returned (.int .i64 (left r)) ∧ w = w' := by
  obtain ⟨l, bad⟩ := r
  have c0 : w.cell? ⟨b, 0, none⟩ = some (.string (bs l)) := (cell_heap h 0).trans rfl
  have c1 : w.cell? ⟨b, 1, none⟩ = some (.int .i64 bad) := (cell_heap h 1).trans rfl
  clear h
  by_cases hb : bad = 0
  · subst hb
    have HV : Hid (left ⟨l, 0⟩ = (bs l).size) := Lib.hid (by rw [bs_len]; rfl)
    go_enter Tryz.func59, Tryz.ntmps59
    go_wp2_with (fail)
    go_ret
    exact ⟨ret_val (by rw [HV.out]; rfl), rfl⟩
  · have HV : Hid (left ⟨l, bad⟩ = 0) := Lib.hid (by unfold left; rw [if_neg hb])
    have n1 : ((bad : Int) != 0) = true := by simp; omega
    clear hb
    go_enter Tryz.func59, Tryz.ntmps59
    go_wp2_with (fail)
    go_ret
    exact ⟨ret_val (by rw [HV.out]; rfl), rfl⟩
set_option maxHeartbeats 8000000 in
theorem rdecode_any (data : B) (hl : data.length ≤ 10000000) (w : World) :
    Calls Tryz.prog 24 #[.string (bs data)] w (DecSays data w) := by
  obtain ⟨z, hzi, hzs⟩ := infoE
  obtain ⟨i0, hi, hz0, hz1, hz2⟩ := Lg.info_parts hzi
  have NO : Hid (decode data = ([], 11) → ∀ W, Below w.heap.size w W → DecSays data w (.returned (.tuple #[.slice none 0 0, .int .i64 11])) W) := Lib.hid fun h W hW => DecSays.no h hW
  have YES : Hid (∀ m v W, decode data = (m, 0) → W.ownsRow (w.heap.size + 1) 33 3 v m.length (ec m) → Below w.heap.size w W → DecSays data w (.returned (.tuple #[v, .int .i64 0])) W) := Lib.hid fun m v W h ho hW => DecSays.yes h ho hW
  have RIGHT : Hid (∀ (m : List En) A c W, Below w.heap.size w W → Ens W A m → (∀ x ∈ m, x.n.length ≤ 1000000000 ∧ x.g.length ≤ 1000000000) → m.length ≤ 1000000000 → Calls Tryz.prog 53 #[.slice A m.length c] W fun e w' => e = .returned (.bool (rightB m)) ∧ Below W.heap.size W w') := Lib.hid fun m A c W hW hr hz hl => rright_any A m c W hr hz hl
  have BY : Hid (∀ (m : List En) A c W, (bytesE m).length ≤ 100000000 → Ens W A m → Calls Tryz.prog 54 #[.slice A m.length c] W fun e w' => e = .returned (.string (bs (bytesE m))) ∧ Below W.heap.size W w') := Lib.hid fun m A c W hl hr => rbytes_any A m c W hr hl
  have DS := Lib.hid (DecTo.start data)
  clear hzi
  generalize hQ : DecSays data w = Q at *
  clear hQ
  go_enter Tryz.func24, Tryz.ntmps24
  go_wp2_with (fail)
  have hr1 : RqAt (w.alloc (.cells #[.string (bs data), .int .i64 0] 80)) w.heap.size ⟨data, 0⟩ := heap_alloc_new w _
  have hb1 : Below w.heap.size w (w.alloc (.cells #[.string (bs data), .int .i64 0] 80)) := (Below.refl _ _).alloc (Nat.le_refl _) _
  go_loopw [5] (fun v W => ∃ (pre : List En) (cur : Pk.Rd), W.ownsRow (w.heap.size + 1) 33 3 v pre.length (ec pre) ∧ RqAt W w.heap.size cur ∧ DecTo data cur pre ∧ cur.rest.length + pre.length ≤ data.length ∧ Below w.heap.size w W) (fun _ W => restOf W w.heap.size)
  case atStart => exact ⟨[], ⟨data, 0⟩, World.ownsRow_nil _ _ _ _, hr1, DS.out, by simp, hb1⟩
  case round =>
    obtain ⟨pre, cur, hown, hrd, hdt, hcl, hb⟩ := hrel
    clear hr1 hb1
    have HO := Lib.hid hown
    have HR := Lib.hid hrd
    have HD := Lib.hid hdt
    have hs0 := hb.size
    have hbl : w.heap.size < wr.heap.size := Lg.lt_heap hrd
    have LF := Lib.hid (rleft_any w.heap.size cur wr hrd)
    have MW : Hid (restOf wr w.heap.size = cur.rest.length) := Lib.hid (by
      have : wr.cell? ⟨w.heap.size, 0, none⟩ = some (.string (bs cur.rest)) := (cell_heap hrd 0).trans rfl
      unfold restOf
      rw [this]
      exact bs_len _)
    clear hown hdt
    by_cases h0 : left cur = 0
    · rw [h0] at LF
      have D0 := HD.out.done h0
      have EN := Lib.hid (rrend_any w.heap.size cur wr hrd)
      obtain ⟨A, pn, pc, rfl⟩ := own_form HO.out
      have hpn : pn = pre.length := by
        rcases HO.out.2 with ⟨h1, h2⟩ | ⟨g, cap, gur, h1, _⟩
        · injection h1; omega
        · injection h1
      subst hpn
      clear hrd MW
      by_cases hf : cur.fin = 0
      · have n1 : ((cur.fin : Int) != 0) = false := by simp; omega
        have hbk := dec_back D0 hf
        have RI := Lib.hid (RIGHT.out pre A pc wr hb (Reads.of_own HO.out) (fun x hx => by have := parts_le hx; rw [hbk] at this; omega) (by omega))
        have HB := Lib.hid hb
        cases hrt : rightB pre with
        | true =>
          have F := Lib.hid (decode_good D0 hf hrt)
          rw [hrt] at RI
          have HL : Hid ((bytesE pre).length ≤ 100000000) := Lib.hid (by rw [hbk]; omega)
          have HBK := Lib.hid hbk
          have e1 : ((bs data).toList != (bs data).toList) = false := by simp
          clear hrt hf D0 hbk
          go_wp2_with (first
            | (go_at_call 59; (with_reducible refine (LF.out).mono ?_); rintro e w2 ⟨rfl, rfl⟩)
            | (go_at_call 61; (with_reducible refine (EN.out).mono ?_); rintro e w2 ⟨rfl, rfl⟩)
            | (go_at_call 53; (with_reducible refine (RI.out).mono ?_); rintro e w3 ⟨rfl, hb3⟩)
            | (go_at_call 54; (with_reducible refine (BY.out pre A pc w3 HL.out (Reads.of_own (own_later HO.out hb3))).mono ?_); rintro e w4 ⟨rfl, hb4⟩; rw [HBK.out]; have h34 := hb3.trans (hb4.mono hb3.size)))
          exact YES.out _ _ _ F.out (own_later HO.out h34) (HB.out.trans (h34.mono HB.out.size))
        | false =>
          have F := Lib.hid (NO.out (decode_bad D0 (.inr hrt)))
          rw [hrt] at RI
          clear hrt hf D0 hbk
          go_wp2_with (first
            | (go_at_call 59; (with_reducible refine (LF.out).mono ?_); rintro e w2 ⟨rfl, rfl⟩)
            | (go_at_call 61; (with_reducible refine (EN.out).mono ?_); rintro e w2 ⟨rfl, rfl⟩)
            | (go_at_call 53; (with_reducible refine (RI.out).mono ?_); rintro e w3 ⟨rfl, hb3⟩))
          exact F.out _ (HB.out.trans (hb3.mono HB.out.size))
      · have n1 : ((cur.fin : Int) != 0) = true := by simp; omega
        have F := Lib.hid (NO.out (decode_bad D0 (.inl hf)))
        clear hf D0
        go_wp2_with (first
          | (go_at_call 59; (with_reducible refine (LF.out).mono ?_); rintro e w2 ⟨rfl, rfl⟩)
          | (go_at_call 61; (with_reducible refine (EN.out).mono ?_); rintro e w2 ⟨rfl, rfl⟩))
        exact F.out _ hb
    · have hl0 : (0 : Int) < (left cur : Int) := by omega
      have hl1 : 0 < left cur := by omega
      have LS := rrlist_any w.heap.size cur (by omega) wr hrd
      have BAD := Lib.hid (fun h => NO.out (HD.out.bad h0 h))
      have NXT := Lib.hid (fun x h => HD.out.next (x := x) h0 h)
      have LESS := Lib.hid (fun x h => list_less (r := cur) (x := x) h)
      have HB := Lib.hid hb
      clear hrd NO h0 HD
      go_wp2_with (go_at_call 59; (with_reducible refine (LF.out).mono ?_); rintro e w2 ⟨rfl, rfl⟩)
      refine LS.mono ?_
      rintro e w1 ⟨v, rfl, hown1, hrd1, hg1⟩
      have hs1 := hg1.size
      have b1 : Below w.heap.size w w1 := HB.out.grown hg1 hs0 (fun g hg => by cases hg; exact Nat.le_refl _)
      have HO1 := Lib.hid (own_grown2 HO.out hg1 (Nat.lt_succ_self _))
      have HR1 := Lib.hid hrd1
      clear LS LF hg1 hrd1
      generalize cur.list.2 = nx at *
      generalize hts : cur.list.1 = ts at *
      clear hts
      by_cases h3 : ts.length = 3
      · obtain ⟨n, kk, d, rfl, g, c, rfl, hgB, hgl, c0, c1, c2⟩ := row3 hown1 h3
        have hgw : w.heap.size < g := by omega
        rw [entOf_three] at BAD NXT LESS
        clear hown1 h3
        by_cases k1 : kk = [100]
        · rw [if_pos k1] at NXT LESS
          have N1 := Lib.hid (NXT.out _ rfl)
          have L1 := LESS.out _ rfl
          have e1 := lit_eq k1
          have e2 : ((bs kk).toList == [100]) = true := by rw [e1]; rfl
          have e3 : ((bs kk).toList != [100]) = false := by rw [e1]; rfl
          clear BAD NXT LESS k1
          go_wp2_with (fail)
          have d0 : ∀ W, Below w1.heap.size w1 W → W.cell? ⟨g, 0, none⟩ = some (.string (bs n)) := fun W hW => (hW.cell (p := ⟨g, 0, none⟩) hgl).trans c0
          have d1 : ∀ W, Below w1.heap.size w1 W → W.cell? ⟨g, 1, none⟩ = some (.string (bs kk)) := fun W hW => (hW.cell (p := ⟨g, 1, none⟩) hgl).trans c1
          have d2 : ∀ W, Below w1.heap.size w1 W → W.cell? ⟨g, 2, none⟩ = some (.string (bs d)) := fun W hW => (hW.cell (p := ⟨g, 2, none⟩) hgl).trans c2
          refine wp_region_mix (C := fun w' => Below w1.heap.size w1 w') 12 (by kernel_rfl) (by kernel_rfl) (fun _ _ d _ _ h => by cases d <;> exact h) (Below.refl _ _).drew ?_
          simp only [List.take_succ_cons, List.take_zero, List.drop_succ_cons, List.drop_zero]
          repeat (quiet_step (first | (intro _; rfl) | (intro hss; (first | rw [d0 _ hss] | rw [d1 _ hss] | rw [d2 _ hss]); exact ⟨rfl, rfl⟩)))
          refine wpQuiet_nil ?_
          intro w5 hb5
          have hs5 := hb5.size
          clear d0 d1 d2
          go_wp2_with (at_builtin; refine wpList_append_any _ rfl (.tmp 30) (.tmp 42) _ rfl (w.heap.size + 1) 33 i0 _ 3 40 Tryz.underlying26 hi hz0 hz1 hz2 hzs (by omega) _ pre.length _ rfl (own_later HO1.out (hb5.alloc hs5 _)) _ (some ⟨w5.heap.size, 0, none⟩) 1 1 [.string (bs n), .bool true, .string (bs d)] rfl (reads3_new _ _ _ _ _ _ rfl) (ec_cell [⟨n, true, d⟩]) (by simp only [maxLen]; omega) (by omega) (by simp; omega) ?_; intro v' w6 hown6 hg6 hat6)
          have b5 : Below w1.heap.size w1 (w5.alloc (.cells #[.string (bs n), .bool true, .string (bs d)] 33)) := hb5.alloc hs5 _
          have b6 : Below w.heap.size w w6 := Below.grown (b1.trans (b5.mono b1.size)) hg6 (by simp; omega) (fun g hg => by have := (HO1.out.lt g hg).1; omega)
          have HR6 : RqAt w6 w.heap.size nx := (hg6.block _ (by simp; omega) (fun e => by have := (HO1.out.lt _ e.symm).1; omega)).trans (heap_below b5 (by omega) HR1.out)
          go_roundw
          case rel => exact ⟨pre ++ [⟨n, true, d⟩], nx, by rw [ec_append, List.length_append]; exact hown6, HR6, N1.out, by rw [List.length_append, List.length_singleton]; omega, b6⟩
          case measure =>
            have : w6.cell? ⟨w.heap.size, 0, none⟩ = some (.string (bs nx.rest)) := (cell_heap HR6 0).trans rfl
            rw [MW.out]
            unfold restOf
            rw [this]
            show (bs nx.rest).size < _
            rw [bs_len]; omega
        · by_cases k2 : kk = [102]
          · rw [if_neg k1, if_pos k2] at NXT LESS
            have N1 := Lib.hid (NXT.out _ rfl)
            have L1 := LESS.out _ rfl
            have e1 := lit_eq k2
            have e2 : ((bs kk).toList == [100]) = false := by rw [e1]; rfl
            have e3 : ((bs kk).toList != [100]) = true := by rw [e1]; rfl
            have e4 : ((bs kk).toList == [102]) = true := by rw [e1]; rfl
            have e5 : ((bs kk).toList != [102]) = false := by rw [e1]; rfl
            have e6 := lit_ne k1
            clear BAD NXT LESS k1 k2
            go_wp2_with (fail)
            have d0 : ∀ W, Below w1.heap.size w1 W → W.cell? ⟨g, 0, none⟩ = some (.string (bs n)) := fun W hW => (hW.cell (p := ⟨g, 0, none⟩) hgl).trans c0
            have d1 : ∀ W, Below w1.heap.size w1 W → W.cell? ⟨g, 1, none⟩ = some (.string (bs kk)) := fun W hW => (hW.cell (p := ⟨g, 1, none⟩) hgl).trans c1
            have d2 : ∀ W, Below w1.heap.size w1 W → W.cell? ⟨g, 2, none⟩ = some (.string (bs d)) := fun W hW => (hW.cell (p := ⟨g, 2, none⟩) hgl).trans c2
            refine wp_region_mix (C := fun w' => Below w1.heap.size w1 w') 12 (by kernel_rfl) (by kernel_rfl) (fun _ _ d _ _ h => by cases d <;> exact h) (Below.refl _ _).drew ?_
            simp only [List.take_succ_cons, List.take_zero, List.drop_succ_cons, List.drop_zero]
            repeat (quiet_step (first | (intro _; rfl) | (intro hss; (first | rw [d0 _ hss] | rw [d1 _ hss] | rw [d2 _ hss]); exact ⟨rfl, rfl⟩)))
            refine wpQuiet_nil ?_
            intro w5 hb5
            have hs5 := hb5.size
            clear d0 d1 d2
            go_wp2_with (at_builtin; refine wpList_append_any _ rfl (.tmp 30) (.tmp 42) _ rfl (w.heap.size + 1) 33 i0 _ 3 40 Tryz.underlying26 hi hz0 hz1 hz2 hzs (by omega) _ pre.length _ rfl (own_later HO1.out (hb5.alloc hs5 _)) _ (some ⟨w5.heap.size, 0, none⟩) 1 1 [.string (bs n), .bool false, .string (bs d)] rfl (reads3_new _ _ _ _ _ _ rfl) (ec_cell [⟨n, false, d⟩]) (by simp only [maxLen]; omega) (by omega) (by simp; omega) ?_; intro v' w6 hown6 hg6 hat6)
            have b5 : Below w1.heap.size w1 (w5.alloc (.cells #[.string (bs n), .bool false, .string (bs d)] 33)) := hb5.alloc hs5 _
            have b6 : Below w.heap.size w w6 := Below.grown (b1.trans (b5.mono b1.size)) hg6 (by simp; omega) (fun g hg => by have := (HO1.out.lt g hg).1; omega)
            have HR6 : RqAt w6 w.heap.size nx := (hg6.block _ (by simp; omega) (fun e => by have := (HO1.out.lt _ e.symm).1; omega)).trans (heap_below b5 (by omega) HR1.out)
            go_roundw
            case rel => exact ⟨pre ++ [⟨n, false, d⟩], nx, by rw [ec_append, List.length_append]; exact hown6, HR6, N1.out, by rw [List.length_append, List.length_singleton]; omega, b6⟩
            case measure =>
              have : w6.cell? ⟨w.heap.size, 0, none⟩ = some (.string (bs nx.rest)) := (cell_heap HR6 0).trans rfl
              rw [MW.out]
              unfold restOf
              rw [this]
              show (bs nx.rest).size < _
              rw [bs_len]; omega
          · rw [if_neg k1, if_neg k2] at BAD
            have F := Lib.hid (BAD.out rfl)
            have e2 : ((bs kk).toList == [100]) = false := beq_eq_false_iff_ne.2 (lit_ne k1)
            have e4 : ((bs kk).toList == [102]) = false := beq_eq_false_iff_ne.2 (lit_ne k2)
            have e6 := lit_ne k1
            have e7 := lit_ne k2
            clear BAD NXT LESS k1 k2
            go_wp2_with (fail)
            exact F.out _ b1
      · have F := Lib.hid (BAD.out (entOf_none h3))
        obtain ⟨A, m, c, rfl⟩ := own_form hown1
        have hm : m = ts.length := by
          rcases hown1.2 with ⟨h1, h2⟩ | ⟨g, cap, gur, h1, _⟩
          · injection h1; omega
          · injection h1
        subst hm
        have n1 : ((ts.length : Int) != 3) = true := by simp; omega
        have n2 : ¬ ts.length = 3 := h3
        clear BAD NXT LESS hown1 h3
        go_wp2_with (fail)
        exact F.out _ b1
end Go.Proofs.YtglenhlhkgjnbaaGreatDoor.Fs
