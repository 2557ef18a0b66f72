/- Joined by mkmerged.py: FsDec, FsDown. -/
import Derived.Test.YtlndnpfjneeeeaaGreatDoorMh16
import Derived.Test.YtlndnpfjneeeeaaGreatDoorMh15
import Derived.Test.YtlndnpfjneeeeaaGreatDoorMh24
import Derived.Test.YtlndnpfjneeeeaaGreatDoorMhKm
import Derived.Test.YtlndnpfjneeeeaaGreatDoorMh14
import Derived.Deep.RegionHeld3
import Derived.Deep.CutRange
import Derived.Test.YtlndnpfjneeeeaaGreatDoorMh17
/- FsDec, what a claim needs of it (prune.py). -/
namespace Go.Proofs.YtlndnpfjneeeeaaGreatDoor.Fs
open Go.RowKit
set_option linter.unusedVariables false
set_option maxRecDepth 100000
def DecSays (data : B) (w : World) (e : Ending) (w' : World) : Prop := (∃ A c, e = .returned (.tuple #[.slice A (decode data).1.length c, .int .i64 (decode data).2]) ∧ Ens w' A (decode data).1) ∧ Below w.heap.size w w'
theorem DecSays.no {data : B} {w w' : World} (h : decode data = ([], 11)) (hb : Below w.heap.size w w') : DecSays data w (.returned (.tuple #[.slice none 0 0, .int .i64 11])) w' := by
  unfold DecSays
  rw [h]
  exact ⟨⟨none, 0, rfl, Reads.none_⟩, hb⟩
theorem DecSays.yes {data : B} {m : List En} {w w' : World} {v : Value} {B0 : Nat} (h : decode data = (m, 0)) (ho : w'.ownsRow B0 79 3 v m.length (ec m)) (hb : Below w.heap.size w w') : DecSays data w (.returned (.tuple #[v, .int .i64 0])) w' := by
  unfold DecSays
  rw [h]
  obtain ⟨A, n, c, rfl⟩ := own_form ho
  have hn : n = m.length := by
    rcases ho.2 with ⟨h1, h2⟩ | ⟨g, cap, cur, h1, _⟩
    · injection h1; omega
    · injection h1
  subst hn
  exact ⟨⟨A, c, rfl, Reads.of_own ho⟩, hb⟩
def DecOwn (data : B) (w : World) (e : Ending) (w' : World) : Prop := ∃ v, e = .returned (.tuple #[v, .int .i64 (decode data).2]) ∧ w'.ownsRow (w.heap.size + 1) 79 3 v (decode data).1.length (ec (decode data).1) ∧ Below w.heap.size w w'
theorem DecOwn.no {data : B} {w w' : World} (h : decode data = ([], 11)) (hb : Below w.heap.size w w') : DecOwn data w (.returned (.tuple #[.slice none 0 0, .int .i64 11])) w' := by
  unfold DecOwn
  rw [h]
  exact ⟨_, rfl, World.ownsRow_nil _ _ _ _, hb⟩
theorem DecOwn.yes {data : B} {m : List En} {w w' : World} {v : Value} (h : decode data = (m, 0)) (ho : w'.ownsRow (w.heap.size + 1) 79 3 v m.length (ec m)) (hb : Below w.heap.size w w') : DecOwn data w (.returned (.tuple #[v, .int .i64 0])) w' := by
  unfold DecOwn
  rw [h]
  exact ⟨_, rfl, ho, hb⟩
theorem lit_eq {k : B} {c : UInt8} (h : k = [c]) : (bs k).toList = [c] := by rw [Lib.toList_data]; exact h
theorem lit_ne {k : B} {c : UInt8} (h : k ≠ [c]) : ¬ (bs k).toList = [c] := by rw [Lib.toList_data]; exact h
theorem row3 {w : World} {B0 : Nat} {v : Value} {l : List B} (ho : w.ownsRow B0 9 1 v l.length (l.map fun t => Value.string (bs t))) (hl : l.length = 3) :
    ∃ n k d, l = [n, k, d] ∧ ∃ g c, v = .slice (some ⟨g, 0, none⟩) 3 c ∧ B0 ≤ g ∧ g < w.heap.size ∧ w.cell? ⟨g, 0, none⟩ = some (.string (bs n)) ∧ w.cell? ⟨g, 1, none⟩ = some (.string (bs k)) ∧ w.cell? ⟨g, 2, none⟩ = some (.string (bs d)) := by
  match l, hl with
  | [n, k, d], _ =>
    refine ⟨n, k, d, rfl, ?_⟩
    rcases ho.2 with ⟨h1, h2⟩ | ⟨g, cap, cur, rfl, hB, hg, h1, h2, h3, h4⟩
    · cases h2
    · have hc := ho.cells (g := g) rfl
      refine ⟨g, cap, rfl, hB, Lg.lt_heap hg, ?_, ?_, ?_⟩
      · have := hc 0 (.string (bs n)) rfl
        rwa [Lg.add_eq] at this
      · have := hc 1 (.string (bs k)) rfl
        rwa [Lg.add_eq] at this
      · have := hc 2 (.string (bs d)) rfl
        rwa [Lg.add_eq] at this
def DecTo (data : B) (cur : Pk.Rd) (pre : List En) : Prop := dec ⟨data, 0⟩ = (dec cur).map fun p => (pre ++ p.1, p.2)
theorem DecTo.start (data : B) : DecTo data ⟨data, 0⟩ [] := by unfold DecTo; cases dec ⟨data, 0⟩ <;> rfl
theorem DecTo.next {data : B} {cur : Pk.Rd} {pre : List En} {x : En} (h : DecTo data cur pre) (h0 : left cur ≠ 0) (h1 : entOf cur.list.1 = some x) : DecTo data cur.list.2 (pre ++ [x]) := by
  unfold DecTo at h ⊢
  rw [h, dec_more h0 h1]
  cases dec cur.list.2 <;> simp
theorem DecTo.bad {data : B} {cur : Pk.Rd} {pre : List En} (h : DecTo data cur pre) (h0 : left cur ≠ 0) (h1 : entOf cur.list.1 = none) : decode data = ([], 11) := by
  unfold DecTo at h
  rw [dec_bad h0 h1] at h
  exact decode_none h
theorem DecTo.done {data : B} {cur : Pk.Rd} {pre : List En} (h : DecTo data cur pre) (h0 : left cur = 0) : dec ⟨data, 0⟩ = some (pre, cur) := by
  unfold DecTo at h
  rw [h, dec_end h0]; simp
def restOf (w : World) (X : Nat) : Nat := match w.cell? ⟨X, 0, none⟩ with
  | some (.string s) => s.size
  | _ => 0
theorem pleft_any (b : Nat) (r : Pk.Rd) (w : World) (h : RdAt w b r) :
    Calls Tryz.prog 92 #[.pointer (some ⟨b, 0, none⟩)] w fun e w' => e = .returned (.int .i64 (left r)) ∧ w = w' := by
  obtain ⟨l, bad⟩ := r
  have c0 : w.cell? ⟨b, 0, none⟩ = some (.string (bs l)) := (cell_heap h 0).trans rfl
  have c1 : w.cell? ⟨b, 1, none⟩ = some (.int .i64 bad) := (cell_heap h 1).trans rfl
  clear h
  by_cases hb : bad = 0
  · subst hb
    have HV : Hid (left ⟨l, 0⟩ = (bs l).size) := Lib.hid (by rw [bs_len]; rfl)
    go_enter Tryz.func92, Tryz.ntmps92
    go_wp2_with (fail)
    go_ret
    exact ⟨ret_val (by rw [HV.out]; rfl), rfl⟩
  · have HV : Hid (left ⟨l, bad⟩ = 0) := Lib.hid (by unfold left; rw [if_neg hb])
    have n1 : ((bad : Int) != 0) = true := by simp; omega
    clear hb
    go_enter Tryz.func92, Tryz.ntmps92
    go_wp2_with (fail)
    go_ret
    exact ⟨ret_val (by rw [HV.out]; rfl), rfl⟩
set_option maxHeartbeats 8000000 in
theorem pdecode_own (data : B) (hl : data.length ≤ 10000000) (w : World) (hE : Env w) :
    Calls Tryz.prog 37 #[.string (bs data)] w (DecOwn data w) := by
  have EV := Lib.hid (fun W (h : Below w.heap.size w W) => hE.below h)
  obtain ⟨z, hzi, hzs⟩ := infoE
  obtain ⟨i0, hi, hz0, hz1, hz2⟩ := Lg.info_parts hzi
  have NO : Hid (decode data = ([], 11) → ∀ W, Below w.heap.size w W → DecOwn data w (.returned (.tuple #[.slice none 0 0, .int .i64 11])) W) := Lib.hid fun h W hW => DecOwn.no h hW
  have YES : Hid (∀ m v W, decode data = (m, 0) → W.ownsRow (w.heap.size + 1) 79 3 v m.length (ec m) → Below w.heap.size w W → DecOwn data w (.returned (.tuple #[v, .int .i64 0])) W) := Lib.hid fun m v W h ho hW => DecOwn.yes h ho hW
  have RIGHT : Hid (∀ (m : List En) A c W, Below w.heap.size w W → Ens W A m → (∀ x ∈ m, x.n.length ≤ 1000000000 ∧ x.g.length ≤ 1000000000) → m.length ≤ 1000000000 → Calls Tryz.prog 85 #[.slice A m.length c] W fun e w' => e = .returned (.bool (rightB m)) ∧ Below W.heap.size W w') := Lib.hid fun m A c W hW hr hz hl => pright_any A m c W (EV.out _ hW) hr hz hl
  have DS := Lib.hid (DecTo.start data)
  clear hE hzi
  generalize hQ : DecOwn data w = Q at *
  clear hQ
  have RD := Lib.hid (read_any data)
  go_enter Tryz.func37, Tryz.ntmps37
  go_wp2_with (go_at_call 91; ((with_reducible refine (RD.out _).mono ?_); rintro e w1 ⟨rfl, hr1, hb1⟩))
  go_loopw [5] (fun v W => ∃ (pre : List En) (cur : Pk.Rd), W.ownsRow (w.heap.size + 1) 79 3 v pre.length (ec pre) ∧ RdAt W w.heap.size cur ∧ DecTo data cur pre ∧ cur.rest.length + pre.length ≤ data.length ∧ Below w.heap.size w W) (fun _ W => restOf W w.heap.size)
  case atStart => exact ⟨[], ⟨data, 0⟩, World.ownsRow_nil _ _ _ _, hr1, DS.out, by simp, hb1⟩
  case round =>
    obtain ⟨pre, cur, hown, hrd, hdt, hcl, hb⟩ := hrel
    clear hr1 hb1
    have HO := Lib.hid hown
    have HR := Lib.hid hrd
    have HD := Lib.hid hdt
    have hs0 := hb.size
    have hbl : w.heap.size < wr.heap.size := Lg.lt_heap hrd
    have LF := Lib.hid (pleft_any w.heap.size cur wr hrd)
    have MW : Hid (restOf wr w.heap.size = cur.rest.length) := Lib.hid (by
      have : wr.cell? ⟨w.heap.size, 0, none⟩ = some (.string (bs cur.rest)) := (cell_heap hrd 0).trans rfl
      unfold restOf
      rw [this]
      exact bs_len _)
    clear hown hdt
    by_cases h0 : left cur = 0
    · rw [h0] at LF
      have D0 := HD.out.done h0
      have EN := Lib.hid (rend_any w.heap.size cur wr hrd)
      obtain ⟨A, pn, pc, rfl⟩ := own_form HO.out
      have hpn : pn = pre.length := by
        rcases HO.out.2 with ⟨h1, h2⟩ | ⟨g, cap, gur, h1, _⟩
        · injection h1; omega
        · injection h1
      subst hpn
      clear hrd MW
      by_cases hf : cur.fin = 0
      · have n1 : ((cur.fin : Int) != 0) = false := by simp; omega
        have hbk := dec_back D0 hf
        have RI := Lib.hid (RIGHT.out pre A pc wr hb (Reads.of_own HO.out) (fun x hx => by have := parts_le hx; rw [hbk] at this; omega) (by omega))
        have HB := Lib.hid hb
        cases hrt : rightB pre with
        | true =>
          have F := Lib.hid (decode_good D0 hf hrt)
          rw [hrt] at RI
          clear hrt hf D0 hbk
          go_wp2_with (first
            | (go_at_call 92; (with_reducible refine (LF.out).mono ?_); rintro e w2 ⟨rfl, rfl⟩)
            | (go_at_call 94; (with_reducible refine (EN.out).mono ?_); rintro e w2 ⟨rfl, rfl⟩)
            | (go_at_call 85; (with_reducible refine (RI.out).mono ?_); rintro e w3 ⟨rfl, hb3⟩))
          exact YES.out _ _ _ F.out (own_later HO.out hb3) (HB.out.trans (hb3.mono HB.out.size))
        | false =>
          have F := Lib.hid (NO.out (decode_bad D0 (.inr hrt)))
          rw [hrt] at RI
          clear hrt hf D0 hbk
          go_wp2_with (first
            | (go_at_call 92; (with_reducible refine (LF.out).mono ?_); rintro e w2 ⟨rfl, rfl⟩)
            | (go_at_call 94; (with_reducible refine (EN.out).mono ?_); rintro e w2 ⟨rfl, rfl⟩)
            | (go_at_call 85; (with_reducible refine (RI.out).mono ?_); rintro e w3 ⟨rfl, hb3⟩))
          exact F.out _ (HB.out.trans (hb3.mono HB.out.size))
      · have n1 : ((cur.fin : Int) != 0) = true := by simp; omega
        have F := Lib.hid (NO.out (decode_bad D0 (.inl hf)))
        clear hf D0
        go_wp2_with (first
          | (go_at_call 92; (with_reducible refine (LF.out).mono ?_); rintro e w2 ⟨rfl, rfl⟩)
          | (go_at_call 94; (with_reducible refine (EN.out).mono ?_); rintro e w2 ⟨rfl, rfl⟩))
        exact F.out _ hb
    · have hl0 : (0 : Int) < (left cur : Int) := by omega
      have hl1 : 0 < left cur := by omega
      have LS := rlist_any w.heap.size cur (by omega) wr hrd
      have BAD := Lib.hid (fun h => NO.out (HD.out.bad h0 h))
      have NXT := Lib.hid (fun x h => HD.out.next (x := x) h0 h)
      have LESS := Lib.hid (fun x h => list_less (r := cur) (x := x) h)
      have HB := Lib.hid hb
      clear hrd NO h0 HD
      go_wp2_with (go_at_call 92; (with_reducible refine (LF.out).mono ?_); rintro e w2 ⟨rfl, rfl⟩)
      refine LS.mono ?_
      rintro e w1 ⟨v, rfl, hown1, hrd1, hg1⟩
      have hs1 := hg1.size
      have b1 : Below w.heap.size w w1 := HB.out.grown hg1 hs0 (fun g hg => by cases hg; exact Nat.le_refl _)
      have HO1 := Lib.hid (own_grown2 HO.out hg1 (Nat.lt_succ_self _))
      have HR1 := Lib.hid hrd1
      clear LS LF hg1 hrd1
      generalize cur.list.2 = nx at *
      generalize hts : cur.list.1 = ts at *
      clear hts
      by_cases h3 : ts.length = 3
      · obtain ⟨n, kk, d, rfl, g, c, rfl, hgB, hgl, c0, c1, c2⟩ := row3 hown1 h3
        have hgw : w.heap.size < g := by omega
        rw [entOf_three] at BAD NXT LESS
        clear hown1 h3
        by_cases k1 : kk = [100]
        · rw [if_pos k1] at NXT LESS
          have N1 := Lib.hid (NXT.out _ rfl)
          have L1 := LESS.out _ rfl
          have e1 := lit_eq k1
          have e2 : ((bs kk).toList == [100]) = true := by rw [e1]; rfl
          have e3 : ((bs kk).toList != [100]) = false := by rw [e1]; rfl
          clear BAD NXT LESS k1
          go_wp2_with (fail)
          have d0 : ∀ W, Below w1.heap.size w1 W → W.cell? ⟨g, 0, none⟩ = some (.string (bs n)) := fun W hW => (hW.cell (p := ⟨g, 0, none⟩) hgl).trans c0
          have d1 : ∀ W, Below w1.heap.size w1 W → W.cell? ⟨g, 1, none⟩ = some (.string (bs kk)) := fun W hW => (hW.cell (p := ⟨g, 1, none⟩) hgl).trans c1
          have d2 : ∀ W, Below w1.heap.size w1 W → W.cell? ⟨g, 2, none⟩ = some (.string (bs d)) := fun W hW => (hW.cell (p := ⟨g, 2, none⟩) hgl).trans c2
          refine wp_region_mix (C := fun w' => Below w1.heap.size w1 w') 12 (by kernel_rfl) (by kernel_rfl) (fun _ _ d _ _ h => by cases d <;> exact h) (Below.refl _ _).drew ?_
          simp only [List.take_succ_cons, List.take_zero, List.drop_succ_cons, List.drop_zero]
          repeat (quiet_step (first | (intro _; rfl) | (intro hss; (first | rw [d0 _ hss] | rw [d1 _ hss] | rw [d2 _ hss]); exact ⟨rfl, rfl⟩)))
          refine wpQuiet_nil ?_
          intro w5 hb5
          have hs5 := hb5.size
          clear d0 d1 d2
          go_wp2_with (at_builtin; refine wpList_append_any _ rfl (.tmp 29) (.tmp 41) _ rfl (w.heap.size + 1) 79 i0 _ 3 40 Tryz.underlying72 hi hz0 hz1 hz2 hzs (by omega) _ pre.length _ rfl (own_later HO1.out (hb5.alloc hs5 _)) _ (some ⟨w5.heap.size, 0, none⟩) 1 1 [.string (bs n), .bool true, .string (bs d)] rfl (reads3_new _ _ _ _ _ _ rfl) (ec_cell [⟨n, true, d⟩]) (by simp only [maxLen]; omega) (by omega) (by simp; omega) ?_; intro v' w6 hown6 hg6 hat6)
          have b5 : Below w1.heap.size w1 (w5.alloc (.cells #[.string (bs n), .bool true, .string (bs d)] 79)) := hb5.alloc hs5 _
          have b6 : Below w.heap.size w w6 := Below.grown (b1.trans (b5.mono b1.size)) hg6 (by simp; omega) (fun g hg => by have := (HO1.out.lt g hg).1; omega)
          have HR6 : RdAt w6 w.heap.size nx := (hg6.block _ (by simp; omega) (fun e => by have := (HO1.out.lt _ e.symm).1; omega)).trans (heap_below b5 (by omega) HR1.out)
          go_roundw
          case rel => exact ⟨pre ++ [⟨n, true, d⟩], nx, by rw [ec_append, List.length_append]; exact hown6, HR6, N1.out, by rw [List.length_append, List.length_singleton]; omega, b6⟩
          case measure =>
            have : w6.cell? ⟨w.heap.size, 0, none⟩ = some (.string (bs nx.rest)) := (cell_heap HR6 0).trans rfl
            rw [MW.out]
            unfold restOf
            rw [this]
            show (bs nx.rest).size < _
            rw [bs_len]; omega
        · by_cases k2 : kk = [102]
          · rw [if_neg k1, if_pos k2] at NXT LESS
            have N1 := Lib.hid (NXT.out _ rfl)
            have L1 := LESS.out _ rfl
            have e1 := lit_eq k2
            have e2 : ((bs kk).toList == [100]) = false := by rw [e1]; rfl
            have e3 : ((bs kk).toList != [100]) = true := by rw [e1]; rfl
            have e4 : ((bs kk).toList == [102]) = true := by rw [e1]; rfl
            have e5 : ((bs kk).toList != [102]) = false := by rw [e1]; rfl
            have e6 := lit_ne k1
            clear BAD NXT LESS k1 k2
            go_wp2_with (fail)
            have d0 : ∀ W, Below w1.heap.size w1 W → W.cell? ⟨g, 0, none⟩ = some (.string (bs n)) := fun W hW => (hW.cell (p := ⟨g, 0, none⟩) hgl).trans c0
            have d1 : ∀ W, Below w1.heap.size w1 W → W.cell? ⟨g, 1, none⟩ = some (.string (bs kk)) := fun W hW => (hW.cell (p := ⟨g, 1, none⟩) hgl).trans c1
            have d2 : ∀ W, Below w1.heap.size w1 W → W.cell? ⟨g, 2, none⟩ = some (.string (bs d)) := fun W hW => (hW.cell (p := ⟨g, 2, none⟩) hgl).trans c2
            refine wp_region_mix (C := fun w' => Below w1.heap.size w1 w') 12 (by kernel_rfl) (by kernel_rfl) (fun _ _ d _ _ h => by cases d <;> exact h) (Below.refl _ _).drew ?_
            simp only [List.take_succ_cons, List.take_zero, List.drop_succ_cons, List.drop_zero]
            repeat (quiet_step (first | (intro _; rfl) | (intro hss; (first | rw [d0 _ hss] | rw [d1 _ hss] | rw [d2 _ hss]); exact ⟨rfl, rfl⟩)))
            refine wpQuiet_nil ?_
            intro w5 hb5
            have hs5 := hb5.size
            clear d0 d1 d2
            go_wp2_with (at_builtin; refine wpList_append_any _ rfl (.tmp 29) (.tmp 41) _ rfl (w.heap.size + 1) 79 i0 _ 3 40 Tryz.underlying72 hi hz0 hz1 hz2 hzs (by omega) _ pre.length _ rfl (own_later HO1.out (hb5.alloc hs5 _)) _ (some ⟨w5.heap.size, 0, none⟩) 1 1 [.string (bs n), .bool false, .string (bs d)] rfl (reads3_new _ _ _ _ _ _ rfl) (ec_cell [⟨n, false, d⟩]) (by simp only [maxLen]; omega) (by omega) (by simp; omega) ?_; intro v' w6 hown6 hg6 hat6)
            have b5 : Below w1.heap.size w1 (w5.alloc (.cells #[.string (bs n), .bool false, .string (bs d)] 79)) := hb5.alloc hs5 _
            have b6 : Below w.heap.size w w6 := Below.grown (b1.trans (b5.mono b1.size)) hg6 (by simp; omega) (fun g hg => by have := (HO1.out.lt g hg).1; omega)
            have HR6 : RdAt w6 w.heap.size nx := (hg6.block _ (by simp; omega) (fun e => by have := (HO1.out.lt _ e.symm).1; omega)).trans (heap_below b5 (by omega) HR1.out)
            go_roundw
            case rel => exact ⟨pre ++ [⟨n, false, d⟩], nx, by rw [ec_append, List.length_append]; exact hown6, HR6, N1.out, by rw [List.length_append, List.length_singleton]; omega, b6⟩
            case measure =>
              have : w6.cell? ⟨w.heap.size, 0, none⟩ = some (.string (bs nx.rest)) := (cell_heap HR6 0).trans rfl
              rw [MW.out]
              unfold restOf
              rw [this]
              show (bs nx.rest).size < _
              rw [bs_len]; omega
          · rw [if_neg k1, if_neg k2] at BAD
            have F := Lib.hid (BAD.out rfl)
            have e2 : ((bs kk).toList == [100]) = false := beq_eq_false_iff_ne.2 (lit_ne k1)
            have e4 : ((bs kk).toList == [102]) = false := beq_eq_false_iff_ne.2 (lit_ne k2)
            have e6 := lit_ne k1
            have e7 := lit_ne k2
            clear BAD NXT LESS k1 k2
            go_wp2_with (fail)
            exact F.out _ b1
      · have F := Lib.hid (BAD.out (entOf_none h3))
        obtain ⟨A, m, c, rfl⟩ := own_form hown1
        have hm : m = ts.length := by
          rcases hown1.2 with ⟨h1, h2⟩ | ⟨g, cap, gur, h1, _⟩
          · injection h1; omega
          · injection h1
        subst hm
        have n1 : ((ts.length : Int) != 3) = true := by simp; omega
        have n2 : ¬ ts.length = 3 := h3
        clear BAD NXT LESS hown1 h3
        go_wp2_with (fail)
        exact F.out _ b1
end Go.Proofs.YtlndnpfjneeeeaaGreatDoor.Fs
namespace Go.Proofs.YtlndnpfjneeeeaaGreatDoor.Fs
open Go.RowKit
set_option linter.unusedVariables false
set_option maxRecDepth 100000
theorem rleft_any (b : Nat) (r : Pk.Rd) (w : World) (h : RqAt w b r) :
    Calls Tryz.prog 192 #[.pointer (some ⟨b, 0, none⟩)] w fun e w' => e = .returned (.int .i64 (left r)) ∧ w = w' := by
  obtain ⟨l, bad⟩ := r
  have c0 : w.cell? ⟨b, 0, none⟩ = some (.string (bs l)) := (cell_heap h 0).trans rfl
  have c1 : w.cell? ⟨b, 1, none⟩ = some (.int .i64 bad) := (cell_heap h 1).trans rfl
  clear h
  by_cases hb : bad = 0
  · subst hb
    have HV : Hid (left ⟨l, 0⟩ = (bs l).size) := Lib.hid (by rw [bs_len]; rfl)
    go_enter Tryz.func192, Tryz.ntmps192
    go_wp2_with (fail)
    go_ret
    exact ⟨ret_val (by rw [HV.out]; rfl), rfl⟩
  · have HV : Hid (left ⟨l, bad⟩ = 0) := Lib.hid (by unfold left; rw [if_neg hb])
    have n1 : ((bad : Int) != 0) = true := by simp; omega
    clear hb
    go_enter Tryz.func192, Tryz.ntmps192
    go_wp2_with (fail)
    go_ret
    exact ⟨ret_val (by rw [HV.out]; rfl), rfl⟩
set_option maxHeartbeats 8000000 in
theorem rdecode_own (data : B) (hl : data.length ≤ 10000000) (w : World) :
    Calls Tryz.prog 102 #[.string (bs data)] w (DecOwn data w) := by
  obtain ⟨z, hzi, hzs⟩ := infoE
  obtain ⟨i0, hi, hz0, hz1, hz2⟩ := Lg.info_parts hzi
  have NO : Hid (decode data = ([], 11) → ∀ W, Below w.heap.size w W → DecOwn data w (.returned (.tuple #[.slice none 0 0, .int .i64 11])) W) := Lib.hid fun h W hW => DecOwn.no h hW
  have YES : Hid (∀ m v W, decode data = (m, 0) → W.ownsRow (w.heap.size + 1) 79 3 v m.length (ec m) → Below w.heap.size w W → DecOwn data w (.returned (.tuple #[v, .int .i64 0])) W) := Lib.hid fun m v W h ho hW => DecOwn.yes h ho hW
  have RIGHT : Hid (∀ (m : List En) A c W, Below w.heap.size w W → Ens W A m → (∀ x ∈ m, x.n.length ≤ 1000000000 ∧ x.g.length ≤ 1000000000) → m.length ≤ 1000000000 → Calls Tryz.prog 193 #[.slice A m.length c] W fun e w' => e = .returned (.bool (rightB m)) ∧ Below W.heap.size W w') := Lib.hid fun m A c W hW hr hz hl => rright_any A m c W hr hz hl
  have BY : Hid (∀ (m : List En) A c W, (bytesE m).length ≤ 100000000 → Ens W A m → Calls Tryz.prog 194 #[.slice A m.length c] W fun e w' => e = .returned (.string (bs (bytesE m))) ∧ Below W.heap.size W w') := Lib.hid fun m A c W hl hr => rbytes_any A m c W hr hl
  have DS := Lib.hid (DecTo.start data)
  clear hzi
  generalize hQ : DecOwn data w = Q at *
  clear hQ
  go_enter Tryz.func102, Tryz.ntmps102
  go_wp2_with (fail)
  have hr1 : RqAt (w.alloc (.cells #[.string (bs data), .int .i64 0] 208)) w.heap.size ⟨data, 0⟩ := heap_alloc_new w _
  have hb1 : Below w.heap.size w (w.alloc (.cells #[.string (bs data), .int .i64 0] 208)) := (Below.refl _ _).alloc (Nat.le_refl _) _
  go_loopw [5] (fun v W => ∃ (pre : List En) (cur : Pk.Rd), W.ownsRow (w.heap.size + 1) 79 3 v pre.length (ec pre) ∧ RqAt W w.heap.size cur ∧ DecTo data cur pre ∧ cur.rest.length + pre.length ≤ data.length ∧ Below w.heap.size w W) (fun _ W => restOf W w.heap.size)
  case atStart => exact ⟨[], ⟨data, 0⟩, World.ownsRow_nil _ _ _ _, hr1, DS.out, by simp, hb1⟩
  case round =>
    obtain ⟨pre, cur, hown, hrd, hdt, hcl, hb⟩ := hrel
    clear hr1 hb1
    have HO := Lib.hid hown
    have HR := Lib.hid hrd
    have HD := Lib.hid hdt
    have hs0 := hb.size
    have hbl : w.heap.size < wr.heap.size := Lg.lt_heap hrd
    have LF := Lib.hid (rleft_any w.heap.size cur wr hrd)
    have MW : Hid (restOf wr w.heap.size = cur.rest.length) := Lib.hid (by
      have : wr.cell? ⟨w.heap.size, 0, none⟩ = some (.string (bs cur.rest)) := (cell_heap hrd 0).trans rfl
      unfold restOf
      rw [this]
      exact bs_len _)
    clear hown hdt
    by_cases h0 : left cur = 0
    · rw [h0] at LF
      have D0 := HD.out.done h0
      have EN := Lib.hid (rrend_any w.heap.size cur wr hrd)
      obtain ⟨A, pn, pc, rfl⟩ := own_form HO.out
      have hpn : pn = pre.length := by
        rcases HO.out.2 with ⟨h1, h2⟩ | ⟨g, cap, gur, h1, _⟩
        · injection h1; omega
        · injection h1
      subst hpn
      clear hrd MW
      by_cases hf : cur.fin = 0
      · have n1 : ((cur.fin : Int) != 0) = false := by simp; omega
        have hbk := dec_back D0 hf
        have RI := Lib.hid (RIGHT.out pre A pc wr hb (Reads.of_own HO.out) (fun x hx => by have := parts_le hx; rw [hbk] at this; omega) (by omega))
        have HB := Lib.hid hb
        cases hrt : rightB pre with
        | true =>
          have F := Lib.hid (decode_good D0 hf hrt)
          rw [hrt] at RI
          have HL : Hid ((bytesE pre).length ≤ 100000000) := Lib.hid (by rw [hbk]; omega)
          have HBK := Lib.hid hbk
          have e1 : ((bs data).toList != (bs data).toList) = false := by simp
          clear hrt hf D0 hbk
          go_wp2_with (first
            | (go_at_call 192; (with_reducible refine (LF.out).mono ?_); rintro e w2 ⟨rfl, rfl⟩)
            | (go_at_call 154; (with_reducible refine (EN.out).mono ?_); rintro e w2 ⟨rfl, rfl⟩)
            | (go_at_call 193; (with_reducible refine (RI.out).mono ?_); rintro e w3 ⟨rfl, hb3⟩)
            | (go_at_call 194; (with_reducible refine (BY.out pre A pc w3 HL.out (Reads.of_own (own_later HO.out hb3))).mono ?_); rintro e w4 ⟨rfl, hb4⟩; rw [HBK.out]; have h34 := hb3.trans (hb4.mono hb3.size)))
          exact YES.out _ _ _ F.out (own_later HO.out h34) (HB.out.trans (h34.mono HB.out.size))
        | false =>
          have F := Lib.hid (NO.out (decode_bad D0 (.inr hrt)))
          rw [hrt] at RI
          clear hrt hf D0 hbk
          go_wp2_with (first
            | (go_at_call 192; (with_reducible refine (LF.out).mono ?_); rintro e w2 ⟨rfl, rfl⟩)
            | (go_at_call 154; (with_reducible refine (EN.out).mono ?_); rintro e w2 ⟨rfl, rfl⟩)
            | (go_at_call 193; (with_reducible refine (RI.out).mono ?_); rintro e w3 ⟨rfl, hb3⟩))
          exact F.out _ (HB.out.trans (hb3.mono HB.out.size))
      · have n1 : ((cur.fin : Int) != 0) = true := by simp; omega
        have F := Lib.hid (NO.out (decode_bad D0 (.inl hf)))
        clear hf D0
        go_wp2_with (first
          | (go_at_call 192; (with_reducible refine (LF.out).mono ?_); rintro e w2 ⟨rfl, rfl⟩)
          | (go_at_call 154; (with_reducible refine (EN.out).mono ?_); rintro e w2 ⟨rfl, rfl⟩))
        exact F.out _ hb
    · have hl0 : (0 : Int) < (left cur : Int) := by omega
      have hl1 : 0 < left cur := by omega
      have LS := rrlist_any w.heap.size cur (by omega) wr hrd
      have BAD := Lib.hid (fun h => NO.out (HD.out.bad h0 h))
      have NXT := Lib.hid (fun x h => HD.out.next (x := x) h0 h)
      have LESS := Lib.hid (fun x h => list_less (r := cur) (x := x) h)
      have HB := Lib.hid hb
      clear hrd NO h0 HD
      go_wp2_with (go_at_call 192; (with_reducible refine (LF.out).mono ?_); rintro e w2 ⟨rfl, rfl⟩)
      refine LS.mono ?_
      rintro e w1 ⟨v, rfl, hown1, hrd1, hg1⟩
      have hs1 := hg1.size
      have b1 : Below w.heap.size w w1 := HB.out.grown hg1 hs0 (fun g hg => by cases hg; exact Nat.le_refl _)
      have HO1 := Lib.hid (own_grown2 HO.out hg1 (Nat.lt_succ_self _))
      have HR1 := Lib.hid hrd1
      clear LS LF hg1 hrd1
      generalize cur.list.2 = nx at *
      generalize hts : cur.list.1 = ts at *
      clear hts
      by_cases h3 : ts.length = 3
      · obtain ⟨n, kk, d, rfl, g, c, rfl, hgB, hgl, c0, c1, c2⟩ := row3 hown1 h3
        have hgw : w.heap.size < g := by omega
        rw [entOf_three] at BAD NXT LESS
        clear hown1 h3
        by_cases k1 : kk = [100]
        · rw [if_pos k1] at NXT LESS
          have N1 := Lib.hid (NXT.out _ rfl)
          have L1 := LESS.out _ rfl
          have e1 := lit_eq k1
          have e2 : ((bs kk).toList == [100]) = true := by rw [e1]; rfl
          have e3 : ((bs kk).toList != [100]) = false := by rw [e1]; rfl
          clear BAD NXT LESS k1
          go_wp2_with (fail)
          have d0 : ∀ W, Below w1.heap.size w1 W → W.cell? ⟨g, 0, none⟩ = some (.string (bs n)) := fun W hW => (hW.cell (p := ⟨g, 0, none⟩) hgl).trans c0
          have d1 : ∀ W, Below w1.heap.size w1 W → W.cell? ⟨g, 1, none⟩ = some (.string (bs kk)) := fun W hW => (hW.cell (p := ⟨g, 1, none⟩) hgl).trans c1
          have d2 : ∀ W, Below w1.heap.size w1 W → W.cell? ⟨g, 2, none⟩ = some (.string (bs d)) := fun W hW => (hW.cell (p := ⟨g, 2, none⟩) hgl).trans c2
          refine wp_region_mix (C := fun w' => Below w1.heap.size w1 w') 12 (by kernel_rfl) (by kernel_rfl) (fun _ _ d _ _ h => by cases d <;> exact h) (Below.refl _ _).drew ?_
          simp only [List.take_succ_cons, List.take_zero, List.drop_succ_cons, List.drop_zero]
          repeat (quiet_step (first | (intro _; rfl) | (intro hss; (first | rw [d0 _ hss] | rw [d1 _ hss] | rw [d2 _ hss]); exact ⟨rfl, rfl⟩)))
          refine wpQuiet_nil ?_
          intro w5 hb5
          have hs5 := hb5.size
          clear d0 d1 d2
          go_wp2_with (at_builtin; refine wpList_append_any _ rfl (.tmp 30) (.tmp 42) _ rfl (w.heap.size + 1) 79 i0 _ 3 40 Tryz.underlying72 hi hz0 hz1 hz2 hzs (by omega) _ pre.length _ rfl (own_later HO1.out (hb5.alloc hs5 _)) _ (some ⟨w5.heap.size, 0, none⟩) 1 1 [.string (bs n), .bool true, .string (bs d)] rfl (reads3_new _ _ _ _ _ _ rfl) (ec_cell [⟨n, true, d⟩]) (by simp only [maxLen]; omega) (by omega) (by simp; omega) ?_; intro v' w6 hown6 hg6 hat6)
          have b5 : Below w1.heap.size w1 (w5.alloc (.cells #[.string (bs n), .bool true, .string (bs d)] 79)) := hb5.alloc hs5 _
          have b6 : Below w.heap.size w w6 := Below.grown (b1.trans (b5.mono b1.size)) hg6 (by simp; omega) (fun g hg => by have := (HO1.out.lt g hg).1; omega)
          have HR6 : RqAt w6 w.heap.size nx := (hg6.block _ (by simp; omega) (fun e => by have := (HO1.out.lt _ e.symm).1; omega)).trans (heap_below b5 (by omega) HR1.out)
          go_roundw
          case rel => exact ⟨pre ++ [⟨n, true, d⟩], nx, by rw [ec_append, List.length_append]; exact hown6, HR6, N1.out, by rw [List.length_append, List.length_singleton]; omega, b6⟩
          case measure =>
            have : w6.cell? ⟨w.heap.size, 0, none⟩ = some (.string (bs nx.rest)) := (cell_heap HR6 0).trans rfl
            rw [MW.out]
            unfold restOf
            rw [this]
            show (bs nx.rest).size < _
            rw [bs_len]; omega
        · by_cases k2 : kk = [102]
          · rw [if_neg k1, if_pos k2] at NXT LESS
            have N1 := Lib.hid (NXT.out _ rfl)
            have L1 := LESS.out _ rfl
            have e1 := lit_eq k2
            have e2 : ((bs kk).toList == [100]) = false := by rw [e1]; rfl
            have e3 : ((bs kk).toList != [100]) = true := by rw [e1]; rfl
            have e4 : ((bs kk).toList == [102]) = true := by rw [e1]; rfl
            have e5 : ((bs kk).toList != [102]) = false := by rw [e1]; rfl
            have e6 := lit_ne k1
            clear BAD NXT LESS k1 k2
            go_wp2_with (fail)
            have d0 : ∀ W, Below w1.heap.size w1 W → W.cell? ⟨g, 0, none⟩ = some (.string (bs n)) := fun W hW => (hW.cell (p := ⟨g, 0, none⟩) hgl).trans c0
            have d1 : ∀ W, Below w1.heap.size w1 W → W.cell? ⟨g, 1, none⟩ = some (.string (bs kk)) := fun W hW => (hW.cell (p := ⟨g, 1, none⟩) hgl).trans c1
            have d2 : ∀ W, Below w1.heap.size w1 W → W.cell? ⟨g, 2, none⟩ = some (.string (bs d)) := fun W hW => (hW.cell (p := ⟨g, 2, none⟩) hgl).trans c2
            refine wp_region_mix (C := fun w' => Below w1.heap.size w1 w') 12 (by kernel_rfl) (by kernel_rfl) (fun _ _ d _ _ h => by cases d <;> exact h) (Below.refl _ _).drew ?_
            simp only [List.take_succ_cons, List.take_zero, List.drop_succ_cons, List.drop_zero]
            repeat (quiet_step (first | (intro _; rfl) | (intro hss; (first | rw [d0 _ hss] | rw [d1 _ hss] | rw [d2 _ hss]); exact ⟨rfl, rfl⟩)))
            refine wpQuiet_nil ?_
            intro w5 hb5
            have hs5 := hb5.size
            clear d0 d1 d2
            go_wp2_with (at_builtin; refine wpList_append_any _ rfl (.tmp 30) (.tmp 42) _ rfl (w.heap.size + 1) 79 i0 _ 3 40 Tryz.underlying72 hi hz0 hz1 hz2 hzs (by omega) _ pre.length _ rfl (own_later HO1.out (hb5.alloc hs5 _)) _ (some ⟨w5.heap.size, 0, none⟩) 1 1 [.string (bs n), .bool false, .string (bs d)] rfl (reads3_new _ _ _ _ _ _ rfl) (ec_cell [⟨n, false, d⟩]) (by simp only [maxLen]; omega) (by omega) (by simp; omega) ?_; intro v' w6 hown6 hg6 hat6)
            have b5 : Below w1.heap.size w1 (w5.alloc (.cells #[.string (bs n), .bool false, .string (bs d)] 79)) := hb5.alloc hs5 _
            have b6 : Below w.heap.size w w6 := Below.grown (b1.trans (b5.mono b1.size)) hg6 (by simp; omega) (fun g hg => by have := (HO1.out.lt g hg).1; omega)
            have HR6 : RqAt w6 w.heap.size nx := (hg6.block _ (by simp; omega) (fun e => by have := (HO1.out.lt _ e.symm).1; omega)).trans (heap_below b5 (by omega) HR1.out)
            go_roundw
            case rel => exact ⟨pre ++ [⟨n, false, d⟩], nx, by rw [ec_append, List.length_append]; exact hown6, HR6, N1.out, by rw [List.length_append, List.length_singleton]; omega, b6⟩
            case measure =>
              have : w6.cell? ⟨w.heap.size, 0, none⟩ = some (.string (bs nx.rest)) := (cell_heap HR6 0).trans rfl
              rw [MW.out]
              unfold restOf
              rw [this]
              show (bs nx.rest).size < _
              rw [bs_len]; omega
          · rw [if_neg k1, if_neg k2] at BAD
            have F := Lib.hid (BAD.out rfl)
            have e2 : ((bs kk).toList == [100]) = false := beq_eq_false_iff_ne.2 (lit_ne k1)
            have e4 : ((bs kk).toList == [102]) = false := beq_eq_false_iff_ne.2 (lit_ne k2)
            have e6 := lit_ne k1
            have e7 := lit_ne k2
            clear BAD NXT LESS k1 k2
            go_wp2_with (fail)
            exact F.out _ b1
      · have F := Lib.hid (BAD.out (entOf_none h3))
        obtain ⟨A, m, c, rfl⟩ := own_form hown1
        have hm : m = ts.length := by
          rcases hown1.2 with ⟨h1, h2⟩ | ⟨g, cap, gur, h1, _⟩
          · injection h1; omega
          · injection h1
        subst hm
        have n1 : ((ts.length : Int) != 3) = true := by simp; omega
        have n2 : ¬ ts.length = 3 := h3
        clear BAD NXT LESS hown1 h3
        go_wp2_with (fail)
        exact F.out _ b1
end Go.Proofs.YtlndnpfjneeeeaaGreatDoor.Fs
/- FsDown, what a claim needs of it (prune.py). -/
namespace Go.Proofs.YtlndnpfjneeeeaaGreatDoor.Fs
open Go.RowKit
set_option linter.unusedVariables false
set_option maxRecDepth 100000
theorem dw_past {w : World} {B : Nat} {e : TypeId} {size : Nat} {v : Value} {n : Nat} {xs : List Value} (h : w.ownsRow B e size v n xs) {g : Nat} (hg : g < B) (i : Nat) (u : Value) : (w.setCell ⟨g, i, none⟩ u).ownsRow B e size v n xs := by
  refine ⟨h.1, ?_⟩
  rcases h.2 with h0 | ⟨g', cap, cur, hv, hgg, hcc, h1, h2, h3, h4⟩
  · exact .inl h0
  · exact .inr ⟨g', cap, cur, hv, hgg, (heap_set_ne (by omega)).trans hcc, h1, h2, h3, h4⟩
theorem dw_form {w : World} {B n size : Nat} {e : TypeId} {v : Value} {xs : List Value} (h : w.ownsRow B e size v n xs) : ∃ A c, v = .slice A n c := by
  obtain ⟨A, m, c, rfl⟩ := own_form h
  rcases h.2 with ⟨h1, h2⟩ | ⟨g, cap, cur, h1, _⟩
  · injection h1 with _ h3 _
    exact ⟨A, c, by rw [h3, h2]⟩
  · injection h1 with _ h3 _
    exact ⟨A, c, by rw [h3]⟩
structure WdAt (W0 : World) (bk : Nat) (W : World) (v : Value) (s : Wk) : Prop where
  bw : Below W0.heap.size W0 W
  out : W.heap[W0.heap.size]? = some (.cells #[v] 25 (0, 0))
  dirs : W.heap[W0.heap.size + 1]? = some (.cells #[.int .i64 (s.dirs : Int)] 3 (0, 0))
  fn : W.heap[W0.heap.size + 2]? = some (.cells #[.func (.func 36) #[] #[.pointer (some ⟨W0.heap.size + 1, 0, none⟩), .pointer (some ⟨bk, 0, none⟩), .pointer (some ⟨W0.heap.size + 2, 0, none⟩), .pointer (some ⟨W0.heap.size, 0, none⟩)]] 63 (0, 0))
  row : W.ownsRow (W0.heap.size + 3) 75 2 v s.out.length (fc s.out)
structure KeepW (x : Nat) (v : Value) (W W' : World) (v' : Value) : Prop where
  os : W'.os = W.os
  tape : W'.tape = W.tape
  output : W'.output = W.output
  size : W.heap.size ≤ W'.heap.size
  block : ∀ b, b < W.heap.size → b ≠ x → b ≠ x + 1 → some b ≠ v.ownBlock → W'.heap[b]? = W.heap[b]?
  new : ∀ g, v'.ownBlock = some g → v.ownBlock = some g ∨ W.heap.size ≤ g
theorem KeepW.refl (x : Nat) (v : Value) (W : World) : KeepW x v W W v := ⟨rfl, rfl, rfl, Nat.le_refl _, fun _ _ _ _ _ => rfl, fun _ h => .inl h⟩
theorem KeepW.trans {x : Nat} {v v1 v2 : Value} {W W1 W2 : World} (h : KeepW x v W W1 v1) (k : KeepW x v1 W1 W2 v2) : KeepW x v W W2 v2 :=
  ⟨k.os.trans h.os, k.tape.trans h.tape, k.output.trans h.output, Nat.le_trans h.size k.size, fun b h1 h2 h3 h4 => (k.block b (Nat.lt_of_lt_of_le h1 h.size) h2 h3 (fun e => by
    rcases h.new b e.symm with h5 | h5
    · exact h4 h5.symm
    · omega)).trans (h.block b h1 h2 h3 h4), fun g hg => by
    rcases k.new g hg with h4 | h4
    · exact h.new g h4
    · exact .inr (Nat.le_trans h.size h4)⟩
theorem KeepW.of_below {x : Nat} {v : Value} {W W' : World} (h : Below W.heap.size W W') : KeepW x v W W' v := ⟨h.os, h.tape, h.output, h.size, fun b h1 _ _ _ => h.block b h1, fun _ h => .inl h⟩
theorem KeepW.below {x : Nat} {v v' : Value} {W W' : World} {n : Nat} {xs : List Value} (h : KeepW x v W W' v') (ho : W.ownsRow (x + 3) 75 2 v n xs) (hb : x ≤ W.heap.size) : Below x W W' :=
  ⟨h.os, h.tape, h.output, h.size, fun b hb' => h.block b (by omega) (by omega) (by omega) (fun e => by have := (ho.lt b e.symm).1; omega)⟩
def FarW {α : Type} (x : Nat) (v : Value) (W : World) (A : Option Addr) (l : List α) : Prop := 0 < l.length → ∀ ad, A = some ad → ad.block ≠ x ∧ ad.block ≠ x + 1 ∧ some ad.block ≠ v.ownBlock ∧ ad.block < W.heap.size
theorem FarW.keep {α : Type} {x : Nat} {v v' : Value} {W W' : World} {A : Option Addr} {l : List α} (h : FarW x v W A l) (k : KeepW x v W W' v') : FarW x v' W' A l := fun h0 ad e => by
  obtain ⟨h1, h2, h3, h4⟩ := h h0 ad e
  refine ⟨h1, h2, fun e2 => ?_, Nat.lt_of_lt_of_le h4 k.size⟩
  rcases k.new _ e2.symm with h5 | h5
  · exact h3 h5.symm
  · omega
theorem farw_ens {x : Nat} {v v' : Value} {W W' : World} {A : Option Addr} {l : List En} (h : Ens W A l) (hf : FarW x v W A l) (k : KeepW x v W W' v') : Ens W' A l :=
  ⟨h.1, fun hn => by
    obtain ⟨ad, e, hb, hc⟩ := h.2 hn
    obtain ⟨h1, h2, h3, h4⟩ := hf hn ad e
    exact ⟨ad, e, Nat.lt_of_lt_of_le h4 k.size, fun j u hu => (World.cell?_of_block (by rw [block_of_add]; exact k.block _ h4 h1 h2 h3)).trans (hc j u hu)⟩⟩
theorem farw_own {x : Nat} {v : Value} {W W' : World} {A : Option Addr} {l : List En} {B0 c m : Nat} {ys : List Value} (ho : W'.ownsRow B0 79 3 (.slice A l.length c) l.length (ec l)) (hB : W.heap.size ≤ B0) (hv : W.ownsRow (x + 3) 75 2 v m ys) (hbo : x + 1 < W.heap.size) : FarW x v W' A l := fun h0 ad e => by
  subst e
  obtain ⟨g, cap, hv2, hg, hlt⟩ := ho.form h0
  injection hv2 with hv2
  injection hv2 with hv2
  subst hv2
  refine ⟨by show g ≠ x; omega, by show g ≠ x + 1; omega, fun e2 => ?_, hlt⟩
  have := (hv.lt g e2.symm).2
  omega
theorem WdAt.keep {W0 W W' : World} {bk : Nat} {v : Value} {s : Wk} (h : WdAt W0 bk W v s) (hb : Below W.heap.size W W') : WdAt W0 bk W' v s :=
  ⟨h.bw.trans (hb.mono h.bw.size), heap_below hb (Lg.lt_heap h.out) h.out, heap_below hb (Lg.lt_heap h.dirs) h.dirs, heap_below hb (Lg.lt_heap h.fn) h.fn, own_later h.row hb⟩
theorem WdAt.count {W0 W : World} {bk : Nat} {v : Value} {s : Wk} (h : WdAt W0 bk W v s) (d : Nat) : WdAt W0 bk (W.setCell ⟨W0.heap.size + 1, 0, none⟩ (.int .i64 (d : Int))) v ⟨d, s.out⟩ ∧ KeepW W0.heap.size v W (W.setCell ⟨W0.heap.size + 1, 0, none⟩ (.int .i64 (d : Int))) v := by
  have hb := h.bw.size
  refine ⟨⟨h.bw.setCell (by show W0.heap.size ≤ W0.heap.size + 1; omega) _, (heap_set_ne (by omega)).trans h.out, heap_set h.dirs, (heap_set_ne (by omega)).trans h.fn, dw_past h.row (by omega) _ _⟩, ?_⟩
  exact ⟨by simp [World.setCell], by simp [World.setCell], by simp [World.setCell], by simp, fun b h1 h2 h3 h4 => Below.heap_setCell _ _ _ _ h3, fun g h => .inl h⟩
theorem WdAt.put {W0 W Wa W1 : World} {bk : Nat} {v v' : Value} {s : Wk} {f : Fl} (h : WdAt W0 bk W v s) (ha : Below W.heap.size W Wa) (hz : W.heap.size < Wa.heap.size) (hown : W1.ownsRow (W0.heap.size + 3) 75 2 v' (s.out.length + 1) (fc s.out ++ [.string f.p, .string f.d])) (hg : Wa.grownBy W1 v.ownBlock) (hat : v'.ownBlock = v.ownBlock ∨ v'.ownBlock = some Wa.heap.size) :
    WdAt W0 bk (W1.setCell ⟨W0.heap.size, 0, none⟩ v') v' ⟨s.dirs, s.out ++ [f]⟩ ∧ KeepW W0.heap.size v W (W1.setCell ⟨W0.heap.size, 0, none⟩ v') v' := by
  have hb := h.bw.size
  have ho := Lg.lt_heap h.out
  have hd := Lg.lt_heap h.dirs
  have hf := Lg.lt_heap h.fn
  have hsz := hg.size
  have keep : ∀ b, b < W.heap.size → some b ≠ v.ownBlock → W1.heap[b]? = W.heap[b]? := fun b h1 h2 => (hg.block b (by omega) h2).trans (ha.block b h1)
  have far : ∀ b, b < W0.heap.size + 3 → some b ≠ v.ownBlock := fun b h1 e => by have := (h.row.lt b e.symm).1; omega
  refine ⟨⟨?_, heap_set ((keep _ ho (far _ (by omega))).trans h.out), (heap_set_ne (by omega)).trans ((keep _ hd (far _ (by omega))).trans h.dirs), (heap_set_ne (by omega)).trans ((keep _ hf (far _ (by omega))).trans h.fn), ?_⟩, ?_⟩
  · exact (h.bw.trans ((ha.mono hb).grown hg (by have := ha.size; omega) (fun g e => by have := (h.row.lt g e).1; omega))).setCell (Nat.le_refl _) _
  · show (W1.setCell _ _).ownsRow _ _ _ _ (s.out ++ [f]).length (fc (s.out ++ [f]))
    rw [fc_append, List.length_append]
    exact dw_past hown (by omega) _ _
  · refine ⟨?_, ?_, ?_, ?_, fun b h1 h2 h3 h4 => (Below.heap_setCell _ _ _ _ h2).trans (keep b h1 h4), fun g hgg => ?_⟩
    · exact (show (W1.setCell _ _).os = W1.os from by simp [World.setCell]).trans (hg.os.trans ha.os)
    · exact (show (W1.setCell _ _).tape = W1.tape from by simp [World.setCell]).trans (hg.tape.trans ha.tape)
    · exact (show (W1.setCell _ _).output = W1.output from by simp [World.setCell]).trans (hg.output.trans ha.output)
    · simp; omega
    · rcases hat with h4 | h4
      · exact .inl (by rw [← h4]; exact hgg)
      · rw [h4] at hgg
        injection hgg with hgg
        exact .inr (by omega)
def WdSays (W0 : World) (bk : Nat) (r : Int × Wk) (W : World) (v : Value) (e : Ending) (w' : World) : Prop := e = .returned (.int .i64 r.1) ∧ ∃ v', WdAt W0 bk w' v' r.2 ∧ KeepW W0.heap.size v W w' v'
end Go.Proofs.YtlndnpfjneeeeaaGreatDoor.Fs
