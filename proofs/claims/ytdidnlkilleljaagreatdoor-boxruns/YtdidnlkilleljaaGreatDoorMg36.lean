/- Joined by mkmerged.py: BxSorted, BxDoes. -/
import Derived.Test.YtdidnlkilleljaaGreatDoorMg33
import Derived.Test.YtdidnlkilleljaaGreatDoorMg26
import Derived.Test.YtdidnlkilleljaaGreatDoorMg23
import Derived.Test.YtdidnlkilleljaaGreatDoorMg04
import Derived.Test.YtdidnlkilleljaaGreatDoorMg05
import Derived.Lib.Join
import Derived.Test.YtdidnlkilleljaaGreatDoorMg31
import Derived.Test.YtdidnlkilleljaaGreatDoorMg35
import Derived.Test.YtdidnlkilleljaaGreatDoorMg34
import Derived.StillTailTactics
/- BxSorted, what a claim needs of it (prune.py). -/
namespace Go.Proofs.YtdidnlkilleljaaGreatDoor.Bx
open Go.RowKit
open Fs (B Env tv)
set_option linter.unusedVariables false
set_option maxRecDepth 100000
theorem trim_eq (s : B) : Lib.trimSuffix s [10] = trim s := by
  unfold Lib.trimSuffix Lib.hasSuffix trim
  rcases List.eq_nil_or_concat s with rfl | ⟨l, a, rfl⟩
  · rfl
  · rw [List.concat_eq_append]
    by_cases h : a = 10
    · subst h
      rw [if_pos (by rw [List.isSuffixOf_iff_suffix]; exact ⟨l, rfl⟩), if_pos (by simp)]
      simp
    · rw [if_neg, if_neg (by simpa using h)]
      rw [Bool.not_eq_true, ← Bool.not_eq_true, List.isSuffixOf_iff_suffix]
      rintro ⟨t, ht⟩
      have := congrArg List.getLast? ht
      simp at this
      exact h this.symm
def midV (ps : List ByteArray) (k : Nat) : List Value := (ps.take k).map (fun x => Value.string (x ++ ⟨#[10]⟩)) ++ (ps.drop k).map Value.string
theorem mid_zero (ps : List ByteArray) : midV ps 0 = ps.map Value.string := by unfold midV; simp
theorem mid_at {ps : List ByteArray} {k : Nat} (hk : k < ps.length) : (midV ps k).toArray[k]? = some (.string ps[k]) := by
  unfold midV
  simp only [List.getElem?_toArray]
  rw [List.getElem?_append_right (by simp; omega)]
  simp only [List.length_map, List.length_take, Nat.min_eq_left (Nat.le_of_lt hk), Nat.sub_self, List.getElem?_map, List.getElem?_drop, Nat.add_zero, List.getElem?_eq_getElem hk]
  rfl
theorem mid_next {ps : List ByteArray} {k : Nat} (hk : k < ps.length) : (midV ps k).toArray.setIfInBounds k (.string (ps[k] ++ ⟨#[10]⟩)) = (midV ps (k + 1)).toArray := by
  apply Array.toList_inj.1
  rw [Array.toList_setIfInBounds]
  unfold midV
  simp only
  have hX : ((ps.take k).map fun x => Value.string (x ++ ⟨#[10]⟩)).length = k := by rw [List.length_map, List.length_take, Nat.min_eq_left (Nat.le_of_lt hk)]
  rw [List.set_append_right _ _ (by omega), hX, Nat.sub_self, List.drop_eq_getElem_cons hk, List.map_cons, List.set_cons_zero, List.take_succ_eq_append_getElem hk, List.map_append, List.append_assoc]
  rfl
theorem mid_all (ps : List ByteArray) : midV ps ps.length = (ps.map fun x => tl x ++ [10]).map tv := by
  unfold midV
  rw [List.take_length, List.drop_length, List.map_nil, List.append_nil, List.map_map]
  refine List.map_congr_left fun x _ => ?_
  show Value.string (x ++ ⟨#[10]⟩) = .string (bs (tl x ++ [10]))
  congr 1
theorem join_flat (l : List B) : Lib.join l [] = l.flatten := by
  unfold Lib.join
  induction l with
  | nil => rfl
  | cons a l ih =>
    cases l with
    | nil => simp
    | cons b r =>
      simp at ih ⊢
      first | done | exact ih
def MidRow (w W : World) (g : Nat) (ps : List ByteArray) (k : Nat) : Prop := W.heap[g]? = some (.cells (midV ps k).toArray 9 (0, 0)) ∧ Below w.heap.size w W
set_option maxHeartbeats 2000000 in
theorem sorted_any (s : ByteArray) (w : World) (hE : Env w) (hs : s.size ≤ 900000) :
    Calls Tryz.prog 119 #[.string s] w fun e w' => e = .returned (.string (bs (soB (tl s)))) ∧ Below w.heap.size w w' := by
  by_cases h0 : s = ⟨#[]⟩
  · subst h0
    have F : Hid (bs (soB (tl ⟨#[]⟩)) = ⟨#[]⟩) := Lib.hid (by kernel_rfl)
    go_enter Tryz.func119, Tryz.ntmps119
    go_wp2_with (fail)
    go_ret
    exact ⟨by rw [F.out]; rfl, Below.refl _ _⟩
  · have hne := Lg.s_ne h0
    have hsn : tl s ≠ [] := fun e => h0 (Lg.tl_inj e)
    obtain ⟨⟨mx, hm⟩, _⟩ := hE
    have hie : s.toList.isEmpty = false := by rw [Lib.toList_data]; simpa using hsn
    obtain ⟨t, ht⟩ : ∃ t, t = bs (trim (tl s)) := ⟨_, rfl⟩
    have htl : (trim (tl s)).length ≤ s.size := by
      unfold trim
      split
      · rw [List.length_dropLast, Fs.tl_len]; omega
      · rw [Fs.tl_len]; exact Nat.le_refl _
    have hts : t.size ≤ 900000 := by rw [ht, Fs.bs_len]; omega
    have TR : Hid (Calls Tryz.prog 171 #[.string s, .string ⟨#[10]⟩] w fun e w' => e = .returned (.string t) ∧ w = w') := Lib.hid ((Tryz.strings_TrimSuffix s ⟨#[10]⟩ w (by omega)).mono (by
      rintro e w' ⟨rfl, h2⟩
      refine ⟨?_, h2.symm⟩
      rw [ht, ← trim_eq]; rfl))
    have SP := Lib.hid (Lg.split_any t 10 mx w (by omega) hm)
    obtain ⟨ps, hps⟩ : ∃ ps, ps = Lg.pieces 10 t := ⟨_, rfl⟩
    have hpl : ps.length ≤ 900001 := by rw [hps]; have := Lg.pieces_len 10 t; omega
    have hpp : 0 < ps.length := by rw [hps]; exact List.length_pos_iff.2 (Lg.pieces_ne 10 t)
    have PZ : Hid (∀ p ∈ ps, p.size ≤ 900000) := Lib.hid (fun p hp => by rw [hps] at hp; have := Lg.pieces_part 10 t p hp; omega)
    have LN : Hid (linesB (tl s) = ps.map fun x => tl x ++ [10]) := Lib.hid (by
      unfold linesB
      rw [if_neg hsn, hps]
      unfold Lg.pieces
      rw [List.map_map, ht]
      rfl)
    rw [← hps] at SP
    clear hps ht htl h0 hsn
    obtain ⟨W1, eW⟩ : ∃ W1, W1 = w.alloc (.cells (ps.map Value.string).toArray 9) := ⟨_, rfl⟩
    have R0 : Hid (MidRow w W1 w.heap.size ps 0) := Lib.hid ⟨by rw [eW, mid_zero]; exact heap_alloc_new w _, by rw [eW]; exact (Below.refl _ _).alloc (Nat.le_refl _) _⟩
    rw [← eW] at SP
    clear eW
    go_enter Tryz.func119, Tryz.ntmps119
    go_wp2_with (first
      | (go_at_call 171; (with_reducible refine (TR.out).mono ?_); rintro e w1 ⟨rfl, rfl⟩)
      | (go_at_call 84; (with_reducible refine (SP.out).mono ?_); rintro e w2 ⟨rfl, rfl⟩))
    go_loopw [12] (fun i W => ∃ k : Nat, i = .int .i64 k ∧ k ≤ ps.length ∧ MidRow w W w.heap.size ps k) (fun i _ => ps.length - (intOf i).toNat)
    case atStart => exact ⟨0, rfl, by omega, R0.out⟩
    case round =>
      obtain ⟨k, rfl, hk, hh, hb⟩ := hrel
      have HB := Lib.hid hb
      have HH := Lib.hid hh
      clear hb R0 SP TR
      by_cases hlt : k < ps.length
      · have hkI : (k : Int) < (ps.length : Int) := by omega
        have c0 : wr.cell? ⟨w.heap.size, k, none⟩ = some (.string ps[k]) := (cell_heap hh k).trans (mid_at hlt)
        have f0 := frozen_heap hh k
        have hqz := PZ.out _ (List.getElem_mem hlt)
        have NX : Hid (∀ u, u = ps[k] ++ ⟨#[10]⟩ → MidRow w (wr.setCell ⟨w.heap.size, k, none⟩ (.string u)) w.heap.size ps (k + 1)) := Lib.hid fun u hu => ⟨by rw [hu, ← mid_next hlt]; exact heap_set hh, HB.out.setCell (p := ⟨w.heap.size, k, none⟩) (Nat.le_refl _) _⟩
        clear hh
        generalize ps[k] = q at *
        go_wp2_with (fail)
        go_roundw
        case rel => exact ⟨k + 1, by go_num, by omega, NX.out _ rfl⟩
        case measure => simp [intOf]; omega
      · obtain rfl : k = ps.length := by omega
        rw [mid_all, ← LN.out] at hh
        have hll : (linesB (tl s)).length = ps.length := by rw [LN.out, List.length_map]
        have hown : wr.ownsRow w.heap.size 9 1 (.slice (some ⟨w.heap.size, 0, none⟩) ps.length ps.length) ps.length ((linesB (tl s)).map tv) :=
          ⟨by rw [List.length_map]; omega, .inr ⟨w.heap.size, ps.length, _, rfl, Nat.le_refl _, hh, Nat.le_refl _, by unfold maxLen; omega, by simp; omega, by rw [List.take_of_length_le (by simp; omega)]⟩⟩
        have ST := Lib.hid (Fs.sort_any _ ps.length w.heap.size (linesB (tl s)) wr hown hll (by omega))
        have hsl : (sortL (linesB (tl s))).length = ps.length := by unfold sortL; rw [(List.mergeSort_perm _ _).length_eq]; exact hll
        have hfl : (sortL (linesB (tl s))).flatten.length ≤ s.size + 1 := by
          have := so_len (tl s)
          have h2 : (full (tl s)).length ≤ (tl s).length + 1 := by
            rw [full_eq]
            split
            · simp
            · split
              · omega
              · simp
          rw [Fs.tl_len] at h2
          show (soB (tl s)).length ≤ _
          omega
        have JN : Hid (∀ W, W.ownsRow w.heap.size 9 1 (.slice (some ⟨w.heap.size, 0, none⟩) ps.length ps.length) ps.length ((sortL (linesB (tl s))).map tv) → Calls Tryz.prog 109 #[.slice (some ⟨w.heap.size, 0, none⟩) ps.length ps.length, .string ⟨#[]⟩] W fun e w' => e = .returned (.string (bs (soB (tl s)))) ∧ Below W.heap.size W w') := Lib.hid fun W ho => by
          have hj : Lib.join (((sortL (linesB (tl s))).map bs).map (·.data.toList)) (⟨#[]⟩ : ByteArray).data.toList = soB (tl s) := by
            rw [List.map_map, show ((fun x : ByteArray => x.data.toList) ∘ bs) = id from rfl, List.map_id]
            exact join_flat _
          have := Tryz.strings_Join w.heap.size 0 ps.length ((sortL (linesB (tl s))).map bs) ⟨#[]⟩ W (fun i y hy => ?_) (ho.lt _ rfl).2 (by rw [List.length_map]; omega) (by rw [List.length_map]; omega) (by rw [hj]; show (sortL (linesB (tl s))).flatten.length ≤ _; omega)
          · rw [hj, List.length_map, hsl] at this
            exact this
          · rw [Nat.zero_add]
            have h2 := ho.cells (g := w.heap.size) rfl i (.string y) (by
              rw [List.getElem?_map] at hy
              cases hq : (sortL (linesB (tl s)))[i]? with
              | none => rw [hq] at hy; cases hy
              | some b =>
                rw [hq] at hy
                simp only [Option.map_some, Option.some.injEq] at hy
                rw [List.getElem?_map, hq, ← hy]; rfl)
            rwa [Lg.add_eq] at h2
        clear hown hh hsl hfl hll LN HH
        go_wp2_with (first
          | (go_at_call 90; (with_reducible refine (ST.out).mono ?_); rintro e w3 ⟨rfl, ho3, hg3⟩; have J3 := Lib.hid (JN.out _ ho3); have h3 := HB.out.grown hg3 HB.out.size (fun g hg => by simp [Value.ownBlock] at hg; omega); clear ho3 hg3)
          | (go_at_call 109; (with_reducible refine (J3.out).mono ?_); rintro e w4 ⟨rfl, hb4⟩))
        go_ret
        exact ⟨rfl, h3.trans (hb4.mono h3.size)⟩
end Go.Proofs.YtdidnlkilleljaaGreatDoor.Bx
/- BxDoes, what a claim needs of it (prune.py). -/
namespace Go.Proofs.YtdidnlkilleljaaGreatDoor.Bx
open Go.RowKit
open Lg (BelowX Lies strV pathOk textOk nameOk)
open Fs (fc fc_len fc_cell Fls Env B)
set_option linter.unusedVariables false
set_option maxRecDepth 100000
theorem does1_makes (w : World) : Makes 115 #[] id w := fun d W _ _ => by
  show Calls Tryz.prog 115 #[.string (bs d)] W _
  go_enter Tryz.func115, Tryz.ntmps115
  go_wp2
  go_ret
  exact ⟨rfl, Below.refl _ _⟩
theorem does2_makes (w : World) (g : Nat) (ad : Addr) (n c : Nat) (y : B) (hc : w.cell? ⟨g, 0, none⟩ = some (.slice (some ad) n c)) (hn : 1 < n) (hy : w.cell? (ad.add 1) = some (.string (bs y))) (hz : y.length ≤ 1000) : Makes 117 #[.pointer (some ⟨g, 0, none⟩)] (fun _ => y ++ [10]) w := fun d W _ hb => by
  have h1 : W.cell? ⟨g, 0, none⟩ = some (.slice (some ad) n c) := (hb.cell (p := ⟨g, 0, none⟩) (Fs.cell_lt hc)).trans hc
  have h2 : W.cell? ⟨ad.block, ad.off + 1, none⟩ = some (.string (bs y)) := (hb.cell (Fs.cell_lt hy)).trans hy
  have i1 : (1 : Int) < (n : Int) := by omega
  have hs : (bs y).size ≤ 1000 := by rw [Fs.bs_len]; exact hz
  have F : Hid (bs (y ++ [10]) = bs y ++ ⟨#[10]⟩) := Lib.hid (Lg.tl_inj (by
    show y ++ [10] = (bs y ++ ⟨#[10]⟩ : ByteArray).data.toList
    rw [ByteArray.data_append]; simp [bs]))
  show Calls Tryz.prog 117 #[.string (bs d), .pointer (some ⟨g, 0, none⟩)] W _
  rw [F.out]
  clear hc hy hb hz
  generalize bs y = q at *
  go_enter Tryz.func117, Tryz.ntmps117
  go_wp2_with (fail)
  go_ret
  exact ⟨rfl, Below.refl _ _⟩
theorem upper_makes (w : World) : Makes 118 #[] upB w := fun d W hd _ => upper_any (bs d) W (by rw [Fs.bs_len]; omega)
theorem sorted_makes {b : Nat} {w : World} (hE : EnvB b w) : Makes 119 #[] soB w := fun d W hd hb => sorted_any (bs d) W (hE.on hb).env (by rw [Fs.bs_len]; omega)
theorem so_le (d : B) : (soB d).length ≤ d.length + 1 := by
  rw [so_len, full_eq]
  split
  · simp
  · split
    · omega
    · simp
theorem path_le {x : B} (h : pathOk x = true) : x.length ≤ 48 := by
  unfold Lg.pathOk at h
  simp only [Bool.and_eq_true, decide_eq_true_eq] at h
  exact h.1.2
theorem text_le {x : B} (h : textOk x = true) : x.length ≤ 32 := by
  unfold Lg.textOk at h
  simp only [Bool.and_eq_true, decide_eq_true_eq] at h
  exact h.1.2
theorem name_le {x : B} (h : nameOk x = true) : x.length ≤ 16 := by
  unfold Lg.nameOk at h
  simp only [Bool.and_eq_true, decide_eq_true_eq] at h
  exact h.1.2
theorem step_le {o : Int} {a : List B} (h : StepR o a) : ∀ x ∈ a, x.length ≤ 48 := by
  intro x hx
  unfold StepR at h
  have all1 : ∀ {q : B → Bool} {l : List B}, l.all q = true → x ∈ l → q x = true := fun h1 h2 => List.all_eq_true.1 h1 x h2
  rcases h with h | h | h | h | h | h | h
  · rcases List.mem_append.1 (show x ∈ a.take 1 ++ a.drop 1 by rw [List.take_append_drop]; exact hx) with h1 | h1
    · exact path_le (all1 h.2.2.1 h1)
    · have := text_le (all1 h.2.2.2 h1); omega
  · exact path_le (all1 h.2.2 hx)
  · exact path_le (all1 h.2.2.2 hx)
  · exact path_le (all1 h.2.2 hx)
  · have := name_le (all1 h.2.2 hx); omega
  · have := text_le (all1 h.2.2 hx); omega
  · rw [h.2] at hx; cases hx
theorem step_get {o : Int} {a : List B} (h : StepR o a) (k : Nat) : (a.getD k []).length ≤ 48 := by
  rcases Nat.lt_or_ge k a.length with h1 | h1
  · rw [List.getD_eq_getElem?_getD, List.getElem?_eq_getElem h1]
    exact step_le h _ (List.getElem_mem h1)
  · rw [List.getD_eq_getElem?_getD, List.getElem?_eq_none h1]; simp
theorem Doing.go {w W : World} {b fu : Nat} {N : Option Addr} {nn nc : Nat} {names : List B} {s s' : St} {Ab : Option Addr} {nb cb : Nat} {f : St → St} (h : Doing w b fu N nn nc names s Ab nb cb f) (hX : BelowX w.heap.size b w W) (h1 : Fine (fun _ => True) s') (h2 : over s' = false) (h3 : s'.used ≤ fu) : Doing W b fu N nn nc names s' Ab nb cb f :=
  ⟨h.env.onX hX, h1, h2, h3, h.fu1, h.fu2, h.nms.mono (by decide) fun k hk hs => ⟨hk, hX.block k hs hk⟩, h.nml, h.nmz, fun V s'' hV => h.blk V s'' (hX.trans (hV.mono hX.size)), h.fair, h.keep⟩
theorem spend_spent {fu : Nat} {s : St} {k : St → St} (h : ¬ fu < s.used + 1) : spend fu 1 k s = k { s with used := s.used + 1 } := by unfold spend; rw [if_neg h]
theorem lies_drop {w : World} {ok : Nat → Prop} {ad : Addr} {a : List B} (h : Lies w ok 1 (some ad) a.length (strV a)) : Lies w ok 1 (some (ad.add 1)) (a.length - 1) (strV (a.drop 1)) := by
  refine ⟨by simp, fun h0 => ?_⟩
  obtain ⟨ad', e, ho, hc⟩ := h.2 (by omega)
  injection e with e
  subst e
  refine ⟨_, rfl, by rw [block_of_add]; exact ho, fun j u hu => ?_⟩
  rw [add_of_add]
  refine hc _ _ ?_
  rw [List.getElem?_map, List.getElem?_drop] at hu
  rw [List.getElem?_map]
  exact hu
theorem lies_one {w : World} {ok : Nat → Prop} {A : Option Addr} {a : List B} (h : Lies w ok 1 A a.length (strV a)) (h0 : 0 < a.length) : Lies w ok 1 A 1 (strV (a.take 1)) := by
  refine ⟨by simp; omega, fun _ => ?_⟩
  obtain ⟨ad', e, ho, hc⟩ := h.2 h0
  refine ⟨_, e, ho, fun j u hu => hc _ _ ?_⟩
  rw [List.getElem?_map, List.getElem?_take] at hu
  rw [List.getElem?_map]
  split at hu
  · exact hu
  · cases hu
set_option maxHeartbeats 8000000 in
theorem does_any {w : World} {b fu : Nat} {N A : Option Addr} {nn nc c : Nat} {names : List B} {s : St} {Ab : Option Addr} {nb cb : Nat} {f : St → St} (hD : Doing w b fu N nn nc names s Ab nb cb f) (h : StAt w b fu N nn nc A c s)
    (o n : Int) (a : List B) (Aa : Option Addr) (ca : Nat) (hargs : Lies w (fun k => k ≠ b) 1 Aa a.length (strV a)) (hca : a.length ≤ ca) (hsr : StepR o a) (hn63 : n ≤ 9223372036854775807) :
    Calls Tryz.prog 66 #[.pointer (some ⟨b, 0, none⟩), .agg #[.int .i64 o, .slice Aa a.length ca, .int .i64 n, .slice Ab nb cb]] w (Went b fu N nn nc w (does fu withF withoutF names upB soB o a n f s)) := by
  have hbw := lt_heap h.blk
  obtain ⟨W1, eW1⟩ : ∃ W1, W1 = w.alloc (.cells #[.int .i64 o, .slice Aa a.length ca, .int .i64 n, .slice Ab nb cb] 61) := ⟨_, rfl⟩
  have hb1 : Below w.heap.size w W1 := by rw [eW1]; exact (Below.refl _ _).alloc (Nat.le_refl _) _
  have hz1 : W1.heap.size = w.heap.size + 1 := by rw [eW1]; simp
  have q1 : W1.heap[w.heap.size]? = some (.cells #[.int .i64 o, .slice Aa a.length ca, .int .i64 n, .slice Ab nb cb] 61 (0, 0)) := by rw [eW1]; exact heap_alloc_new w _
  obtain ⟨W2, eW2⟩ : ∃ W2, W2 = W1.alloc (.cells #[.slice Aa a.length ca] 24) := ⟨_, rfl⟩
  have hb12 : Below W1.heap.size W1 W2 := by rw [eW2]; exact (Below.refl _ _).alloc (Nat.le_refl _) _
  have hb2 : Below w.heap.size w W2 := hb1.trans (hb12.mono hb1.size)
  have hz2 : W2.heap.size = w.heap.size + 2 := by rw [eW2]; simp; omega
  have q2 : W2.heap[w.heap.size + 1]? = some (.cells #[.slice Aa a.length ca] 24 (0, 0)) := by rw [eW2, ← hz1]; exact heap_alloc_new W1 _
  have q12 : W2.heap[w.heap.size]? = some (.cells #[.int .i64 o, .slice Aa a.length ca, .int .i64 n, .slice Ab nb cb] 61 (0, 0)) := heap_below hb12 (by omega) q1
  have H2 : Hid (∀ W, Below W2.heap.size W2 W → StAt W b fu N nn nc A c s ∧ EnvB b W ∧ Lies W (fun k => k ≠ b) 1 Aa a.length (strV a)) := Lib.hid fun W hW => by
    have hw : Below w.heap.size w W := hb2.trans (hW.mono hb2.size)
    exact ⟨h.keep hw, hD.env.on hw, hargs.mono (by decide) fun k hk hs => ⟨hk, hw.block k hs⟩⟩
  have Y0 : Hid (∀ W, BelowX W2.heap.size b W2 W → W.cell? ⟨w.heap.size, 0, none⟩ = some (.int .i64 o) ∧ W.cell? ⟨w.heap.size, 1, none⟩ = some (.slice Aa a.length ca) ∧ W.cell? ⟨w.heap.size, 2, none⟩ = some (.int .i64 n) ∧ W.cell? ⟨w.heap.size, 3, none⟩ = some (.slice Ab nb cb) ∧ W.cell? ⟨w.heap.size + 1, 0, none⟩ = some (.slice Aa a.length ca)) := Lib.hid fun W hW => by
    have e1 := (hW.block w.heap.size (by omega) (by omega)).trans q12
    have e2 := (hW.block (w.heap.size + 1) (by omega) (by omega)).trans q2
    exact ⟨(cell_heap e1 0).trans rfl, (cell_heap e1 1).trans rfl, (cell_heap e1 2).trans rfl, (cell_heap e1 3).trans rfl, (cell_heap e2 0).trans rfl⟩
  have WB := Lib.hid (fun W (hW : BelowX W2.heap.size b W2 W) => (BelowX.of hb2).trans (hW.mono hb2.size))
  have WENT := Lib.hid (fun (t : St) e W w' (hW : BelowX W2.heap.size b W2 W) (hh : Went b fu N nn nc W t e w') => Went.after (WB.out W hW) hh)
  have hmf : ∀ (fn : Fn) (first cap : Array Value) (w : World), (Instr.makeFunc fn first cap).run Tryz.prog w = .ok (.func fn first cap) w := fun _ _ _ _ => rfl
  have hu := hD.used
  have hfu := hD.fu2
  have hR := hD.fine.files
  have SG := Lib.hid (step_get hsr)
  rw [eW1] at eW2
  by_cases ho6 : 6 ≤ o
  · have L := Lib.hid (does_light (fu := fu) (names := names) (up := upB) (so := soB) (a := a) (n := n) (f := f) (s := s) ho6)
    have m1 : ¬ o = 1 := by omega
    have m2 : ¬ o = 2 := by omega
    have m3 : ¬ o = 3 := by omega
    have m4 : ¬ o = 4 := by omega
    have m5 : ¬ o = 5 := by omega
    by_cases hn : fu < s.used + 1
    · have SP : Hid (Calls Tryz.prog 120 #[.pointer (some ⟨b, 0, none⟩), .int .i64 1] W2 (Spent b fu N nn nc W2 (dry fu s) false)) := Lib.hid (spend_no (H2.out W2 (Below.refl _ _)).1 1 hn hu hfu (by omega))
      have EN : Hid (∀ W, StM W b fu N nn nc (dry fu s) → BelowX W2.heap.size b W2 W → Went b fu N nn nc w (does fu withF withoutF names upB soB o a n f s) (.returned (.tuple #[])) W) := Lib.hid fun W h1 h2 => by
        rw [L.out]
        unfold spend
        rw [if_pos hn]
        exact WENT.out _ _ W2 _ (BelowX.refl _ _ _) ⟨rfl, h1, h2⟩
      clear L hn hD h hargs hca hsr ho6 q1 q12 q2 hb1 hb12 hb2 eW1 hu hfu hR
      generalize Went b fu N nn nc w (does fu withF withoutF names upB soB o a n f s) = Q at *
      go_enter Tryz.func66, Tryz.ntmps66
      go_wp2_with (go_at_call 120; rw [← eW2]; clear eW2; (with_reducible refine (SP.out).mono ?_); rintro e w2 ⟨rfl, h2, h3⟩)
      go_end0
      exact EN.out _ h2 h3
    · have SP : Hid (Calls Tryz.prog 120 #[.pointer (some ⟨b, 0, none⟩), .int .i64 1] W2 (Spent b fu N nn nc W2 { s with used := s.used + 1 } true)) := Lib.hid (spend_yes (H2.out W2 (Below.refl _ _)).1 1 hn hfu)
      have hfine : Fine (fun _ => True) { s with used := s.used + 1 } := ⟨hD.fine.files, .inl (hD.fine.zero hD.on)⟩
      have LI : Hid (∀ W, StM W b fu N nn nc { s with used := s.used + 1 } → BelowX W2.heap.size b W2 W → Calls Tryz.prog 121 #[.pointer (some ⟨b, 0, none⟩), .agg #[.int .i64 o, .slice Aa a.length ca, .int .i64 n, .slice Ab nb cb]] W (Went b fu N nn nc W (lightP names o a n f { s with used := s.used + 1 }))) := Lib.hid fun W ⟨A2, c2, hst⟩ hX => by
        have hwX := WB.out W hX
        exact light_any (hD.go hwX hfine hD.on (by show s.used + 1 ≤ fu; omega)) hst o n a Aa ca (hargs.mono (by decide) fun k hk hs => ⟨hk, hwX.block k hs hk⟩) hca hsr (by have := SG.out 0; omega) hn63 ho6
      have EN : Hid (∀ e W, BelowX W2.heap.size b W2 W → ∀ w', Went b fu N nn nc W (lightP names o a n f { s with used := s.used + 1 }) e w' → Went b fu N nn nc w (does fu withF withoutF names upB soB o a n f s) e w') := Lib.hid fun e W hX w' hh => by
        rw [L.out, spend_spent hn]
        exact WENT.out _ _ W _ hX hh
      clear L hn hD h hargs hca hsr ho6 q1 q12 q2 hb1 hb12 hb2 eW1 hu hfu hR hfine
      generalize Went b fu N nn nc w (does fu withF withoutF names upB soB o a n f s) = Q at *
      go_enter Tryz.func66, Tryz.ntmps66
      go_wp2_with (first
        | (go_at_call 120; rw [← eW2]; clear eW2; (with_reducible refine (SP.out).mono ?_); rintro e w2 ⟨rfl, h2, h3⟩; obtain ⟨y0, y1, y2, y3, y4⟩ := Y0.out _ h3; have L2 := Lib.hid (LI.out _ h2 h3); clear h2)
        | (go_at_call 121; (with_reducible refine (L2.out).mono ?_); rintro e w3 ⟨rfl, h4, h5⟩))
      go_end0
      exact EN.out _ _ h3 _ ⟨rfl, h4, h5⟩
  · have hcases : (o = 1 ∧ a.length = 2) ∨ (o = 2 ∧ a.length = 2) ∨ (o = 3 ∧ 2 ≤ a.length ∧ a.length ≤ 8) ∨ (o = 4 ∧ a.length = 1) ∨ (o = 5 ∧ a.length = 1) := by
      unfold StepR at hsr
      rcases hsr with h | h | h | h | h | h | h
      · exact .inl ⟨h.1, h.2.1⟩
      · exact .inr (.inl ⟨h.1, h.2.1⟩)
      · exact .inr (.inr (.inl ⟨h.1, h.2.1, h.2.2.1⟩))
      · rcases h with ⟨h | h | h | h, h2, _⟩
        · exact .inr (.inr (.inr (.inl ⟨h, h2⟩)))
        · exact .inr (.inr (.inr (.inr ⟨h, h2⟩)))
        · omega
        · omega
      · omega
      · omega
      · omega
    have ha0 : 0 < a.length := by omega
    obtain ⟨ad, rfl, e2, e3, e4⟩ := word_at hargs rfl ha0
    have HX0 : Hid (∀ W, Below W2.heap.size W2 W → W.cell? ad = some (.string (bs (a.getD 0 [])))) := Lib.hid fun W hW => ((WB.out W (.of hW)).cell e3 e2).trans e4
    have HX1 : Hid (1 < a.length → ∀ W, Below W2.heap.size W2 W → W.cell? ⟨ad.block, ad.off + 1, none⟩ = some (.string (bs (a.getD 1 [])))) := Lib.hid fun h1 W hW => by
      obtain ⟨ad', e, f2, f3, f4⟩ := word_at hargs rfl h1
      injection e with e
      subst e
      exact ((WB.out W (.of hW)).cell (p := ad.add 1) (by rw [block_of_add]; exact f3) (by rw [block_of_add]; exact f2)).trans f4
    have hx0 := HX0.out W2 (Below.refl _ _)
    have i0 : (0 : Int) < (a.length : Int) := by omega
    have WR : Hid (∀ (p : B) (R : Option Addr) (rs : List B) (rc gf : Nat) (lb : Array Value) (mk : B → B) (W : World), Below W2.heap.size W2 W → Lies W (fun k => k ≠ b) 1 R rs.length (strV rs) → rs.length ≤ 8 → (∀ args w, (callFunc gf args).run Tryz.prog w = .ok (.enter gf args) w) → Makes gf lb mk W → (∀ d : B, d.length ≤ 30000 → (mk d).length ≤ 40000) →
        does fu withF withoutF names upB soB o a n f s = writes fu withF p rs mk s → Calls Tryz.prog 116 #[.pointer (some ⟨b, 0, none⟩), .string (bs p), .slice R rs.length rc, .func (.func gf) #[] lb] W (Went b fu N nn nc w (does fu withF withoutF names upB soB o a n f s))) := Lib.hid fun p R rs rc gf lb mk W hW hr hrs eg hmk hml hdo => by
      rw [hdo]
      exact (writes_any (H2.out W hW).2.1 (H2.out W hW).1 hR hu hfu p R rs rc hr hrs gf lb eg mk hmk hml).mono fun e w' hh => WENT.out _ e W w' (.of hW) hh
    have NIL : Hid (∀ W : World, Lies W (fun k => k ≠ b) 1 none ([] : List B).length (strV [])) := Lib.hid fun W => Lies.none_
    have hdB : Below W2.heap.size W2 W2.drew := (Below.refl _ _).drew
    have LD := Lib.hid (fun W (hW : Below W2.heap.size W2 W) => (H2.out W hW).2.2)
    have EB := Lib.hid (fun W (hW : Below W2.heap.size W2 W) => (H2.out W hW).2.1)
    have G1 := Lib.hid (Y0.out W2 (BelowX.refl _ _ _)).2.2.2.2
    clear hD h hargs q1 q12 q2 hb1 hb12 hb2 eW1 H2 Y0 WENT WB
    rcases hcases with ⟨rfl, ha⟩ | ⟨rfl, ha⟩ | ⟨rfl, ha, ha8⟩ | ⟨rfl, ha⟩ | ⟨rfl, ha⟩
    · have C1 : Hid (Calls Tryz.prog 116 #[.pointer (some ⟨b, 0, none⟩), .string (bs (a.getD 0 [])), .slice none 0 0, .func (.func 117) #[] #[.pointer (some ⟨w.heap.size + 1, 0, none⟩)]] W2 (Went b fu N nn nc w (does fu withF withoutF names upB soB 1 a n f s))) := Lib.hid
        (WR.out (a.getD 0 []) none [] 0 117 #[.pointer (some ⟨w.heap.size + 1, 0, none⟩)] (fun _ => a.getD 1 [] ++ [10]) W2 (Below.refl _ _) (NIL.out W2) (by simp) (enters_of Tryz.func117 (by kernel_rfl) rfl)
          (does2_makes W2 (w.heap.size + 1) ad a.length ca (a.getD 1 []) G1.out (by omega) (HX1.out (by omega) W2 (Below.refl _ _)) (by have := SG.out 1; omega)) (fun d _ => by have := SG.out 1; show (a.getD 1 [] ++ [10]).length ≤ 40000; rw [List.length_append, List.length_singleton]; omega) does_put)
      rw [eW2] at hx0
      rw [eW2] at C1
      clear ha WR HX0 HX1 LD EB
      generalize does fu withF withoutF names upB soB 1 a n f s = t at *
      generalize a.getD 0 [] = q at *
      go_enter Tryz.func66, Tryz.ntmps66
      go_wp2_with (go_at_call 116; (with_reducible refine (C1.out).mono ?_); rintro e w2 ⟨rfl, h2, h3⟩)
      go_end0
      exact ⟨rfl, h2, h3⟩
    · have C1 : Hid (Calls Tryz.prog 116 #[.pointer (some ⟨b, 0, none⟩), .string (bs (a.getD 1 [])), .slice (some ad) 1 ca, .func (.func 115) #[] #[]] W2.drew (Went b fu N nn nc w (does fu withF withoutF names upB soB 2 a n f s))) := Lib.hid (by
        have hl : (a.take 1).length = 1 := by simp; omega
        have := WR.out (a.getD 1 []) (some ad) (a.take 1) ca 115 #[] id W2.drew hdB (by rw [hl]; exact lies_one (LD.out _ hdB) ha0) (by omega) (enters_of Tryz.func115 (by kernel_rfl) rfl)
          (does1_makes _) (fun d hd => by show d.length ≤ 40000; omega) does_copy
        rw [hl] at this
        exact this)
      have hx1 := HX1.out (by omega) W2 (Below.refl _ _)
      have g1 := G1.out
      have i1 : (1 : Int) < (a.length : Int) := by omega
      have j1 : (1 : Int) ≤ (a.length : Int) := by omega
      have j2 : (1 : Int) ≤ (ca : Int) := by omega
      have j3 : 1 ≤ ca := by omega
      clear ha WR HX0 HX1 LD EB
      generalize does fu withF withoutF names upB soB 2 a n f s = t at *
      generalize a.getD 0 [] = q at *
      generalize a.getD 1 [] = q1 at *
      go_enter Tryz.func66, Tryz.ntmps66
      go_wp2_with (fail)
      rw [← eW2]
      clear eW2
      go_still_tail 7, (by kernel_rfl)
      go_wp2_with (go_at_call 116; (with_reducible refine (C1.out).mono ?_); rintro e w2 ⟨rfl, h2, h3⟩)
      go_end0
      exact ⟨rfl, h2, h3⟩
    · have C1 : Hid (Calls Tryz.prog 116 #[.pointer (some ⟨b, 0, none⟩), .string (bs (a.getD 0 [])), .slice (some ⟨ad.block, ad.off + 1, none⟩) (a.length - 1) (ca - 1), .func (.func 115) #[] #[]] W2.drew (Went b fu N nn nc w (does fu withF withoutF names upB soB 3 a n f s))) := Lib.hid (by
        have hl : (a.drop 1).length = a.length - 1 := by simp
        have := WR.out (a.getD 0 []) (some (ad.add 1)) (a.drop 1) (ca - 1) 115 #[] id W2.drew hdB (by rw [hl]; exact lies_drop (LD.out _ hdB)) (by omega) (enters_of Tryz.func115 (by kernel_rfl) rfl)
          (does1_makes _) (fun d hd => by show d.length ≤ 40000; omega) does_cat
        rw [hl] at this
        exact this)
      have g1 := G1.out
      have i1 : (1 : Int) < (a.length : Int) := by omega
      have j1 : (1 : Int) ≤ (a.length : Int) := by omega
      have j2 : (1 : Int) ≤ (ca : Int) := by omega
      have j3 : 1 ≤ a.length := by omega
      have j4 : ¬ ca = 1 := by omega
      clear ha WR HX0 HX1 LD EB
      generalize does fu withF withoutF names upB soB 3 a n f s = t at *
      generalize a.getD 0 [] = q at *
      go_enter Tryz.func66, Tryz.ntmps66
      go_wp2_with (fail)
      rw [← eW2]
      clear eW2
      go_still_tail 7, (by kernel_rfl)
      go_wp2_with (go_at_call 116; (with_reducible refine (C1.out).mono ?_); rintro e w2 ⟨rfl, h2, h3⟩)
      go_end0
      exact ⟨rfl, h2, h3⟩
    · have C1 : Hid (Calls Tryz.prog 116 #[.pointer (some ⟨b, 0, none⟩), .string (bs (a.getD 0 [])), .slice (some ad) a.length ca, .func (.func 118) #[] #[]] W2.drew (Went b fu N nn nc w (does fu withF withoutF names upB soB 4 a n f s))) := Lib.hid
        (WR.out (a.getD 0 []) (some ad) a ca 118 #[] upB W2.drew hdB (LD.out _ hdB) (by omega) (enters_of Tryz.func118 (by kernel_rfl) rfl)
          (upper_makes _) (fun d hd => by rw [upB_len]; omega) does_up)
      have g1 := G1.out
      clear ha WR HX0 HX1 LD EB
      generalize does fu withF withoutF names upB soB 4 a n f s = t at *
      generalize a.getD 0 [] = q at *
      go_enter Tryz.func66, Tryz.ntmps66
      go_wp2_with (fail)
      rw [← eW2]
      clear eW2
      go_still_tail 5, (by kernel_rfl)
      go_wp2_with (go_at_call 116; (with_reducible refine (C1.out).mono ?_); rintro e w2 ⟨rfl, h2, h3⟩)
      go_end0
      exact ⟨rfl, h2, h3⟩
    · have C1 : Hid (Calls Tryz.prog 116 #[.pointer (some ⟨b, 0, none⟩), .string (bs (a.getD 0 [])), .slice (some ad) a.length ca, .func (.func 119) #[] #[]] W2.drew (Went b fu N nn nc w (does fu withF withoutF names upB soB 5 a n f s))) := Lib.hid
        (WR.out (a.getD 0 []) (some ad) a ca 119 #[] soB W2.drew hdB (LD.out _ hdB) (by omega) (enters_of Tryz.func119 (by kernel_rfl) rfl)
          (sorted_makes (EB.out _ hdB)) (fun d hd => by have := so_le d; omega) does_so)
      have g1 := G1.out
      clear ha WR HX0 HX1 LD EB
      generalize does fu withF withoutF names upB soB 5 a n f s = t at *
      generalize a.getD 0 [] = q at *
      go_enter Tryz.func66, Tryz.ntmps66
      go_wp2_with (fail)
      rw [← eW2]
      clear eW2
      go_still_tail 5, (by kernel_rfl)
      go_wp2_with (go_at_call 116; (with_reducible refine (C1.out).mono ?_); rintro e w2 ⟨rfl, h2, h3⟩)
      go_end0
      exact ⟨rfl, h2, h3⟩
end Go.Proofs.YtdidnlkilleljaaGreatDoor.Bx
