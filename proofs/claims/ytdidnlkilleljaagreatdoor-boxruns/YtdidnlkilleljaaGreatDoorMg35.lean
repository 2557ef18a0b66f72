/- Joined by mkmerged.py: RxLines, BxOut. -/
import Derived.Test.YtdidnlkilleljaaGreatDoorMg34
import Derived.Test.YtdidnlkilleljaaGreatDoorMg23
import Derived.Test.YtdidnlkilleljaaGreatDoorMg05
import Derived.Test.YtdidnlkilleljaaGreatDoorMg29
import Derived.Test.YtdidnlkilleljaaGreatDoorMg27
import Derived.IntWalk
import Derived.Laws.Cover1
import Derived.Test.YtdidnlkilleljaaGreatDoorMg30
import Derived.Test.YtdidnlkilleljaaGreatDoorMg33
/- RxLines, what a claim needs of it (prune.py). -/
namespace Go.Proofs.YtdidnlkilleljaaGreatDoor.Bx
open Go.RowKit
open Fs (B)
open Lg (strV)
set_option linter.unusedVariables false
set_option maxRecDepth 100000
structure LInv (s : ByteArray) (done : List B) (at_ k : Nat) : Prop where
  le : at_ ≤ k
  kl : k ≤ s.size
  all : scan [] (tl s) = done ++ (if k < s.size then scan ((tl s).take k |>.drop at_) ((tl s).drop k) else [])
  sz : done.length ≤ k
  len : ∀ x ∈ done, x.length ≤ s.size + 1
  tot : done.flatten.length + (if k < s.size then 1 else 0) ≤ at_ + 1
theorem LInv.zero (s : ByteArray) : LInv s [] 0 0 := ⟨Nat.le_refl _, Nat.zero_le _, by
  by_cases h : 0 < s.size
  · rw [if_pos h]; simp
  · rw [if_neg h]
    have : tl s = [] := List.eq_nil_of_length_eq_zero (by rw [Fs.tl_len]; omega)
    rw [this]; rfl, Nat.le_refl _, by simp, by simp; split <;> omega⟩
theorem tl_drop {s : ByteArray} {k : Nat} (hk : k < s.size) : (tl s).drop k = s[k] :: (tl s).drop (k + 1) := by
  have h : k < (tl s).length := by rw [Fs.tl_len]; exact hk
  rw [List.drop_eq_getElem_cons h]
  rfl
theorem take_next {s : ByteArray} {at_ k : Nat} (hk : k < s.size) (ha : at_ ≤ k) : ((tl s).take (k + 1)).drop at_ = ((tl s).take k).drop at_ ++ [s[k]] := by
  have h : k < (tl s).length := by rw [Fs.tl_len]; exact hk
  rw [List.take_succ_eq_append_getElem h, List.drop_append_of_le_length (by simp; omega)]
  rfl
theorem LInv.on {s : ByteArray} {done : List B} {at_ k : Nat} (h : LInv s done at_ k) (hk : k + 1 < s.size) (hc : s[k]'(by omega) ≠ 10) : LInv s done at_ (k + 1) := ⟨by have := h.le; omega, by omega, by
  rw [h.all, if_pos (by omega), if_pos hk, tl_drop (show k < s.size by omega), scan, if_neg hc, take_next (by omega) h.le], by have := h.sz; omega, h.len, by
  have h1 := h.tot
  rw [if_pos (by omega)] at h1
  rw [if_pos hk]; exact h1⟩
theorem scan_nil_if (s : ByteArray) (k : Nat) (hk : k ≤ s.size) : (if k < s.size then scan (((tl s).take k).drop k) ((tl s).drop k) else []) = scan [] ((tl s).drop k) := by
  by_cases h : k < s.size
  · rw [if_pos h, List.drop_eq_nil_of_le (by simp; omega)]
  · rw [if_neg h, List.drop_eq_nil_of_le (by rw [Fs.tl_len]; omega)]; rfl
theorem LInv.end_ {s : ByteArray} {done : List B} {at_ k : Nat} (h : LInv s done at_ k) (hk : k < s.size) (hc : s[k] = 10) : LInv s (done ++ [((tl s).take (k + 1)).drop at_]) (k + 1) (k + 1) := ⟨Nat.le_refl _, hk, by
  rw [h.all, if_pos hk, tl_drop hk, scan, if_pos hc, scan_nil_if s (k + 1) hk, take_next hk h.le, hc]; simp, by
  have := h.sz; simp; omega, fun x hx => by
  rcases List.mem_append.1 hx with hx | hx
  · exact h.len x hx
  · rw [List.mem_singleton.1 hx]; simp; omega, by
  have h1 := h.tot
  rw [if_pos (by omega)] at h1
  have h2 := h.le
  rw [List.flatten_append, List.length_append]
  have : ([((tl s).take (k + 1)).drop at_].flatten).length = k + 1 - at_ := by simp; omega
  split <;> omega⟩
theorem LInv.last {s : ByteArray} {done : List B} {at_ k : Nat} (h : LInv s done at_ k) (hk : k + 1 = s.size) (hc : s[k]'(by omega) ≠ 10) : LInv s (done ++ [((tl s).take (k + 1)).drop at_ ++ [10]]) (k + 1) (k + 1) := ⟨Nat.le_refl _, by omega, by
  have hk1 : k < s.size := by omega
  rw [h.all, if_pos hk1, tl_drop hk1, scan, if_neg hc, if_neg (by omega), show (tl s).drop (k + 1) = [] from List.drop_eq_nil_of_le (by rw [Fs.tl_len]; omega), scan, if_neg (by simp), take_next hk1 h.le]; simp, by
  have := h.sz; simp; omega, fun x hx => by
  rcases List.mem_append.1 hx with hx | hx
  · exact h.len x hx
  · rw [List.mem_singleton.1 hx]; simp; omega, by
  have h1 := h.tot
  rw [if_pos (by omega)] at h1
  have h2 := h.le
  rw [List.flatten_append, List.length_append]
  have : ([((tl s).take (k + 1)).drop at_ ++ [10]].flatten).length = k + 1 - at_ + 1 := by simp; omega
  rw [if_neg (by omega)]
  omega⟩
theorem LInv.fin {s : ByteArray} {done : List B} {at_ : Nat} (h : LInv s done at_ s.size) : scan [] (tl s) = done := by
  rw [h.all, if_neg (by omega), List.append_nil]
theorem ext_take {s : ByteArray} {a b : Nat} : s.extract a b = bs (((tl s).take b).drop a) := Lg.tl_inj (by
  show (s.extract a b).data.toList = ((tl s).take b).drop a
  rw [Lib.extract_data, List.drop_take])
theorem insA_len (m : List B) : (insA [] m).length = m.length := by have := (insA_perm m []).length_eq; simpa using this
def RowL (W : World) (v : Value) (L : List B) : Prop :=
  (L = [] ∧ v = .slice none 0 0) ∨ (0 < L.length ∧ ∃ ad c, v = .slice (some ad) L.length c ∧ ad.block < W.heap.size ∧ L.length ≤ c ∧ ∀ j (hj : j < L.length), W.cell? (ad.add j) = some (.string (bs L[j])))
theorem RowL.keep {w W W' : World} {v : Value} {L : List B} (h : RowL W v L) (hb : Below W.heap.size W W') : RowL W' v L := by
  rcases h with h | ⟨h0, ad, c, h1, h2, h3, h4⟩
  · exact .inl h
  · exact .inr ⟨h0, ad, c, h1, Nat.lt_of_lt_of_le h2 hb.size, h3, fun j hj => (hb.cell (by rw [block_of_add]; exact h2)).trans (h4 j hj)⟩
theorem row_own {w : World} {Bk n : Nat} {v : Value} {L : List B} (h : w.ownsRow Bk 9 1 v n (strV L)) (h0 : 0 < L.length) : RowL w v L := by
  have hn : n = L.length := by have := h.1; simp [strV] at this; omega
  subst hn
  rcases h.2 with ⟨rfl, h0'⟩ | ⟨g, cap, cur, rfl, hB, hg, h1, h2, h3, h4⟩
  · omega
  · exact .inr ⟨h0, _, cap, rfl, lt_heap hg, h1, fun j hj => by
      rw [Lg.add_eq, cell_heap hg]
      have : (strV L)[j]? = some (.string (bs L[j])) := by rw [strV, List.getElem?_map, List.getElem?_eq_getElem hj]; rfl
      rw [← h4, List.getElem?_take] at this
      split at this
      · simpa using this
      · cases this⟩
theorem insL_at {X : B} {L : List B} {j : Nat} (hj : j ≤ L.length) (h1 : ∀ i (hi : i < L.length), i < j → L[i] ≤ X) (h2 : ∀ hi : j < L.length, ¬ L[j] ≤ X) : insL X L = L.take j ++ X :: L.drop j := by
  unfold insL
  induction L generalizing j with
  | nil => simp
  | cons y L ih =>
    cases j with
    | zero =>
      have := h2 (by simp)
      have this : ¬ y ≤ X := this
      rw [List.takeWhile_cons, List.dropWhile_cons, if_neg (by simpa using this), if_neg (by simpa using this)]; rfl
    | succ j =>
      have h0 : y ≤ X := h1 0 (by simp) (by omega)
      rw [List.takeWhile_cons, List.dropWhile_cons, if_pos (by simpa using h0), if_pos (by simpa using h0), List.cons_append, ih (by simpa using hj) (fun i hi hij => h1 (i + 1) (by simpa using hi) (by omega)) (fun hi => h2 (by simpa using hi))]
      rfl
theorem row_of3 {w : World} {Bk n : Nat} {v : Value} {L : List B} {X : B} {j : Nat} (hI : insL X L = L.take j ++ X :: L.drop j) (h : w.ownsRow Bk 9 1 v n ([] ++ strV (L.take j) ++ [.string (bs X)] ++ strV (L.drop j))) : RowL w v (insL X L) := by
  have e : [] ++ strV (L.take j) ++ [.string (bs X)] ++ strV (L.drop j) = strV (insL X L) := by
    rw [hI]
    simp [strV]
    rfl
  rw [e] at h
  exact row_own h (by rw [hI]; simp; omega)
theorem cat_bs (a b : B) : bs a ++ bs b = bs (a ++ b) := Lg.tl_inj (by
  show (bs a ++ bs b : ByteArray).data.toList = a ++ b
  rw [ByteArray.data_append]; simp [bs])
theorem ext_last {s : ByteArray} {a b : Nat} : s.extract a b ++ ⟨#[10]⟩ = bs (((tl s).take b).drop a ++ [10]) := by
  rw [ext_take]
  exact cat_bs _ [10]
theorem strV_one (l : List B) : ∀ u ∈ strV l, u.oneCell' = true := fun u hu => by
  obtain ⟨x, _, rfl⟩ := List.mem_map.1 hu
  rfl
theorem ad0 (ad : Addr) : ad.add 0 = ad := by cases ad; simp [Addr.add]
theorem leq_cases (a X : B) : (a ≤ X ∧ Op.bytesLess (bs a).toList (bs X).toList = true) ∨ (a ≤ X ∧ Op.bytesLess (bs a).toList (bs X).toList = false ∧ ((bs a).toList == (bs X).toList) = true) ∨ (¬ a ≤ X ∧ Op.bytesLess (bs a).toList (bs X).toList = false ∧ ((bs a).toList == (bs X).toList) = false) := by
  rcases Fs.lt_or (a := a) (b := X) with h | h | h
  · exact .inl ⟨List.le_of_lt h, Fs.lt_op h⟩
  · subst h
    exact .inr (.inl ⟨List.le_refl _, Fs.nlt_op (List.lt_irrefl _), by simp⟩)
  · have h2 : ¬ a ≤ X := fun k => List.not_le.2 h k
    refine .inr (.inr ⟨h2, Fs.nlt_op (fun k => h2 (List.le_of_lt k)), Lg.s_ne fun e => h2 ?_⟩)
    have : a = X := congrArg tl e
    rw [this]; exact List.le_refl _
theorem le_next {L : List B} {X : B} {i : Nat} (hi : i < L.length) (h : ∀ m (hm : m < L.length), m < i → L[m] ≤ X) (h1 : L[i] ≤ X) : ∀ m (hm : m < L.length), m < i + 1 → L[m] ≤ X := fun m hm hmi => by
  rcases Nat.lt_or_ge m i with h2 | h2
  · exact h m hm h2
  · obtain rfl : m = i := by omega
    exact h1
theorem strs_part {w : World} {ad a' : Addr} {L M : List B} {n i : Nat} (hb : ad.block < w.heap.size) (hc : ∀ m (hm : m < L.length), w.cell? (ad.add m) = some (.string (bs L[m]))) (hn : M.length = n) (hi : i + M.length ≤ L.length) (hm : ∀ m (hm : m < M.length), M[m] = L[i + m]'(by omega)) (ha : a' = ad.add i) : Reads w w.heap.size 1 (some a') n (strV M) := by
  subst hn
  refine ⟨by simp, fun _ => ⟨_, rfl, by rw [ha, block_of_add]; exact hb, fun j u hu => ?_⟩⟩
  rw [strV, List.getElem?_map] at hu
  obtain ⟨x, hx, rfl⟩ := Option.map_eq_some_iff.1 hu
  obtain ⟨hj, hx⟩ := List.getElem?_eq_some_iff.1 hx
  rw [ha, add_of_add, hc (i + j) (by omega), ← hm j hj, hx]
  rfl
set_option maxHeartbeats 8000000 in
theorem rlines_any (s : ByteArray) (w : World) (hs : s.size ≤ 100000) :
    Calls Tryz.prog 130 #[.string s] w fun e w' => e = .returned (.string (bs (soB (tl s)))) ∧ Below w.heap.size w w' := by
  obtain ⟨zs, hi, hz0, hz1, hz2⟩ := Lg.info_parts (@Lg.infoS)
  have FIN : Hid (∀ W r, r = (insA [] (scan [] (tl s))).flatten → Below w.heap.size w W → (fun e w' => e = Ending.returned (.string (bs (soB (tl s)))) ∧ Below w.heap.size w w') (.returned (.string (bs r))) W) := Lib.hid fun W r h hb => ⟨by rw [h, lines_all], hb⟩
  generalize (fun (e : Ending) w' => e = Ending.returned (.string (bs (soB (tl s)))) ∧ Below w.heap.size w w') = Q at *
  go_enter Tryz.func130, Tryz.ntmps130
  go_wp2_with (fail)
  go_loopw [3, 4, 5] (fun v a i W => ∃ (k at_ : Nat) (done : List B), a = .int .i64 at_ ∧ i = .int .i64 k ∧ Hid (LInv s done at_ k) ∧ Hid (RowL W v (insA [] done)) ∧ Below w.heap.size w W) (fun _ _ i _ => s.size - (intOf i).toNat)
  case atStart => exact ⟨0, 0, [], rfl, rfl, Lib.hid (LInv.zero s), Lib.hid (.inl ⟨rfl, rfl⟩), Below.refl _ _⟩
  case round =>
    obtain ⟨k, at_, done, rfl, rfl, LI, RL, hb⟩ := hrel
    have hk := LI.out.kl
    have hat := LI.out.le
    by_cases hlt : k < s.size
    · have hkI : (k : Int) < (s.size : Int) := by omega
      have hatI : (at_ : Int) ≤ (k : Int) + 1 := by omega
      have hkI2 : (k : Int) + 1 ≤ (s.size : Int) := by omega
      have hll := Nat.le_of_eq (insA_len done)
      have hdl := LI.out.sz
      by_cases hc : s[k] = 10
      · have LN := Lib.hid (LI.out.end_ hlt hc)
        have XE := Lib.hid (@ext_take s at_ (k + 1))
        have j : ((s[k].toNat : Int) == 10) = true := by rw [hc]; rfl
        have j3 : ((s[k].toNat : Int) != 10) = false := by rw [hc]; rfl
        generalize ((tl s).take (k + 1)).drop at_ = X at *
        have NL := Lib.hid (insA_app [] done X)
        generalize insA [] done = L at *
        clear hc LI
        rcases RL.out with ⟨rfl, rfl⟩ | ⟨h0, ad, c, rfl, had, hlc, hcell⟩
        · go_wp2_with (fail)
          rw [XE.out]
          go_loopw [7] (fun q W => q = .int .i64 0 ∧ wr = W) (fun _ _ => 0)
          case atStart => exact ⟨rfl, rfl⟩
          case round =>
            obtain ⟨rfl, rfl⟩ := hrel
            go_wp2_with (first
            | (at_builtin; refine wpList_append_any _ rfl (.tmp 55) (.tmp 58) _ rfl wr.heap.size 9 zs _ 1 16 Tryz.underlying24 hi hz0 hz1 hz2 rfl (by omega) (.slice none 0 0) 0 [] rfl (World.ownsRow_nil _ _ _ _) wr.heap.size none 0 _ [] rfl Reads.none_ (fun u hu => by cases hu) (by unfold maxLen; omega) (by omega) (Nat.le_refl _) ?_; intro v1 w1 ho1 hg1 hat1; have O1 := Lib.hid ho1; have B1 : Below wr.heap.size wr w1 := (Below.refl _ _).grown hg1 (Nat.le_refl _) (fun g hg => by cases hg); clear ho1 hg1 hat1)
            | (at_builtin; refine wpList_append_any _ rfl (.tmp 60) (.tmp 62) _ rfl wr.heap.size 9 zs _ 1 16 Tryz.underlying24 hi hz0 hz1 hz2 rfl (by omega) v1 (0 + 0) ([] ++ []) rfl (O1.out.alloc _) _ (some ⟨w1.heap.size, 0, none⟩) 1 _ [.string (bs X)] rfl (Lg.reads_one (Lg.heap_new w1 _)) (Lg.mem1 rfl) (by unfold maxLen; omega) (by omega) (by simp; have := B1.size; omega) ?_; intro v2 w2 ho2 hg2 hat2; have O2 := Lib.hid ho2; have B2 : Below wr.heap.size wr w2 := (B1.alloc B1.size _).grown hg2 (by simp; have := B1.size; omega) (fun g hg => (O1.out.lt g hg).1); clear ho2 hg2 hat2)
            | (at_builtin; refine wpList_append_any _ rfl (.tmp 64) (.tmp 67) _ rfl wr.heap.size 9 zs _ 1 16 Tryz.underlying24 hi hz0 hz1 hz2 rfl (by omega) v2 (0 + 0 + 1) ([] ++ [] ++ [.string (bs X)]) rfl O2.out wr.heap.size none 0 _ [] rfl Reads.none_ (fun u hu => by cases hu) (by unfold maxLen; omega) (by omega) B2.size ?_; intro v3 w3 ho3 hg3 hat3; have O3 := Lib.hid ho3; have B3 : Below wr.heap.size wr w3 := B2.grown hg3 B2.size (fun g hg => (O2.out.lt g hg).1); clear ho3 hg3 hat3))
            go_roundw
            case rel => exact ⟨k + 1, k + 1, _, by go_num, by go_num, LN, Lib.hid (by rw [NL.out]; exact row_own (L := insL X []) (n := 0 + 0 + 1 + 0) O3.out (by simp [insL])), hb.trans (B3.mono hb.size)⟩
            case measure => simp [intOf]; omega
        · go_wp2_with (fail)
          rw [XE.out]
          have HC := Lib.hid hcell
          clear hcell
          go_loopw [7] (fun q W => ∃ i : Nat, q = .int .i64 i ∧ i ≤ L.length ∧ Hid (∀ m (hm : m < L.length), m < i → L[m] ≤ X) ∧ wr = W) (fun q _ => L.length - (intOf q).toNat)
          case atStart => exact ⟨0, rfl, Nat.zero_le _, Lib.hid (fun m _ h => by omega), rfl⟩
          case round =>
            obtain ⟨i, rfl, hiL, LE, rfl⟩ := hrel
            have hiL2 : (i : Int) ≤ (L.length : Int) := by omega
            have hiC2 : (i : Int) ≤ (c : Int) := by omega
            by_cases hil : i < L.length
            · have hiI : (i : Int) < (L.length : Int) := by omega
              have ci := HC.out i hil
              rcases leq_cases L[i] X with ⟨e1, e2⟩ | ⟨e1, e2, e3⟩ | ⟨e1, e2, e3⟩
              · have LE2 := Lib.hid (le_next hil LE.out e1)
                clear e1
                generalize bs L[i] = y at *
                go_wp2_with (fail)
                go_roundw
                case rel => exact ⟨i + 1, by go_num, by omega, LE2, by first | rfl | trivial⟩
                case measure => simp [intOf]; omega
              · have LE2 := Lib.hid (le_next hil LE.out e1)
                clear e1
                generalize bs L[i] = y at *
                go_wp2_with (fail)
                go_roundw
                case rel => exact ⟨i + 1, by go_num, by omega, LE2, by first | rfl | trivial⟩
                case measure => simp [intOf]; omega
              · have IN := Lib.hid (insL_at hiL LE.out (fun _ => e1))
                have R1 : Hid (Reads wr wr.heap.size 1 (some ad) i (strV (L.take i))) := Lib.hid (strs_part (i := 0) had HC.out (by simp; omega) (by simp; omega) (fun m hm => by simp) (by rw [ad0]))
                have R3 : Hid (Reads wr wr.heap.size 1 (some (ad.add i)) (L.length - i) (strV (L.drop i))) := Lib.hid (strs_part (i := i) had HC.out (by simp) (by simp; omega) (fun m hm => by simp) rfl)
                have hci : c ≠ i := by omega
                have hci2 : ¬ c - i = 0 := by omega
                clear e1
                generalize bs L[i] = y at *
                go_wp2_with (first
                | (at_builtin; refine wpList_append_any _ rfl (.tmp 55) (.tmp 58) _ rfl wr.heap.size 9 zs _ 1 16 Tryz.underlying24 hi hz0 hz1 hz2 rfl (by omega) (.slice none 0 0) 0 [] rfl (World.ownsRow_nil _ _ _ _) _ (some ad) i _ (strV (L.take i)) rfl R1.out (strV_one _) (by unfold maxLen; omega) (by omega) (Nat.le_refl _) ?_; intro v1 w1 ho1 hg1 hat1; have O1 := Lib.hid ho1; have B1 : Below wr.heap.size wr w1 := (Below.refl _ _).grown hg1 (Nat.le_refl _) (fun g hg => by cases hg); clear ho1 hg1 hat1)
                | (at_builtin; refine wpList_append_any _ rfl (.tmp 60) (.tmp 62) _ rfl wr.heap.size 9 zs _ 1 16 Tryz.underlying24 hi hz0 hz1 hz2 rfl (by omega) v1 (0 + i) ([] ++ (strV (L.take i))) rfl (O1.out.alloc _) _ (some ⟨w1.heap.size, 0, none⟩) 1 _ [.string (bs X)] rfl (Lg.reads_one (Lg.heap_new w1 _)) (Lg.mem1 rfl) (by unfold maxLen; omega) (by omega) (by simp; have := B1.size; omega) ?_; intro v2 w2 ho2 hg2 hat2; have O2 := Lib.hid ho2; have B2 : Below wr.heap.size wr w2 := (B1.alloc B1.size _).grown hg2 (by simp; have := B1.size; omega) (fun g hg => (O1.out.lt g hg).1); clear ho2 hg2 hat2)
                | (at_builtin; refine wpList_append_any _ rfl (.tmp 64) (.tmp 67) _ rfl wr.heap.size 9 zs _ 1 16 Tryz.underlying24 hi hz0 hz1 hz2 rfl (by omega) v2 (0 + i + 1) ([] ++ (strV (L.take i)) ++ [.string (bs X)]) rfl O2.out _ (some (ad.add i)) (L.length - i) _ (strV (L.drop i)) rfl (R3.out.below B2) (strV_one _) (by unfold maxLen; omega) (by omega) B2.size ?_; intro v3 w3 ho3 hg3 hat3; have O3 := Lib.hid ho3; have B3 : Below wr.heap.size wr w3 := B2.grown hg3 B2.size (fun g hg => (O2.out.lt g hg).1); clear ho3 hg3 hat3))
                go_roundw
                case rel => exact ⟨k + 1, k + 1, _, by go_num, by go_num, LN, Lib.hid (by rw [NL.out]; exact row_of3 IN.out O3.out), hb.trans (B3.mono hb.size)⟩
                case measure => simp [intOf]; omega
            · obtain rfl : i = L.length := by omega
              have IN := Lib.hid (insL_at (Nat.le_refl _) LE.out (fun h => absurd h (by omega)))
              have R1 : Hid (Reads wr wr.heap.size 1 (some ad) L.length (strV (L.take L.length))) := Lib.hid (strs_part (i := 0) had HC.out (by simp) (by simp) (fun m hm => by simp) (by rw [ad0]))
              have RZ0 : Hid (∀ (W : World) (A : Option Addr), Reads W W.heap.size 1 A 0 (strV (L.drop L.length))) := Lib.hid fun W A => by rw [List.drop_length]; exact Reads.none_
              by_cases hcl : L.length = c
              · subst hcl
                go_wp2_with (first
            | (at_builtin; refine wpList_append_any _ rfl (.tmp 55) (.tmp 58) _ rfl wr.heap.size 9 zs _ 1 16 Tryz.underlying24 hi hz0 hz1 hz2 rfl (by omega) (.slice none 0 0) 0 [] rfl (World.ownsRow_nil _ _ _ _) _ (some ad) L.length _ (strV (L.take L.length)) rfl R1.out (strV_one _) (by unfold maxLen; omega) (by omega) (Nat.le_refl _) ?_; intro v1 w1 ho1 hg1 hat1; have O1 := Lib.hid ho1; have B1 : Below wr.heap.size wr w1 := (Below.refl _ _).grown hg1 (Nat.le_refl _) (fun g hg => by cases hg); clear ho1 hg1 hat1)
            | (at_builtin; refine wpList_append_any _ rfl (.tmp 60) (.tmp 62) _ rfl wr.heap.size 9 zs _ 1 16 Tryz.underlying24 hi hz0 hz1 hz2 rfl (by omega) v1 (0 + L.length) ([] ++ (strV (L.take L.length))) rfl (O1.out.alloc _) _ (some ⟨w1.heap.size, 0, none⟩) 1 _ [.string (bs X)] rfl (Lg.reads_one (Lg.heap_new w1 _)) (Lg.mem1 rfl) (by unfold maxLen; omega) (by omega) (by simp; have := B1.size; omega) ?_; intro v2 w2 ho2 hg2 hat2; have O2 := Lib.hid ho2; have B2 : Below wr.heap.size wr w2 := (B1.alloc B1.size _).grown hg2 (by simp; have := B1.size; omega) (fun g hg => (O1.out.lt g hg).1); clear ho2 hg2 hat2)
            | (at_builtin; refine wpList_append_any _ rfl (.tmp 64) (.tmp 67) _ rfl wr.heap.size 9 zs _ 1 16 Tryz.underlying24 hi hz0 hz1 hz2 rfl (by omega) v2 (0 + L.length + 1) ([] ++ (strV (L.take L.length)) ++ [.string (bs X)]) rfl O2.out _ _ 0 _ (strV (L.drop L.length)) rfl (RZ0.out _ _) (strV_one _) (by unfold maxLen; omega) (by omega) B2.size ?_; intro v3 w3 ho3 hg3 hat3; have O3 := Lib.hid ho3; have B3 : Below wr.heap.size wr w3 := B2.grown hg3 B2.size (fun g hg => (O2.out.lt g hg).1); clear ho3 hg3 hat3))
                go_roundw
                case rel => exact ⟨k + 1, k + 1, _, by go_num, by go_num, LN, Lib.hid (by rw [NL.out]; exact row_of3 IN.out O3.out), hb.trans (B3.mono hb.size)⟩
                case measure => simp [intOf]; omega
              · have hcl1 : ¬ c = L.length := fun e => hcl e.symm
                have hcl2 : ¬ c - L.length = 0 := by omega
                go_wp2_with (first
            | (at_builtin; refine wpList_append_any _ rfl (.tmp 55) (.tmp 58) _ rfl wr.heap.size 9 zs _ 1 16 Tryz.underlying24 hi hz0 hz1 hz2 rfl (by omega) (.slice none 0 0) 0 [] rfl (World.ownsRow_nil _ _ _ _) _ (some ad) L.length _ (strV (L.take L.length)) rfl R1.out (strV_one _) (by unfold maxLen; omega) (by omega) (Nat.le_refl _) ?_; intro v1 w1 ho1 hg1 hat1; have O1 := Lib.hid ho1; have B1 : Below wr.heap.size wr w1 := (Below.refl _ _).grown hg1 (Nat.le_refl _) (fun g hg => by cases hg); clear ho1 hg1 hat1)
            | (at_builtin; refine wpList_append_any _ rfl (.tmp 60) (.tmp 62) _ rfl wr.heap.size 9 zs _ 1 16 Tryz.underlying24 hi hz0 hz1 hz2 rfl (by omega) v1 (0 + L.length) ([] ++ (strV (L.take L.length))) rfl (O1.out.alloc _) _ (some ⟨w1.heap.size, 0, none⟩) 1 _ [.string (bs X)] rfl (Lg.reads_one (Lg.heap_new w1 _)) (Lg.mem1 rfl) (by unfold maxLen; omega) (by omega) (by simp; have := B1.size; omega) ?_; intro v2 w2 ho2 hg2 hat2; have O2 := Lib.hid ho2; have B2 : Below wr.heap.size wr w2 := (B1.alloc B1.size _).grown hg2 (by simp; have := B1.size; omega) (fun g hg => (O1.out.lt g hg).1); clear ho2 hg2 hat2)
            | (at_builtin; refine wpList_append_any _ rfl (.tmp 64) (.tmp 67) _ rfl wr.heap.size 9 zs _ 1 16 Tryz.underlying24 hi hz0 hz1 hz2 rfl (by omega) v2 (0 + L.length + 1) ([] ++ (strV (L.take L.length)) ++ [.string (bs X)]) rfl O2.out _ _ 0 _ (strV (L.drop L.length)) rfl (RZ0.out _ _) (strV_one _) (by unfold maxLen; omega) (by omega) B2.size ?_; intro v3 w3 ho3 hg3 hat3; have O3 := Lib.hid ho3; have B3 : Below wr.heap.size wr w3 := B2.grown hg3 B2.size (fun g hg => (O2.out.lt g hg).1); clear ho3 hg3 hat3))
                go_roundw
                case rel => exact ⟨k + 1, k + 1, _, by go_num, by go_num, LN, Lib.hid (by rw [NL.out]; exact row_of3 IN.out O3.out), hb.trans (B3.mono hb.size)⟩
                case measure => simp [intOf]; omega
      · by_cases hl : k + 1 < s.size
        · have LN := Lib.hid (LI.out.on hl hc)
          have j : ((s[k].toNat : Int) == 10) = false := beq_eq_false_iff_ne.2 fun e => hc (by
            apply UInt8.toNat_inj.1
            show s[k].toNat = 10
            omega)
          have j2 : ((k : Int) == (s.size : Int) - 1) = false := beq_eq_false_iff_ne.2 (by omega)
          clear hc
          go_wp2_with (fail)
          go_roundw
          case rel => exact ⟨k + 1, at_, done, rfl, by go_num, LN, RL, hb⟩
          case measure => simp [intOf]; omega
        · have hl1 : k + 1 = s.size := by omega
          have LN := Lib.hid (LI.out.last hl1 hc)
          have XE := Lib.hid (@ext_last s at_ (k + 1))
          have j : ((s[k].toNat : Int) == 10) = false := beq_eq_false_iff_ne.2 fun e => hc (by
            apply UInt8.toNat_inj.1
            show s[k].toNat = 10
            omega)
          have j3 : ((s[k].toNat : Int) != 10) = true := by
            have : (s[k].toNat : Int) ≠ 10 := fun e => hc (by
              apply UInt8.toNat_inj.1
              show s[k].toNat = 10
              omega)
            simpa using this
          have j2 : ((k : Int) == (s.size : Int) - 1) = true := by simp; omega
          have hxs : (s.extract at_ (k + 1)).size ≤ 100000 := by rw [ByteArray.size_extract]; omega
          generalize ((tl s).take (k + 1)).drop at_ ++ [10] = X at *
          have NL := Lib.hid (insA_app [] done X)
          generalize insA [] done = L at *
          clear hc LI hl hl1
          rcases RL.out with ⟨rfl, rfl⟩ | ⟨h0, ad, c, rfl, had, hlc, hcell⟩
          · go_wp2_with (fail)
            rw [XE.out]
            go_loopw [7] (fun q W => q = .int .i64 0 ∧ wr = W) (fun _ _ => 0)
            case atStart => exact ⟨rfl, rfl⟩
            case round =>
              obtain ⟨rfl, rfl⟩ := hrel
              go_wp2_with (first
              | (at_builtin; refine wpList_append_any _ rfl (.tmp 55) (.tmp 58) _ rfl wr.heap.size 9 zs _ 1 16 Tryz.underlying24 hi hz0 hz1 hz2 rfl (by omega) (.slice none 0 0) 0 [] rfl (World.ownsRow_nil _ _ _ _) wr.heap.size none 0 _ [] rfl Reads.none_ (fun u hu => by cases hu) (by unfold maxLen; omega) (by omega) (Nat.le_refl _) ?_; intro v1 w1 ho1 hg1 hat1; have O1 := Lib.hid ho1; have B1 : Below wr.heap.size wr w1 := (Below.refl _ _).grown hg1 (Nat.le_refl _) (fun g hg => by cases hg); clear ho1 hg1 hat1)
              | (at_builtin; refine wpList_append_any _ rfl (.tmp 60) (.tmp 62) _ rfl wr.heap.size 9 zs _ 1 16 Tryz.underlying24 hi hz0 hz1 hz2 rfl (by omega) v1 (0 + 0) ([] ++ []) rfl (O1.out.alloc _) _ (some ⟨w1.heap.size, 0, none⟩) 1 _ [.string (bs X)] rfl (Lg.reads_one (Lg.heap_new w1 _)) (Lg.mem1 rfl) (by unfold maxLen; omega) (by omega) (by simp; have := B1.size; omega) ?_; intro v2 w2 ho2 hg2 hat2; have O2 := Lib.hid ho2; have B2 : Below wr.heap.size wr w2 := (B1.alloc B1.size _).grown hg2 (by simp; have := B1.size; omega) (fun g hg => (O1.out.lt g hg).1); clear ho2 hg2 hat2)
              | (at_builtin; refine wpList_append_any _ rfl (.tmp 64) (.tmp 67) _ rfl wr.heap.size 9 zs _ 1 16 Tryz.underlying24 hi hz0 hz1 hz2 rfl (by omega) v2 (0 + 0 + 1) ([] ++ [] ++ [.string (bs X)]) rfl O2.out wr.heap.size none 0 _ [] rfl Reads.none_ (fun u hu => by cases hu) (by unfold maxLen; omega) (by omega) B2.size ?_; intro v3 w3 ho3 hg3 hat3; have O3 := Lib.hid ho3; have B3 : Below wr.heap.size wr w3 := B2.grown hg3 B2.size (fun g hg => (O2.out.lt g hg).1); clear ho3 hg3 hat3))
              go_roundw
              case rel => exact ⟨k + 1, k + 1, _, by go_num, by go_num, LN, Lib.hid (by rw [NL.out]; exact row_own (L := insL X []) (n := 0 + 0 + 1 + 0) O3.out (by simp [insL])), hb.trans (B3.mono hb.size)⟩
              case measure => simp [intOf]; omega
          · go_wp2_with (fail)
            rw [XE.out]
            have HC := Lib.hid hcell
            clear hcell
            go_loopw [7] (fun q W => ∃ i : Nat, q = .int .i64 i ∧ i ≤ L.length ∧ Hid (∀ m (hm : m < L.length), m < i → L[m] ≤ X) ∧ wr = W) (fun q _ => L.length - (intOf q).toNat)
            case atStart => exact ⟨0, rfl, Nat.zero_le _, Lib.hid (fun m _ h => by omega), rfl⟩
            case round =>
              obtain ⟨i, rfl, hiL, LE, rfl⟩ := hrel
              have hiL2 : (i : Int) ≤ (L.length : Int) := by omega
              have hiC2 : (i : Int) ≤ (c : Int) := by omega
              by_cases hil : i < L.length
              · have hiI : (i : Int) < (L.length : Int) := by omega
                have ci := HC.out i hil
                rcases leq_cases L[i] X with ⟨e1, e2⟩ | ⟨e1, e2, e3⟩ | ⟨e1, e2, e3⟩
                · have LE2 := Lib.hid (le_next hil LE.out e1)
                  clear e1
                  generalize bs L[i] = y at *
                  go_wp2_with (fail)
                  go_roundw
                  case rel => exact ⟨i + 1, by go_num, by omega, LE2, by first | rfl | trivial⟩
                  case measure => simp [intOf]; omega
                · have LE2 := Lib.hid (le_next hil LE.out e1)
                  clear e1
                  generalize bs L[i] = y at *
                  go_wp2_with (fail)
                  go_roundw
                  case rel => exact ⟨i + 1, by go_num, by omega, LE2, by first | rfl | trivial⟩
                  case measure => simp [intOf]; omega
                · have IN := Lib.hid (insL_at hiL LE.out (fun _ => e1))
                  have R1 : Hid (Reads wr wr.heap.size 1 (some ad) i (strV (L.take i))) := Lib.hid (strs_part (i := 0) had HC.out (by simp; omega) (by simp; omega) (fun m hm => by simp) (by rw [ad0]))
                  have R3 : Hid (Reads wr wr.heap.size 1 (some (ad.add i)) (L.length - i) (strV (L.drop i))) := Lib.hid (strs_part (i := i) had HC.out (by simp) (by simp; omega) (fun m hm => by simp) rfl)
                  have hci : c ≠ i := by omega
                  have hci2 : ¬ c - i = 0 := by omega
                  clear e1
                  generalize bs L[i] = y at *
                  go_wp2_with (first
                  | (at_builtin; refine wpList_append_any _ rfl (.tmp 55) (.tmp 58) _ rfl wr.heap.size 9 zs _ 1 16 Tryz.underlying24 hi hz0 hz1 hz2 rfl (by omega) (.slice none 0 0) 0 [] rfl (World.ownsRow_nil _ _ _ _) _ (some ad) i _ (strV (L.take i)) rfl R1.out (strV_one _) (by unfold maxLen; omega) (by omega) (Nat.le_refl _) ?_; intro v1 w1 ho1 hg1 hat1; have O1 := Lib.hid ho1; have B1 : Below wr.heap.size wr w1 := (Below.refl _ _).grown hg1 (Nat.le_refl _) (fun g hg => by cases hg); clear ho1 hg1 hat1)
                  | (at_builtin; refine wpList_append_any _ rfl (.tmp 60) (.tmp 62) _ rfl wr.heap.size 9 zs _ 1 16 Tryz.underlying24 hi hz0 hz1 hz2 rfl (by omega) v1 (0 + i) ([] ++ (strV (L.take i))) rfl (O1.out.alloc _) _ (some ⟨w1.heap.size, 0, none⟩) 1 _ [.string (bs X)] rfl (Lg.reads_one (Lg.heap_new w1 _)) (Lg.mem1 rfl) (by unfold maxLen; omega) (by omega) (by simp; have := B1.size; omega) ?_; intro v2 w2 ho2 hg2 hat2; have O2 := Lib.hid ho2; have B2 : Below wr.heap.size wr w2 := (B1.alloc B1.size _).grown hg2 (by simp; have := B1.size; omega) (fun g hg => (O1.out.lt g hg).1); clear ho2 hg2 hat2)
                  | (at_builtin; refine wpList_append_any _ rfl (.tmp 64) (.tmp 67) _ rfl wr.heap.size 9 zs _ 1 16 Tryz.underlying24 hi hz0 hz1 hz2 rfl (by omega) v2 (0 + i + 1) ([] ++ (strV (L.take i)) ++ [.string (bs X)]) rfl O2.out _ (some (ad.add i)) (L.length - i) _ (strV (L.drop i)) rfl (R3.out.below B2) (strV_one _) (by unfold maxLen; omega) (by omega) B2.size ?_; intro v3 w3 ho3 hg3 hat3; have O3 := Lib.hid ho3; have B3 : Below wr.heap.size wr w3 := B2.grown hg3 B2.size (fun g hg => (O2.out.lt g hg).1); clear ho3 hg3 hat3))
                  go_roundw
                  case rel => exact ⟨k + 1, k + 1, _, by go_num, by go_num, LN, Lib.hid (by rw [NL.out]; exact row_of3 IN.out O3.out), hb.trans (B3.mono hb.size)⟩
                  case measure => simp [intOf]; omega
              · obtain rfl : i = L.length := by omega
                have IN := Lib.hid (insL_at (Nat.le_refl _) LE.out (fun h => absurd h (by omega)))
                have R1 : Hid (Reads wr wr.heap.size 1 (some ad) L.length (strV (L.take L.length))) := Lib.hid (strs_part (i := 0) had HC.out (by simp) (by simp) (fun m hm => by simp) (by rw [ad0]))
                have RZ0 : Hid (∀ (W : World) (A : Option Addr), Reads W W.heap.size 1 A 0 (strV (L.drop L.length))) := Lib.hid fun W A => by rw [List.drop_length]; exact Reads.none_
                by_cases hcl : L.length = c
                · subst hcl
                  go_wp2_with (first
              | (at_builtin; refine wpList_append_any _ rfl (.tmp 55) (.tmp 58) _ rfl wr.heap.size 9 zs _ 1 16 Tryz.underlying24 hi hz0 hz1 hz2 rfl (by omega) (.slice none 0 0) 0 [] rfl (World.ownsRow_nil _ _ _ _) _ (some ad) L.length _ (strV (L.take L.length)) rfl R1.out (strV_one _) (by unfold maxLen; omega) (by omega) (Nat.le_refl _) ?_; intro v1 w1 ho1 hg1 hat1; have O1 := Lib.hid ho1; have B1 : Below wr.heap.size wr w1 := (Below.refl _ _).grown hg1 (Nat.le_refl _) (fun g hg => by cases hg); clear ho1 hg1 hat1)
              | (at_builtin; refine wpList_append_any _ rfl (.tmp 60) (.tmp 62) _ rfl wr.heap.size 9 zs _ 1 16 Tryz.underlying24 hi hz0 hz1 hz2 rfl (by omega) v1 (0 + L.length) ([] ++ (strV (L.take L.length))) rfl (O1.out.alloc _) _ (some ⟨w1.heap.size, 0, none⟩) 1 _ [.string (bs X)] rfl (Lg.reads_one (Lg.heap_new w1 _)) (Lg.mem1 rfl) (by unfold maxLen; omega) (by omega) (by simp; have := B1.size; omega) ?_; intro v2 w2 ho2 hg2 hat2; have O2 := Lib.hid ho2; have B2 : Below wr.heap.size wr w2 := (B1.alloc B1.size _).grown hg2 (by simp; have := B1.size; omega) (fun g hg => (O1.out.lt g hg).1); clear ho2 hg2 hat2)
              | (at_builtin; refine wpList_append_any _ rfl (.tmp 64) (.tmp 67) _ rfl wr.heap.size 9 zs _ 1 16 Tryz.underlying24 hi hz0 hz1 hz2 rfl (by omega) v2 (0 + L.length + 1) ([] ++ (strV (L.take L.length)) ++ [.string (bs X)]) rfl O2.out _ _ 0 _ (strV (L.drop L.length)) rfl (RZ0.out _ _) (strV_one _) (by unfold maxLen; omega) (by omega) B2.size ?_; intro v3 w3 ho3 hg3 hat3; have O3 := Lib.hid ho3; have B3 : Below wr.heap.size wr w3 := B2.grown hg3 B2.size (fun g hg => (O2.out.lt g hg).1); clear ho3 hg3 hat3))
                  go_roundw
                  case rel => exact ⟨k + 1, k + 1, _, by go_num, by go_num, LN, Lib.hid (by rw [NL.out]; exact row_of3 IN.out O3.out), hb.trans (B3.mono hb.size)⟩
                  case measure => simp [intOf]; omega
                · have hcl1 : ¬ c = L.length := fun e => hcl e.symm
                  have hcl2 : ¬ c - L.length = 0 := by omega
                  go_wp2_with (first
              | (at_builtin; refine wpList_append_any _ rfl (.tmp 55) (.tmp 58) _ rfl wr.heap.size 9 zs _ 1 16 Tryz.underlying24 hi hz0 hz1 hz2 rfl (by omega) (.slice none 0 0) 0 [] rfl (World.ownsRow_nil _ _ _ _) _ (some ad) L.length _ (strV (L.take L.length)) rfl R1.out (strV_one _) (by unfold maxLen; omega) (by omega) (Nat.le_refl _) ?_; intro v1 w1 ho1 hg1 hat1; have O1 := Lib.hid ho1; have B1 : Below wr.heap.size wr w1 := (Below.refl _ _).grown hg1 (Nat.le_refl _) (fun g hg => by cases hg); clear ho1 hg1 hat1)
              | (at_builtin; refine wpList_append_any _ rfl (.tmp 60) (.tmp 62) _ rfl wr.heap.size 9 zs _ 1 16 Tryz.underlying24 hi hz0 hz1 hz2 rfl (by omega) v1 (0 + L.length) ([] ++ (strV (L.take L.length))) rfl (O1.out.alloc _) _ (some ⟨w1.heap.size, 0, none⟩) 1 _ [.string (bs X)] rfl (Lg.reads_one (Lg.heap_new w1 _)) (Lg.mem1 rfl) (by unfold maxLen; omega) (by omega) (by simp; have := B1.size; omega) ?_; intro v2 w2 ho2 hg2 hat2; have O2 := Lib.hid ho2; have B2 : Below wr.heap.size wr w2 := (B1.alloc B1.size _).grown hg2 (by simp; have := B1.size; omega) (fun g hg => (O1.out.lt g hg).1); clear ho2 hg2 hat2)
              | (at_builtin; refine wpList_append_any _ rfl (.tmp 64) (.tmp 67) _ rfl wr.heap.size 9 zs _ 1 16 Tryz.underlying24 hi hz0 hz1 hz2 rfl (by omega) v2 (0 + L.length + 1) ([] ++ (strV (L.take L.length)) ++ [.string (bs X)]) rfl O2.out _ _ 0 _ (strV (L.drop L.length)) rfl (RZ0.out _ _) (strV_one _) (by unfold maxLen; omega) (by omega) B2.size ?_; intro v3 w3 ho3 hg3 hat3; have O3 := Lib.hid ho3; have B3 : Below wr.heap.size wr w3 := B2.grown hg3 B2.size (fun g hg => (O2.out.lt g hg).1); clear ho3 hg3 hat3))
                  go_roundw
                  case rel => exact ⟨k + 1, k + 1, _, by go_num, by go_num, LN, Lib.hid (by rw [NL.out]; exact row_of3 IN.out O3.out), hb.trans (B3.mono hb.size)⟩
                  case measure => simp [intOf]; omega
    · obtain rfl : k = s.size := by omega
      have FD := Lib.hid LI.out.fin
      have TOT := LI.out.tot
      have hll := Nat.le_of_eq (insA_len done)
      have hdl := LI.out.sz
      have FLT : Hid ((insA [] done).flatten = (insA [] (scan [] (tl s))).flatten) := Lib.hid (by rw [FD.out])
      have FLL : (insA [] done).flatten.length ≤ 200000 := by
        have h1 := (insA_perm done []).flatten.length_eq
        rw [List.nil_append] at h1
        rw [h1]
        split at TOT <;> omega
      generalize insA [] done = L at *
      clear LI
      obtain ⟨wl, rfl⟩ : ∃ wl, wl = wr := ⟨_, rfl⟩
      have hbl := hb
      clear hb
      go_wp2_with (fail)
      go_loopw [9, 10] (fun r q W => ∃ i : Nat, r = .string (bs (L.take i).flatten) ∧ q = .int .i64 i ∧ i ≤ L.length ∧ wl = W) (fun _ q _ => L.length - (intOf q).toNat)
      case atStart => exact ⟨0, rfl, rfl, Nat.zero_le _, rfl⟩
      case round =>
        obtain ⟨i, rfl, rfl, hi, rfl⟩ := hrel
        rcases RL.out with ⟨rfl, rfl⟩ | ⟨h0, ad, c, rfl, had, hlc, hcell⟩
        · have hi0 : i = 0 := by simpa using hi
          subst hi0
          go_wp2_with (fail)
          exact FIN.out _ _ FLT.out hbl
        · by_cases hil : i < L.length
          · have hiI : (i : Int) < (L.length : Int) := by omega
            have ci := hcell i hil
            have CC := Lib.hid (cat_bs (L.take i).flatten L[i])
            have NX : Hid ((L.take (i + 1)).flatten = (L.take i).flatten ++ L[i]) := Lib.hid (by rw [List.take_succ_eq_append_getElem hil, List.flatten_append]; simp)
            have hz1 : (bs (L.take (i + 1)).flatten).size ≤ 200000 := by
              rw [Fs.bs_len]
              have : (L.take (i + 1)).flatten.length ≤ L.flatten.length := by
                conv => rhs; rw [← List.take_append_drop (i + 1) L, List.flatten_append, List.length_append]
                omega
              omega
            rw [NX.out, ← CC.out] at hz1
            rw [ByteArray.size_append] at hz1
            clear hcell
            obtain ⟨y, ey⟩ : ∃ y, y = bs L[i] := ⟨_, rfl⟩
            obtain ⟨x, ex⟩ : ∃ x, x = bs (L.take i).flatten := ⟨_, rfl⟩
            rw [← ey] at ci CC hz1
            rw [← ex] at CC hz1 ⊢
            clear ey ex
            go_wp2_with (fail)
            go_roundw
            case rel => exact ⟨i + 1, by rw [NX.out, ← CC.out], by go_num, by omega, by first | rfl | trivial⟩
            case measure => simp [intOf]; omega
          · obtain rfl : i = L.length := by omega
            have FL2 : Hid ((L.take L.length).flatten = (insA [] (scan [] (tl s))).flatten) := Lib.hid (by rw [List.take_length]; exact FLT.out)
            clear hcell
            go_wp2_with (fail)
            exact FIN.out _ _ FL2.out hbl
end Go.Proofs.YtdidnlkilleljaaGreatDoor.Bx
/- BxOut, what a claim needs of it (prune.py). -/
namespace Go.Proofs.YtdidnlkilleljaaGreatDoor.Bx
open Lg (Stp pathOk)
open Fs (B belowB)
set_option linter.unusedVariables false
set_option maxRecDepth 100000
def outf : B := [111, 117, 116, 47, 102]
variable {names : List B} {up so : B → B}
theorem all_one {fu : Nat} {o n : Int} {a : List B} {b r : List Stp} {s t : St} (ho : s.kind = 0) (h : does fu withF withoutF names up so o a n (all fu withF withoutF names up so b) s = t) :
    all fu withF withoutF names up so (⟨o, a, n, b⟩ :: r) s = all fu withF withoutF names up so r t := by
  rw [all, if_neg (by unfold over; rw [ho]; simp), h]
theorem all_end {fu : Nat} {s : St} : all fu withF withoutF names up so [] s = s := by rw [all]
theorem does_up {fu : Nat} {a : List B} {n : Int} {f : St → St} {s : St} : does fu withF withoutF names up so 4 a n f s = writes fu withF (a.getD 0 []) a up s := by
  unfold does
  rw [if_neg (by decide), if_neg (by decide), if_neg (by decide), if_pos rfl]
theorem does_so {fu : Nat} {a : List B} {n : Int} {f : St → St} {s : St} : does fu withF withoutF names up so 5 a n f s = writes fu withF (a.getD 0 []) a so s := by
  unfold does
  rw [if_neg (by decide), if_neg (by decide), if_neg (by decide), if_neg (by decide), if_pos rfl]
def xs : Nat → B
  | 0 => []
  | k + 1 => [120, 10] ++ xs k
def lP : B := [108]
def mP : B := [109]
def body : List Stp := [⟨3, [mP, lP, outf], 0, []⟩, ⟨2, [mP, outf], 0, []⟩]
def l0 : Fl := ⟨bs lP, bs [120, 10]⟩
theorem does_cat {fu : Nat} {a : List B} {n : Int} {f : St → St} {s : St} : does fu withF withoutF names up so 3 a n f s = writes fu withF (a.getD 0 []) (a.drop 1) id s := by
  unfold does
  rw [if_neg (by decide), if_neg (by decide), if_pos rfl]
theorem does_copy {fu : Nat} {a : List B} {n : Int} {f : St → St} {s : St} : does fu withF withoutF names up so 2 a n f s = writes fu withF (a.getD 1 []) (a.take 1) id s := by
  unfold does
  rw [if_neg (by decide), if_pos rfl]
theorem does_put {fu : Nat} {a : List B} {n : Int} {f : St → St} {s : St} : does fu withF withoutF names up so 1 a n f s = writes fu withF (a.getD 0 []) [] (fun _ => a.getD 1 [] ++ [10]) s := by
  unfold does
  rw [if_pos rfl]
end Go.Proofs.YtdidnlkilleljaaGreatDoor.Bx
