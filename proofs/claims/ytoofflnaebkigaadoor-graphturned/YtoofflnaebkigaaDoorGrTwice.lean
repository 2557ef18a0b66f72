/- The contracts of the reference's has, and of the two twice; of the law's texts and place. -/
import Derived.Test.YtoofflnaebkigaaDoorGrMem
import Derived.Test.YtoofflnaebkigaaDoorStrSet
import Derived.Deep.QuietTactic
import Derived.BigQuiet
namespace Go.Proofs.YtoofflnaebkigaaDoor.Gr
open Go.RowKit
open Lg (Strs tl)
set_option linter.unusedVariables false
set_option maxRecDepth 100000
/-- a world that is some draws ahead -/
def Drew (w w' : World) : Prop := ∃ m, w' = w.drewN m
theorem Drew.refl (w : World) : Drew w w := ⟨0, rfl⟩
theorem Drew.more {w w' : World} (h : Drew w w') (n : Nat) : Drew w (w'.drewN n) := by
  obtain ⟨m, rfl⟩ := h
  exact ⟨_, World.drewN_drewN _ _ _⟩
theorem Drew.below {w w' : World} (h : Drew w w') : Below w.heap.size w w' := by
  obtain ⟨m, rfl⟩ := h
  exact ⟨rfl, rfl, rfl, Nat.le_refl _, fun _ _ => rfl⟩
theorem Drew.strs {w w' : World} (h : Drew w w') {A : Option Addr} {l : List ByteArray} (k : Strs w A l) : Strs w' A l := by
  obtain ⟨m, rfl⟩ := h
  exact k
theorem has_next {l : List ByteArray} {k : Nat} (hk : k < l.length) (s : ByteArray) : has (l.take (k + 1)) s = (has (l.take k) s || decide (l[k] = s)) := by
  unfold has
  rw [List.take_succ_eq_append_getElem hk, List.any_append, List.any_cons, List.any_nil, Bool.or_false]
theorem has_hit {l : List ByteArray} {k : Nat} (hk : k < l.length) {s : ByteArray} (h : l[k] = s) : has l s = true := has_iff.2 (h ▸ List.getElem_mem hk)
theorem has_miss {l : List ByteArray} {s : ByteArray} (h : has (l.take l.length) s = false) : has l s = false := by rwa [List.take_length] at h
theorem rhas_any (A : Option Addr) (l : List ByteArray) (c : Nat) (s : ByteArray) (w : World) (hr : Strs w A l) (hl : l.length ≤ 1000000000) :
    Calls Tryd.prog 33 #[.slice A l.length c, .string s] w fun e w' => e = .returned (.bool (has l s)) ∧ w = w' := by
  go_enter Tryd.func33, Tryd.ntmps33
  go_wp2_with (fail)
  go_loop [5] (fun i => ∃ k : Nat, i = .int .i64 k ∧ k ≤ l.length ∧ has (l.take k) s = false) (fun i => l.length - (intOf i).toNat)
  case atStart => exact ⟨0, rfl, by omega, rfl⟩
  case round =>
    obtain ⟨k, rfl, hk, ha⟩ := hrel
    have HA := Lib.hid ha
    clear ha
    by_cases hlt : k < l.length
    · have hkI : (k : Int) < (l.length : Int) := by omega
      obtain ⟨ad, rfl, _, hc⟩ := hr.at_ hlt
      have NX := Lib.hid (has_next hlt s)
      have HT := Lib.hid (has_hit (s := s) hlt)
      generalize l[k] = x at *
      by_cases h : x = s
      · have F := Lib.hid (HT.out h)
        subst h
        go_wp2_with (fail)
        go_ret
        exact ⟨Lg.ret_bool F.out, rfl⟩
      · have g := Lg.s_ne h
        have F : Hid (has (l.take (k + 1)) s = false) := Lib.hid (by rw [NX.out, HA.out, decide_eq_false h]; rfl)
        clear h
        go_wp2_with (fail)
        go_round
        case rel => exact ⟨k + 1, by go_num, by omega, F.out⟩
        case measure => simp [intOf]; omega
    · obtain rfl : k = l.length := by omega
      have F := Lib.hid (has_miss HA.out)
      go_wp2_with (fail)
      go_ret
      exact ⟨Lg.ret_bool F.out, rfl⟩
theorem nodup_no (l : List ByteArray) : (l.take 0).Nodup := by simp
theorem twice_any (A : Option Addr) (l : List ByteArray) (c : Nat) (w : World) (hr : Strs w A l) (hl : l.length ≤ 1000000000) (hs : ∀ x ∈ l, x.size ≤ maxLen) :
    Calls Tryd.prog 35 #[.slice A l.length c] w fun e w' => e = .returned (.bool (dup l)) ∧ Below w.heap.size w w' := by
  have RD : Hid (∀ W, Below w.heap.size w W → Strs W A l) := Lib.hid fun W hW => hr.below hW
  have SZ := Lib.hid hs
  have hmm := @run_makeMap Tryd.prog
  clear hr hs
  go_enter Tryd.func35, Tryd.ntmps35
  go_wp2_with (fail)
  go_loopw [9] (fun i wx => ∃ (k : Nat) (S : List ByteArray), i = .int .i64 k ∧ k ≤ l.length ∧ Ss.SetAt wx w.heap.size k S ∧ (∀ x, has S x = has (l.take k) x) ∧ (l.take k).Nodup ∧ Below w.heap.size w wx) (fun i _ => l.length - (intOf i).toNat)
  case atStart => exact ⟨0, [], rfl, by omega, Ss.SetAt.made w, fun _ => rfl, nodup_no l, (Below.refl _ _).alloc (Nat.le_refl _) _⟩
  case round =>
    obtain ⟨k, S, rfl, hk, hS, hx, hn, hb⟩ := hrel
    have HX := Lib.hid hx
    have HN := Lib.hid hn
    clear hx hn
    by_cases hlt : k < l.length
    · have hkI : (k : Int) < (l.length : Int) := by omega
      obtain ⟨ad, rfl, _, hc⟩ := (RD.out _ hb).at_ hlt
      have hz := SZ.out _ (List.getElem_mem hlt)
      have LK := hS.look hz
      rw [HX.out] at LK
      cases h : has (l.take k) l[k]
      · rw [h] at LK
        obtain ⟨w2, hput, hS2, hg⟩ := hS.put (by unfold maxLen; omega) hz
        have NX : Hid (∀ x, has (l[k] :: S) x = has (l.take (k + 1)) x) := Lib.hid (fun x => by
          rw [has_next hlt x, ← HX.out x, Bool.or_comm]; rfl)
        have ND := Lib.hid (nodup_next hlt HN.out (has_no.1 h))
        have hb2 : Below w.heap.size w w2 := hb.grown hg hb.size (fun g e => by injection e with e; omega)
        clear h hS hg
        generalize l[k] = x at *
        go_wp2_with (fail)
        go_roundw
        case rel => exact ⟨k + 1, x :: S, by go_num, by omega, hS2, NX.out, ND.out, hb2⟩
        case measure => simp [intOf]; omega
      · rw [h] at LK
        have F := Lib.hid (dup_hit hlt (has_iff.1 h))
        clear h
        go_wp2_with (fail)
        go_ret
        exact ⟨Lg.ret_bool F.out, hb⟩
    · obtain rfl : k = l.length := by omega
      have F := Lib.hid (dup_none HN.out)
      go_wp2_with (fail)
      go_ret
      exact ⟨Lg.ret_bool F.out, hb⟩
theorem rtwice_any (A : Option Addr) (l : List ByteArray) (c : Nat) (w : World) (hr : Strs w A l) (hl : l.length ≤ 1000000000) (hlc : l.length ≤ c) :
    Calls Tryd.prog 26 #[.slice A l.length c] w fun e w' => e = .returned (.bool (dup l)) ∧ Drew w w' := by
  have RD : Hid (∀ W, Drew w W → Strs W A l) := Lib.hid fun W h => h.strs hr
  clear hr
  go_enter Tryd.func26, Tryd.ntmps26
  go_wp2_with (fail)
  go_loopw [3] (fun i wx => ∃ (k : Nat), i = .int .i64 k ∧ k ≤ l.length ∧ (l.take k).Nodup ∧ Drew w wx) (fun i _ => l.length - (intOf i).toNat)
  case atStart => exact ⟨0, rfl, by omega, nodup_no l, Drew.refl _⟩
  case round =>
    obtain ⟨k, rfl, hk, hn, hd⟩ := hrel
    have HN := Lib.hid hn
    clear hn
    by_cases hlt : k < l.length
    · have hkI : (k : Int) < (l.length : Int) := by omega
      have hk0 : (0 : Int) ≤ (k : Int) := by omega
      have hkc : (k : Int) ≤ (c : Int) := by omega
      obtain ⟨ad, rfl, _, hc⟩ := (RD.out _ hd).at_ hlt
      have HS : Hid (∀ q, Calls Tryd.prog 33 #[.slice (some ad) k c, .string l[k]] (wr.drewN q) fun e w' => e = .returned (.bool (has (l.take k) l[k])) ∧ w' = wr.drewN q) := Lib.hid fun q => by
        have h1 : Strs (wr.drewN q) (some ad) (l.take k) := by
          have h2 := Reads.drewN (RD.out _ hd) q
          exact ⟨by simp, fun hn => by
            obtain ⟨a2, e2, h3, h4⟩ := h2.2 (by simp at hn; omega)
            refine ⟨a2, e2, h3, fun j u hu => h4 j u ?_⟩
            rw [List.getElem?_map, List.getElem?_take] at hu
            rw [List.getElem?_map]
            split at hu
            · exact hu
            · cases hu⟩
        have := rhas_any (some ad) (l.take k) c l[k] _ h1 (by simp; omega)
        rw [List.length_take, Nat.min_eq_left (by omega)] at this
        exact this.mono fun _ _ ⟨a, b⟩ => ⟨a, b.symm⟩
      have NX := Lib.hid (nodup_next hlt HN.out)
      have HT := Lib.hid (dup_hit hlt)
      generalize l[k] = x at *
      cases h : has (l.take k) x
      · rw [h] at HS
        have F := Lib.hid (NX.out (has_no.1 h))
        clear h HT
        go_wp2_with (fail)
        go_quiet ((go_at_call 33; exact Calls.quiet_of_same (HS.out _)))
        go_wp2_with (fail)
        go_roundw
        case rel => exact ⟨k + 1, by go_num, by omega, F.out, hd.more _⟩
        case measure => simp [intOf]; omega
      · rw [h] at HS
        have F := Lib.hid (HT.out (has_iff.1 h))
        clear h NX
        go_wp2_with (fail)
        go_quiet ((go_at_call 33; exact Calls.quiet_of_same (HS.out _)))
        go_wp2_with (fail)
        go_ret
        exact ⟨Lg.ret_bool F.out, hd.more _⟩
    · obtain rfl : k = l.length := by omega
      have F := Lib.hid (dup_none HN.out)
      go_wp2_with (fail)
      go_ret
      exact ⟨Lg.ret_bool F.out, hd⟩
/-- are two lists the same? -/
def same (a b : List ByteArray) : Bool := decide (a = b)
theorem same_len {a b : List ByteArray} (h : a.length ≠ b.length) : same a b = false := decide_eq_false fun e => h (by rw [e])
theorem same_bad {a b : List ByteArray} {k : Nat} (ha : k < a.length) (hb : k < b.length) (h : a[k] ≠ b[k]) : same a b = false := decide_eq_false fun e => h (by subst e; rfl)
theorem same_ok {a b : List ByteArray} (h : a.length = b.length) (he : a.take a.length = b.take a.length) : same a b = true := by
  rw [List.take_length, h, List.take_length] at he
  exact decide_eq_true he
theorem texts_any (A F : Option Addr) (a b : List ByteArray) (c d : Nat) (w : World) (ha : Strs w A a) (hb : Strs w F b) (hl : a.length ≤ 1000000000) (hm : b.length ≤ 1000000000) :
    Calls Tryd.prog 15 #[.slice A a.length c, .slice F b.length d] w fun e w' => e = .returned (.bool (same a b)) ∧ Drew w w' := by
  by_cases hab : a.length = b.length
  · have RA : Hid (∀ W, Drew w W → Strs W A a) := Lib.hid fun W h => h.strs ha
    have RB : Hid (∀ W, Drew w W → Strs W F b) := Lib.hid fun W h => h.strs hb
    have AB := Lib.hid hab
    have htest : ((a.length : Int) != (b.length : Int)) = false := by rw [hab]; simp
    have OK := Lib.hid (same_ok hab)
    have BAD : Hid (∀ k (h1 : k < a.length) (h2 : k < b.length), a[k] ≠ b[k] → same a b = false) := Lib.hid fun k h1 h2 => same_bad h1 h2
    clear ha hb hab
    go_enter Tryd.func15, Tryd.ntmps15
    go_wp2_with (fail)
    go_loopw [5] (fun i wx => ∃ (k : Nat), i = .int .i64 k ∧ k ≤ a.length ∧ a.take k = b.take k ∧ Drew w wx) (fun i _ => a.length - (intOf i).toNat)
    case atStart => exact ⟨0, rfl, by omega, by simp, Drew.refl _⟩
    case round =>
      obtain ⟨k, rfl, hk, he, hd⟩ := hrel
      have HE := Lib.hid he
      clear he
      by_cases hlt : k < a.length
      · have hltb : k < b.length := by have := AB.out; omega
        have hkI : (k : Int) < (a.length : Int) := by omega
        have hkJ : (k : Int) < (b.length : Int) := by omega
        obtain ⟨ad, rfl, _, hc⟩ := (RA.out _ hd).at_ hlt
        obtain ⟨bd, rfl, _, hc2⟩ := (RB.out _ hd).at_ hltb
        have BD := Lib.hid (BAD.out k hlt hltb)
        have NX : Hid (a[k] = b[k] → a.take (k + 1) = b.take (k + 1)) := Lib.hid fun e => by
          rw [List.take_succ_eq_append_getElem hlt, List.take_succ_eq_append_getElem hltb, HE.out, e]
        generalize a[k] = x at *
        generalize b[k] = y at *
        by_cases h : x = y
        · have F := Lib.hid (NX.out h)
          subst h
          go_wp2_with (fail)
          go_quiet (fail)
          go_wp2_with (fail)
          go_roundw
          case rel => exact ⟨k + 1, by go_num, by omega, F.out, hd.more _⟩
          case measure => simp [intOf]; omega
        · have g5 : (x.toList == y.toList) = false := Lg.s_ne h
          have g6 : (!(x.toList == y.toList)) = true := by rw [g5]; rfl
          have F := Lib.hid (BD.out h)
          clear h
          go_wp2_with (fail)
          go_quiet (fail)
          go_wp2_with (fail)
          go_ret
          exact ⟨Lg.ret_bool F.out, hd.more _⟩
      · obtain rfl : k = a.length := by omega
        have F := Lib.hid (OK.out HE.out)
        go_wp2_with (fail)
        go_ret
        exact ⟨Lg.ret_bool F.out, hd⟩
  · have htest : ((a.length : Int) != (b.length : Int)) = true := by rw [bne_iff_ne]; omega
    have F := Lib.hid (same_len hab)
    clear hab
    go_enter Tryd.func15, Tryd.ntmps15
    go_wp2_with (fail)
    go_ret
    exact ⟨Lg.ret_bool F.out, Drew.refl _⟩
theorem place_any (A : Option Addr) (l : List ByteArray) (c : Nat) (s : ByteArray) (w : World) (hr : Strs w A l) (hl : l.length ≤ 1000000000) :
    Calls Tryd.prog 20 #[.slice A l.length c, .string s] w fun e w' => e = .returned (.int .i64 (place l s)) ∧ w = w' := by
  go_enter Tryd.func20, Tryd.ntmps20
  go_wp2_with (fail)
  go_loop [5] (fun i => ∃ k : Nat, i = .int .i64 k ∧ k ≤ l.length ∧ has (l.take k) s = false) (fun i => l.length - (intOf i).toNat)
  case atStart => exact ⟨0, rfl, by omega, rfl⟩
  case round =>
    obtain ⟨k, rfl, hk, ha⟩ := hrel
    have HA := Lib.hid ha
    clear ha
    by_cases hlt : k < l.length
    · have hkI : (k : Int) < (l.length : Int) := by omega
      obtain ⟨ad, rfl, _, hc⟩ := hr.at_ hlt
      have NX := Lib.hid (has_next hlt s)
      have HT : Hid (l[k] = s → place l s = k) := Lib.hid fun e => place_hit (by rw [← e]; exact List.getElem?_eq_getElem hlt) (has_no.1 HA.out)
      generalize l[k] = x at *
      by_cases h : x = s
      · have F := Lib.hid (HT.out h)
        subst h
        go_wp2_with (fail)
        go_ret
        exact ⟨Lg.ret_int F.out, rfl⟩
      · have g := Lg.s_ne h
        have F : Hid (has (l.take (k + 1)) s = false) := Lib.hid (by rw [NX.out, HA.out, decide_eq_false h]; rfl)
        clear h
        go_wp2_with (fail)
        go_round
        case rel => exact ⟨k + 1, by go_num, by omega, F.out⟩
        case measure => simp [intOf]; omega
    · obtain rfl : k = l.length := by omega
      have F : Hid (place l s = -1) := Lib.hid (place_no (has_no.1 (has_miss HA.out)))
      go_wp2_with (fail)
      go_ret
      exact ⟨Lg.ret_int F.out, rfl⟩
end Go.Proofs.YtoofflnaebkigaaDoor.Gr
