/- The contracts of the reference's texts and Same at targets that are the same. -/
import Derived.Test.YtknmjbfhagldbaaDoorRrGraph
import Derived.Test.YtknmjbfhagldbaaDoorKeyLaws
namespace Go.Proofs.YtknmjbfhagldbaaDoor
open Go.RowKit
set_option linter.unusedVariables false
set_option maxRecDepth 100000
def mkTg (t : TgL) : Tg := ⟨bs t.n, bs t.c, t.ds.map bs, t.ss.map bs⟩
theorem strs_of_txt {w : World} {B : Nat} {v : Value} {l : List (List UInt8)} (h : Txt w B v l) : ∃ A c, v = .slice A l.length c ∧ Strs w w.heap.size A (l.map bs) := by
  have h' : w.ownsRow B 9 1 v l.length (l.map fun t => Value.string (bs t)) := h
  obtain ⟨A, m, c, rfl⟩ := own_form h'
  have hm : m = l.length := by
    rcases h'.2 with ⟨h1, h2⟩ | ⟨g, cap, cur, h1, _⟩
    · injection h1; omega
    · injection h1
  subst hm
  refine ⟨A, c, rfl, ?_⟩
  have := Reads.of_own h'
  unfold Strs
  rw [List.length_map, List.map_map]
  exact this
theorem tcells_get {w : World} {B : Nat} : ∀ {l : List TgL} {xs : List Value}, TCells w B l xs → ∀ (k : Nat) (hk : k < l.length), ∃ v2 v3, xs[k * 4]? = some (.string (bs l[k].n)) ∧ xs[k * 4 + 1]? = some (.string (bs l[k].c)) ∧ xs[k * 4 + 2]? = some v2 ∧ xs[k * 4 + 3]? = some v3 ∧ Txt w B v2 l[k].ds ∧ Txt w B v3 l[k].ss
  | [], _, _, k, hk => absurd hk (by simp)
  | t :: l, _, ⟨v2, v3, ys, e, h2, h3, h4⟩, 0, hk => ⟨v2, v3, by rw [e]; rfl, by rw [e]; rfl, by rw [e]; rfl, by rw [e]; rfl, h2, h3⟩
  | t :: l, _, ⟨v2, v3, ys, e, h2, h3, h4⟩, k + 1, hk => by
    obtain ⟨u2, u3, a, b, c, d, f, g⟩ := tcells_get h4 k (by simpa using hk)
    subst e
    refine ⟨u2, u3, ?_, ?_, ?_, ?_, f, g⟩
    · rw [show (k + 1) * 4 = k * 4 + 4 by omega]; exact a
    · rw [show (k + 1) * 4 + 1 = (k * 4 + 1) + 4 by omega]; exact b
    · rw [show (k + 1) * 4 + 2 = (k * 4 + 2) + 4 by omega]; exact c
    · rw [show (k + 1) * 4 + 3 = (k * 4 + 3) + 4 by omega]; exact d
theorem add_add (ad : Addr) (n i : Nat) : (ad.add n).add i = ad.add (n + i) := by
  unfold Addr.add
  by_cases hn : n = 0
  · subst hn; simp
  · by_cases hi : i = 0
    · subst hi; simp [hn]
    · simp [hn, hi, Nat.add_assoc]
theorem tgs_of_own {w : World} {B B' : Nat} {A : Option Addr} {m c : Nat} {l : List TgL} {xs : List Value} (h : w.ownsRow B 46 4 (.slice A m c) l.length xs) (ht : TCells w B' l xs) : m = l.length ∧ Tgs w w.heap.size A (l.map mkTg) := by
  have hm : m = l.length := by
    rcases h.2 with ⟨h1, h2⟩ | ⟨g, cap, cur, h1, _⟩
    · injection h1; omega
    · injection h1
  subst hm
  have hr := Reads.of_own h
  refine ⟨rfl, fun hl => ?_⟩
  obtain ⟨ad, e, hb, hc⟩ := hr.2 (by simpa using hl)
  refine ⟨ad, e, hb, fun k hk => ?_⟩
  have hk' : k < l.length := by simpa using hk
  obtain ⟨v2, v3, g0, g1, g2, g3, t2, t3⟩ := tcells_get ht k hk'
  obtain ⟨A2, c2, rfl, s2⟩ := strs_of_txt t2
  obtain ⟨A3, c3, rfl, s3⟩ := strs_of_txt t3
  rw [List.getElem_map]
  refine ⟨A2, c2, A3, c3, hc _ _ g0, ?_, ?_, ?_, s2, s3⟩
  · rw [add_add]; exact hc _ _ g1
  · rw [add_add]
    have := hc _ _ g2
    simpa [mkTg] using this
  · rw [add_add]
    have := hc _ _ g3
    simpa [mkTg] using this
set_option maxHeartbeats 2000000 in
theorem texts_any (A F : Option Addr) (l : List ByteArray) (c d B B' : Nat) (w : World) (hl : l.length ≤ 9223372036854775807) (hr : Strs w B A l) (hq : Strs w B' F l) :
    Calls Tryd.prog 43 #[.slice A l.length c, .slice F l.length d] w fun e w' => e = .returned (.bool true) ∧ ∃ n, w' = w.drewN n := by
  have i0 : ((l.length : Int) != (l.length : Int)) = false := by simp
  go_enter Tryd.func43, Tryd.ntmps43
  go_wp2_with (fail)
  go_loopw [5] (fun i wx => ∃ k n : Nat, i = .int .i64 k ∧ k ≤ l.length ∧ wx = w.drewN n) (fun i _ => l.length - (intOf i).toNat)
  case atStart => exact ⟨0, 0, rfl, by omega, rfl⟩
  case round =>
    obtain ⟨k, n, rfl, hk, rfl⟩ := hrel
    by_cases hlt : k < l.length
    · obtain ⟨ad, rfl, _, hc⟩ := hr.at_ hlt
      obtain ⟨bd, rfl, _, hd⟩ := hq.at_ hlt
      have hkI : (k : Int) < (l.length : Int) := by omega
      clear hr hq
      generalize l[k] = f at *
      go_wp2_with (fail)
      go_quiet (fail)
      go_wp2
      go_roundw
      case rel => exact ⟨k + 1, _, by go_num, by omega, by first | rfl | exact World.drewN_drewN _ _ _⟩
      case measure => simp [intOf]; omega
    · obtain rfl : k = l.length := by omega
      go_wp2_with (fail)
      go_ret
      exact ⟨rfl, n, rfl⟩
theorem Strs.dn {w : World} {B : Nat} {A : Option Addr} {l : List ByteArray} (h : Strs w B A l) (n : Nat) : Strs (w.drewN n) B A l := h.below (belowDN (Below.refl _ _) n)
set_option maxHeartbeats 4000000 in
theorem sameG_any (A F : Option Addr) (l : List Tg) (c d B B' : Nat) (w : World) (hl : l.length ≤ 9223372036854775807) (hz : ∀ t ∈ l, t.ds.length ≤ 9223372036854775807 ∧ t.ss.length ≤ 9223372036854775807) (hr : Tgs w B A l) (hq : Tgs w B' F l) :
    Calls Tryd.prog 21 #[.slice A l.length c, .slice F l.length d] w fun e w' => e = .returned (.bool true) ∧ ∃ n, w' = w.drewN n := by
  have i0 : ((l.length : Int) != (l.length : Int)) = false := by simp
  go_enter Tryd.func21, Tryd.ntmps21
  go_wp2_with (fail)
  go_loopw [5] (fun i wx => ∃ k n : Nat, i = .int .i64 k ∧ k ≤ l.length ∧ wx = w.drewN n) (fun i _ => l.length - (intOf i).toNat)
  case atStart => exact ⟨0, 0, rfl, by omega, rfl⟩
  case round =>
    obtain ⟨k, n, rfl, hk, rfl⟩ := hrel
    by_cases hlt : k < l.length
    · obtain ⟨ad, rfl, _, hc⟩ := hr (by omega)
      obtain ⟨bd, rfl, _, hd⟩ := hq (by omega)
      obtain ⟨Ad, cd, As, cs, a0, a1, a2, a3, hsd, hss⟩ := hc k hlt
      obtain ⟨Ed, ed, Es, es, b0, b1, b2, b3, hed, hes⟩ := hd k hlt
      obtain ⟨fd, fs⟩ := hz _ (List.getElem_mem hlt)
      have hkI : (k : Int) < (l.length : Int) := by omega
      clear hc hd hr hq hz
      generalize l[k] = f at *
      have TD := Lib.hid (fun m => texts_any Ad Ed f.ds cd ed B B' (w.drewN m) (by omega) (hsd.dn m) (hed.dn m))
      have TS := Lib.hid (fun m => texts_any As Es f.ss cs es B B' (w.drewN m) (by omega) (hss.dn m) (hes.dn m))
      have A1 : w.cell? ⟨(ad.add (k * 4)).block, (ad.add (k * 4)).off + 1, none⟩ = some (.string f.c) := a1
      have A2 : w.cell? ⟨(ad.add (k * 4)).block, (ad.add (k * 4)).off + 2, none⟩ = some (.slice Ad f.ds.length cd) := a2
      have A3 : w.cell? ⟨(ad.add (k * 4)).block, (ad.add (k * 4)).off + 3, none⟩ = some (.slice As f.ss.length cs) := a3
      have B1 : w.cell? ⟨(bd.add (k * 4)).block, (bd.add (k * 4)).off + 1, none⟩ = some (.string f.c) := b1
      have B2 : w.cell? ⟨(bd.add (k * 4)).block, (bd.add (k * 4)).off + 2, none⟩ = some (.slice Ed f.ds.length ed) := b2
      have B3 : w.cell? ⟨(bd.add (k * 4)).block, (bd.add (k * 4)).off + 3, none⟩ = some (.slice Es f.ss.length es) := b3
      clear a1 a2 a3 b1 b2 b3 hsd hss hed hes fd fs
      go_wp2_with (fail)
      refine wp_region_cls (C := fun w' => ∃ m, w' = w.drewN m) (by kernel_rfl) (by kernel_rfl) ⟨n + 1, rfl⟩ ?_
      repeat (quiet_step (first | (with_reducible exact Calls.quiet_of (TD.out _)) | (with_reducible exact Calls.quiet_of (TS.out _)) | (fail)))
      refine wpQuiet_nil ?_
      rintro w2 ⟨m, rfl⟩
      go_wp2
      go_roundw
      case rel => exact ⟨k + 1, _, by go_num, by omega, by first | rfl | exact World.drewN_drewN _ _ _⟩
      case measure => simp [intOf]; omega
    · obtain rfl : k = l.length := by omega
      go_wp2_with (fail)
      go_ret
      exact ⟨rfl, n, rfl⟩
end Go.Proofs.YtknmjbfhagldbaaDoor
