/- The contracts of the reference's Same and Alike at files that are the same; and the walk of KeysFiles. -/
import Derived.Test.YtknmjbfhagldbaaDoorRrFiles
import Derived.Test.YtknmjbfhagldbaaDoorKeyLaws
import Derived.Test.YtknmjbfhagldbaaDoorRk
import Derived.Test.YtknmjbfhagldbaaDoorOpenArgs
import Derived.Laws.StructEq
namespace Go.Proofs.YtknmjbfhagldbaaDoor
open Go.RowKit
set_option linter.unusedVariables false
set_option maxRecDepth 100000
def mkFl (f : List UInt8 × List UInt8) : Fl := ⟨bs f.1, bs f.2⟩
theorem filesC_get : ∀ (l : List (List UInt8 × List UInt8)) (k : Nat) (hk : k < l.length), (filesC l)[k * 2]? = some (.string (bs l[k].1)) ∧ (filesC l)[k * 2 + 1]? = some (.string (bs l[k].2))
  | [], k, hk => absurd hk (by simp)
  | f :: l, 0, hk => by simp [filesC]
  | f :: l, k + 1, hk => by
    have := filesC_get l k (by simpa using hk)
    have e : filesC (f :: l) = [.string (bs f.1), .string (bs f.2)] ++ filesC l := by simp [filesC]
    rw [e, show (k + 1) * 2 = k * 2 + 2 by omega, show k * 2 + 2 + 1 = (k * 2 + 1) + 2 by omega]
    simpa using this
theorem fls_of_own {w : World} {B : Nat} {A : Option Addr} {m c : Nat} {l : List (List UInt8 × List UInt8)} (h : w.ownsRow B 43 2 (.slice A m c) l.length (filesC l)) : m = l.length ∧ Fls w w.heap.size A (l.map mkFl) := by
  have hm : m = l.length := by
    rcases h.2 with ⟨h1, h2⟩ | ⟨g, cap, cur, h1, _⟩
    · injection h1; omega
    · injection h1
  subst hm
  have hr := Reads.of_own h
  refine ⟨rfl, fun hl => ?_⟩
  obtain ⟨ad, e, hb, hc⟩ := hr.2 (by simpa using hl)
  refine ⟨ad, e, hb, fun k hk => ?_⟩
  have hk' : k < l.length := by simpa using hk
  obtain ⟨g0, g1⟩ := filesC_get l k hk'
  rw [List.getElem_map]
  refine ⟨hc _ _ g0, ?_⟩
  have := hc _ _ g1
  have e2 : (ad.add (k * 2)).add 1 = ad.add (k * 2 + 1) := by
    unfold Addr.add
    by_cases hk0 : k * 2 = 0 <;> simp [hk0, Nat.add_assoc]
  rw [e2]
  exact this
set_option maxHeartbeats 2000000 in
theorem same03_any (A F : Option Addr) (fs : List Fl) (c d B B' : Nat) (w : World) (hl : fs.length ≤ 1000000000) (hr : Fls w B A fs) (hq : Fls w B' F fs) :
    Calls Tryd.prog 38 #[.slice A fs.length c, .slice F fs.length d] w fun e w' => e = .returned (.bool true) ∧ ∃ n, w' = w.drewN n := by
  have i0 : ((fs.length : Int) != (fs.length : Int)) = false := by simp
  go_enter Tryd.func38, Tryd.ntmps38
  go_wp2_with (fail)
  go_loopw [5] (fun i wx => ∃ k n : Nat, i = .int .i64 k ∧ k ≤ fs.length ∧ wx = w.drewN n) (fun i _ => fs.length - (intOf i).toNat)
  case atStart => exact ⟨0, 0, rfl, by omega, rfl⟩
  case round =>
    obtain ⟨k, n, rfl, hk, rfl⟩ := hrel
    by_cases hlt : k < fs.length
    · obtain ⟨ad, rfl, _, hc⟩ := hr (by omega)
      obtain ⟨bd, rfl, _, hd⟩ := hq (by omega)
      obtain ⟨c0, c1⟩ := hc k hlt
      obtain ⟨d0, d1⟩ := hd k hlt
      have c1' : w.cell? ⟨(ad.add (k * 2)).block, (ad.add (k * 2)).off + 1, none⟩ = some (.string fs[k].d) := c1
      have d1' : w.cell? ⟨(bd.add (k * 2)).block, (bd.add (k * 2)).off + 1, none⟩ = some (.string fs[k].d) := d1
      have hkI : (k : Int) < (fs.length : Int) := by omega
      clear c1 d1 hc hd hr hq
      generalize fs[k] = f at *
      go_wp2_with (fail)
      go_quiet (fail)
      go_wp2
      go_roundw
      case rel => exact ⟨k + 1, _, by go_num, by omega, by first | rfl | exact World.drewN_drewN _ _ _⟩
      case measure => simp [intOf]; omega
    · obtain rfl : k = fs.length := by omega
      go_wp2_with (fail)
      go_ret
      exact ⟨rfl, n, rfl⟩
theorem alike_any (A F : Option Addr) (fs : List Fl) (c d B B' : Nat) (w : World) (hl : fs.length ≤ 1000000000) (hr : Fls w B A fs) (hq : Fls w B' F fs) :
    Calls Tryd.prog 18 #[.slice A fs.length c, .slice F fs.length d] w fun e w' => e = .returned (.bool true) ∧ Below w.heap.size w w' := by
  have SM := Lib.hid (same03_any A F fs c d B B' w hl hr hq)
  go_enter Tryd.func18, Tryd.ntmps18
  go_wp2_with (go_at_call 38; ((with_reducible refine (SM.out).mono ?_); rintro e w1 ⟨rfl, n, rfl⟩))
  go_ret
  exact ⟨rfl, belowDN (Below.refl _ _) _⟩
theorem each_len {α : Type} {takes : Pk.Rd → α × Pk.Rd} : ∀ (l : List (List UInt8)) (m : List α), Pk.each takes l = some m → m.length = l.length
  | [], m, h => by rw [Pk.each] at h; injection h with h; subst h; rfl
  | s :: l, m, h => by
    rw [Pk.each] at h
    split at h
    · cases h
    · cases hm : Pk.each takes l with
      | none => rw [hm] at h; cases h
      | some m' =>
        rw [hm] at h
        injection h with h
        subst h
        simp [each_len l m' hm]
theorem all_len {α : Type} {takes : Pk.Rd → α × Pk.Rd} (l : List UInt8) : (Pk.all takes l).1.length ≤ l.length := by
  by_cases hf : (Pk.Rd.list ⟨l, 0⟩).2.fin = 0
  · rw [all_ok hf]
    cases he : Pk.each takes (Pk.Rd.list ⟨l, 0⟩).1 with
    | none => simp
    | some m => simp only; rw [each_len _ _ he]; exact (rlist_lens ⟨l, 0⟩).2
  · rw [all_bad hf]; simp
set_option maxHeartbeats 2000000 in
theorem fileslaw_walk (s : ByteArray) (hs : s.size ≤ maxLen) (w : World) (ht : Tab w) :
    Calls Tryd.prog 4 #[.string s] w fun e w' => e = .returned (.bool true) ∧ Below w.heap.size w w' := by
  unfold maxLen at hs
  by_cases h5 : s.size ≤ 50000
  · have i1 : ¬ (50000 : Int) < (s.size : Int) := by omega
    have hsl : (tl s).length ≤ 500000000 := by rw [← Lib.size_eq]; omega
    have hal := Nat.le_trans (all_len (takes := takesF) (tl s)) hsl
    have K := Lib.hid (readFiles_any (tl s) hsl)
    have R := Lib.hid (rreadF_any (tl s) hsl)
    rw [bs_of] at K R
    go_enter Tryd.func4, Tryd.ntmps4
    go_wp2_with (fail)
    refine (K.out w).mono ?_
    rintro e w1 ⟨v1, rfl, ho1, hb1⟩
    obtain ⟨A1, m1, c1, rfl⟩ := own_form ho1
    obtain ⟨rfl, hf1⟩ := fls_of_own ho1
    go_wp2_with (fail)
    refine (R.out w1).mono ?_
    rintro e w2 ⟨v2, rfl, ho2, hb2⟩
    obtain ⟨A2, m2, c2, rfl⟩ := own_form ho2
    obtain ⟨rfl, hf2⟩ := fls_of_own ho2
    have hb12 := hb1.trans (hb2.mono hb1.size)
    have AL := alike_any A1 A2 ((Pk.all takesF (tl s)).1.map mkFl) c1 c2 _ _ w2 (by rw [List.length_map]; omega) (hf1.below hb2) hf2
    rw [List.length_map] at AL
    have ALH := Lib.hid AL
    have e0 : (((Pk.all takesF (tl s)).2 : Int) == ((Pk.all takesF (tl s)).2 : Int)) = true := by simp
    clear AL ho1 ho2 hf1 hf2 hal
    generalize (Pk.all takesF (tl s)).1.length = nn at *
    generalize (Pk.all takesF (tl s)).2 = ee at *
    go_wp2_with (first | (go_at_call 18; ((with_reducible refine (ALH.out).mono ?_); rintro e w3 ⟨rfl, hb3⟩; have hb13 := hb12.trans (hb3.mono hb12.size); have ht3 := ht.on hb13)) | (go_at_call 11; ((with_reducible refine (awake_any _ ht3).mono ?_); rintro e w4 ⟨rfl, hb4⟩)))
    go_ret
    exact ⟨rfl, hb13.trans (hb4.mono hb13.size)⟩
  · have i1 : (50000 : Int) < (s.size : Int) := by omega
    go_enter Tryd.func4, Tryd.ntmps4
    go_wp2_with (go_at_call 11; ((with_reducible refine (awake_any _ ht).mono ?_); rintro e w4 ⟨rfl, hb4⟩))
    go_ret
    exact ⟨rfl, hb4⟩
end Go.Proofs.YtknmjbfhagldbaaDoor
