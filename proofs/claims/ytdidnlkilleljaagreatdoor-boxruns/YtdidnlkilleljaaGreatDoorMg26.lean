/- Joined by mkmerged.py: FsLays, FsBytes, FsSame3, FsOpen. -/
import Derived.Shelf.Sort.Plain
import Derived.Shelf.Slices.In.SortNone2
import Derived.Sort.OwnSorted
import Derived.Test.YtdidnlkilleljaaGreatDoorProg
import Derived.Test.YtdidnlkilleljaaGreatDoorMg23
import Derived.Test.YtdidnlkilleljaaGreatDoorMg20
import Derived.Test.YtdidnlkilleljaaGreatDoorMg21
import Derived.Test.YtdidnlkilleljaaGreatDoorMgKm
import Derived.Test.YtdidnlkilleljaaGreatDoorMg01
import Derived.Test.YtdidnlkilleljaaGreatDoorMg22
import Derived.Laws.StructEq
import Derived.BigQuiet
import Derived.Test.YtdidnlkilleljaaGreatDoorMg02
import Derived.Deep.Slices
import Derived.Deep.Fields
import Derived.ReadAgain
import Derived.ChangeBears
import Derived.SliceStrings
import Derived.ChangeMaps5
/- FsLays, what a claim needs of it (prune.py). -/
namespace Go.Proofs
open Go.Shelf
def Tryz.l90_ren : Go.Shelf.Ren := ⟨fun | 190 => 90 | 125 => 147 | 258 => 146 | 128 => 202 | 129 => 203 | 302 => 193 | 303 => 194 | 304 => 195 | 305 => 196 | 306 => 197 | 307 => 198 | 308 => 199 | 309 => 200 | 310 => 201 | 333 => 233 | 329 => 234 | 330 => 235 | 334 => 236 | 335 => 237 | 336 => 104 | 344 => 259 | n => n, fun | 31 => 24 | 9 => 9 | 3 => 3 | 46 => 149 | 0 => 0 | 51 => 143 | 53 => 226 | 4 => 4 | 183 => 220 | 182 => 219 | 131 => 185 | 5 => 5 | 218 => 253 | 222 => 117 | 228 => 286 | 229 => 287 | n => n, fun | n => n⟩
theorem Tryz.l90 : Go.Proofs.Lays.n190 Tryz.prog Tryz.l90_ren := {
  mixed := by kernel_rfl
  f125 := Tryz.func147.trans (congrArg some (by kernel_rfl))
  f128 := Tryz.func202.trans (congrArg some (by kernel_rfl))
  f129 := Tryz.func203.trans (congrArg some (by kernel_rfl))
  f190 := Tryz.func90.trans (congrArg some (by kernel_rfl))
  f258 := Tryz.func146.trans (congrArg some (by kernel_rfl))
  f302 := Tryz.func193.trans (congrArg some (by kernel_rfl))
  f303 := Tryz.func194.trans (congrArg some (by kernel_rfl))
  f304 := Tryz.func195.trans (congrArg some (by kernel_rfl))
  f305 := Tryz.func196.trans (congrArg some (by kernel_rfl))
  f306 := Tryz.func197.trans (congrArg some (by kernel_rfl))
  f307 := Tryz.func198.trans (congrArg some (by kernel_rfl))
  f308 := Tryz.func199.trans (congrArg some (by kernel_rfl))
  f309 := Tryz.func200.trans (congrArg some (by kernel_rfl))
  f310 := Tryz.func201.trans (congrArg some (by kernel_rfl))
  f329 := Tryz.func234.trans (congrArg some (by kernel_rfl))
  f330 := Tryz.func235.trans (congrArg some (by kernel_rfl))
  f333 := Tryz.func233.trans (congrArg some (by kernel_rfl))
  f334 := Tryz.func236.trans (congrArg some (by kernel_rfl))
  f335 := Tryz.func237.trans (congrArg some (by kernel_rfl))
  f336 := Tryz.func104.trans (congrArg some (by kernel_rfl))
  f344 := Tryz.func259.trans (congrArg some (by kernel_rfl))
  t0 := Tryz.underlying0
  a0 := Tryz.isAgg0
  z0 := Tryz.sizeOf0
  v0 := Tryz.zeroValue0
  t3 := Tryz.underlying3
  a3 := Tryz.isAgg3
  z3 := Tryz.sizeOf3
  v3 := Tryz.zeroValue3
  t4 := Tryz.underlying4
  a4 := Tryz.isAgg4
  z4 := Tryz.sizeOf4
  v4 := Tryz.zeroValue4
  t5 := Tryz.underlying5
  a5 := Tryz.isAgg5
  z5 := Tryz.sizeOf5
  v5 := Tryz.zeroValue5
  t9 := Tryz.underlying9
  a9 := Tryz.isAgg9
  z9 := Tryz.sizeOf9
  v9 := Tryz.zeroValue9
  t31 := Tryz.underlying24
  a31 := Tryz.isAgg24
  z31 := Tryz.sizeOf24
  v31 := Tryz.zeroValue24
  t46 := Tryz.underlying149
  a46 := Tryz.isAgg149
  z46 := Tryz.sizeOf149
  v46 := Tryz.zeroValue149
  t51 := Tryz.underlying143
  a51 := Tryz.isAgg143
  z51 := Tryz.sizeOf143
  v51 := Tryz.zeroValue143
  t53 := Tryz.underlying226
  a53 := Tryz.isAgg226
  z53 := Tryz.sizeOf226
  v53 := Tryz.zeroValue226
  t131 := Tryz.underlying185
  a131 := Tryz.isAgg185
  z131 := Tryz.sizeOf185
  v131 := Tryz.zeroValue185
  t182 := Tryz.underlying219
  a182 := Tryz.isAgg219
  z182 := Tryz.sizeOf219
  v182 := Tryz.zeroValue219
  t183 := Tryz.underlying220
  a183 := Tryz.isAgg220
  z183 := Tryz.sizeOf220
  v183 := Tryz.zeroValue220
  t218 := Tryz.underlying253
  a218 := Tryz.isAgg253
  z218 := Tryz.sizeOf253
  v218 := Tryz.zeroValue253
  t222 := Tryz.underlying117
  a222 := Tryz.isAgg117
  z222 := Tryz.sizeOf117
  v222 := Tryz.zeroValue117
  t228 := Tryz.underlying286
  a228 := Tryz.isAgg286
  z228 := Tryz.sizeOf286
  v228 := Tryz.zeroValue286
  t229 := Tryz.underlying287
  a229 := Tryz.isAgg287
  z229 := Tryz.sizeOf287
  v229 := Tryz.zeroValue287 }
end Go.Proofs
/- FsBytes, what a claim needs of it (prune.py). -/
namespace Go.Proofs.YtdidnlkilleljaaGreatDoor.Fs
open Go.RowKit
set_option linter.unusedVariables false
set_option maxRecDepth 100000
end Go.Proofs.YtdidnlkilleljaaGreatDoor.Fs
namespace Go.Proofs.YtdidnlkilleljaaGreatDoor.Fs
open Go.RowKit
set_option linter.unusedVariables false
set_option maxRecDepth 100000
end Go.Proofs.YtdidnlkilleljaaGreatDoor.Fs
namespace Go.Proofs.YtdidnlkilleljaaGreatDoor.Fs
open Go.RowKit Go.Sort
set_option linter.unusedVariables false
set_option maxRecDepth 100000
def tv (b : B) : Value := .string (bs b)
theorem sort_any (v : Value) (n B0 : Nat) (l : List B) (w : World) (hown : w.ownsRow B0 9 1 v n (l.map tv)) (hn : l.length = n) (hl : l.length ≤ 1000000) :
    Calls Tryz.prog 90 #[v] w fun e w' => e = .returned (.tuple #[]) ∧ w'.ownsRow B0 9 1 v n ((l.mergeSort fun x y => decide (x ≤ y)).map tv) ∧ w.grownBy w' v.ownBlock := by
  subst hn
  rcases hown.2 with ⟨rfl, h0⟩ | ⟨g, cap, cur, rfl, hB, hg, h1, h2, h3, h4⟩
  · have : l = [] := List.eq_nil_of_length_eq_zero h0
    subst this
    refine (Any.slices_Sort_string_none Tryz.l90 none 0 w).mono ?_
    rintro e w' ⟨h5, rfl⟩
    exact ⟨h5, by simpa using World.ownsRow_nil _ _ _ _, World.grownBy.refl _ _⟩
  · have hH := holds_gen (enc := encStr) (is := l) hg (by rw [Nat.mul_one] at h4; exact h4)
    have hlt : g < w.heap.size := (Array.getElem?_eq_some_iff.1 hg).1
    refine (Any.slices_Sort_string Tryz.l90 g 0 cap l w hH hlt (by omega)).mono ?_
    rintro e w' ⟨h5, m, os, rfl⟩
    have hp : (l.mergeSort fun x y => decide (x ≤ y)).length = l.length := (List.mergeSort_perm l _).length_eq
    refine ⟨h5, ?_, grown_gen encStr _⟩
    have := owns_gen (n := m) (os := os) encStr (ts := l.mergeSort fun x y => decide (x ≤ y)) hB hg (by rw [hp]; exact h1) h2 h3
    rw [hp] at this
    exact this
end Go.Proofs.YtdidnlkilleljaaGreatDoor.Fs
/- FsSame3, what a claim needs of it (prune.py). -/
namespace Go.Proofs.YtdidnlkilleljaaGreatDoor.Fs
open Go.RowKit
set_option linter.unusedVariables false
set_option maxRecDepth 100000
theorem bdn {B : Nat} {w w' : World} (h : Below B w w') (n : Nat) : Below B w (w'.drewN n) := ⟨h.os, h.tape, h.output, h.size, h.block⟩
def EqTo (l m : List Fl) (k : Nat) : Prop := ∀ j (hj : j < l.length) (hm : j < m.length), j < k → l[j] = m[j]
theorem EqTo.next {l m : List Fl} {k : Nat} (hk : k < l.length) (hm : k < m.length) (h : EqTo l m k) (h1 : l[k] = m[k]) : EqTo l m (k + 1) := fun j hj hjm hjk => by
  rcases Nat.lt_or_ge j k with h2 | h2
  · exact h j hj hjm h2
  · obtain rfl : j = k := by omega
    exact h1
theorem EqTo.all {l m : List Fl} (he : l.length = m.length) (h : EqTo l m l.length) : l = m := List.ext_getElem he fun j hj hm => h j hj hm hj
set_option maxHeartbeats 2000000 in
theorem rsameF_any (A F : Option Addr) (l m : List Fl) (c d : Nat) (w : World) (hl : l.length ≤ 1000000000) (hm : m.length ≤ 1000000000) (hr : Fls w A l) (hq : Fls w F m) :
    Calls Tryz.prog 13 #[.slice A l.length c, .slice F m.length d] w fun e w' => e = .returned (.bool (decide (l = m))) ∧ Below w.heap.size w w' := by
  by_cases he : l.length = m.length
  · have i0 : ((l.length : Int) != (m.length : Int)) = false := by rw [he]; simp
    have RD := Lib.hid hr
    have RQ := Lib.hid hq
    have HE := Lib.hid he
    clear hr hq
    go_enter Tryz.func13, Tryz.ntmps13
    go_wp2_with (fail)
    go_loopw [5] (fun i wx => ∃ k : Nat, i = .int .i64 k ∧ k ≤ l.length ∧ EqTo l m k ∧ Below w.heap.size w wx) (fun i _ => l.length - (intOf i).toNat)
    case atStart => exact ⟨0, rfl, by omega, fun j _ _ h => by omega, Below.refl _ _⟩
    case round =>
      obtain ⟨k, rfl, hk, hq, hb⟩ := hrel
      have HQ := Lib.hid hq
      clear hq
      by_cases hlt : k < l.length
      · have hltm : k < m.length := by omega
        obtain ⟨ad, rfl, had, c0, c1⟩ := Fls.at_ RD.out hlt
        obtain ⟨bd, rfl, hbd, d0, d1⟩ := Fls.at_ RQ.out hltm
        have e0 : ∀ w', Below w.heap.size w w' → w'.cell? (ad.add (k * 2)) = some (.string l[k].p) := fun w' h => (h.cell (by rw [block_of_add]; exact had)).trans c0
        have e1 : ∀ w', Below w.heap.size w w' → w'.cell? ⟨(ad.add (k * 2)).block, (ad.add (k * 2)).off + 1, none⟩ = some (.string l[k].d) := fun w' h => (h.cell (by show (ad.add (k * 2)).block < _; rw [block_of_add]; exact had)).trans c1
        have g0 : ∀ w', Below w.heap.size w w' → w'.cell? (bd.add (k * 2)) = some (.string m[k].p) := fun w' h => (h.cell (by rw [block_of_add]; exact hbd)).trans d0
        have g1 : ∀ w', Below w.heap.size w w' → w'.cell? ⟨(bd.add (k * 2)).block, (bd.add (k * 2)).off + 1, none⟩ = some (.string m[k].d) := fun w' h => (h.cell (by show (bd.add (k * 2)).block < _; rw [block_of_add]; exact hbd)).trans d1
        have hkI : (k : Int) < (l.length : Int) := by omega
        have hkM : (k : Int) < (m.length : Int) := by omega
        have x0 := e0 _ hb
        have x1 := e1 _ hb
        have y0 := g0 _ hb
        have y1 := g1 _ hb
        have NX := Lib.hid (fun h => EqTo.next hlt hltm HQ.out h)
        have NE : Hid (l[k] ≠ m[k] → decide (l = m) = false) := Lib.hid fun h => decide_eq_false fun e => h (by subst e; rfl)
        clear c0 c1 d0 d1 e0 e1 g0 g1 he i0
        generalize l[k] = f at *
        generalize m[k] = g at *
        by_cases hp : f.p = g.p
        · by_cases hd : f.d = g.d
          · have F := Lib.hid (NX.out (by cases f; cases g; simp only at hp hd; rw [hp, hd]))
            rw [← hp] at y0
            rw [← hd] at y1
            clear hp hd NE NX
            go_wp2_with (fail)
            go_quiet (fail)
            go_wp2
            go_roundw
            case rel => exact ⟨k + 1, by go_num, by omega, F.out, bdn hb _⟩
            case measure => simp [intOf]; omega
          · have F := Lib.hid (NE.out (fun e => hd (by rw [e])))
            have s1 := Lg.s_ne hd
            rw [← hp] at y0
            clear hp hd NE NX
            go_wp2_with (fail)
            go_quiet (fail)
            go_wp2
            go_ret
            exact ⟨Lg.ret_bool F.out, bdn hb _⟩
        · have F := Lib.hid (NE.out (fun e => hp (by rw [e])))
          have s1 := Lg.s_ne hp
          clear hp NE NX
          go_wp2_with (fail)
          go_quiet (fail)
          go_wp2
          go_ret
          exact ⟨Lg.ret_bool F.out, bdn hb _⟩
      · obtain rfl : k = l.length := by omega
        have F : Hid (decide (l = m) = true) := Lib.hid (decide_eq_true (EqTo.all HE.out HQ.out))
        go_wp2_with (fail)
        go_ret
        exact ⟨Lg.ret_bool F.out, hb⟩
  · have i0 : ((l.length : Int) != (m.length : Int)) = true := by
      rw [bne_iff_ne]
      omega
    have F : Hid (decide (l = m) = false) := Lib.hid (decide_eq_false fun e => he (by rw [e]))
    clear he hr hq
    go_enter Tryz.func13, Tryz.ntmps13
    go_wp2_with (fail)
    go_ret
    exact ⟨Lg.ret_bool F.out, Below.refl _ _⟩
end Go.Proofs.YtdidnlkilleljaaGreatDoor.Fs
/- FsOpen, what a claim needs of it (prune.py). -/
namespace Go.Proofs.YtdidnlkilleljaaGreatDoor.Fs
open Go.ChangeShapes Go.WideShapes Go.Deep Go.RowKit Go.ChangeMaps
set_option linter.unusedVariables false
set_option maxRecDepth 100000
theorem flat_at {α : Type} {f : α → List Value} {s : Nat} (hf : ∀ x, (f x).length = s) : ∀ {l : List α} {j : Nat} {u : Value}, (l.flatMap f)[j]? = some u → ∃ k, ∃ (hk : k < l.length), ∃ r, r < s ∧ j = k * s + r ∧ (f l[k])[r]? = some u
  | [], j, u, h => by simp at h
  | a :: l, j, u, h => by
    rw [List.flatMap_cons] at h
    rcases Nat.lt_or_ge j s with hj | hj
    · rw [List.getElem?_append_left (by rw [hf]; exact hj)] at h
      exact ⟨0, by simp, j, hj, by omega, h⟩
    · rw [List.getElem?_append_right (by rw [hf]; exact hj), hf] at h
      obtain ⟨k, hk, r, hr, e, h2⟩ := flat_at hf h
      exact ⟨k + 1, by simpa using hk, r, hr, by rw [Nat.succ_mul]; omega, h2⟩
theorem fls_mk {w : World} {a : Addr} {l : List Fl} (hb : a.block < w.heap.size) (h : ∀ k (hk : k < l.length), w.cell? (a.add (k * 2)) = some (.string l[k].p) ∧ w.cell? (a.add (k * 2 + 1)) = some (.string l[k].d)) : Fls w (some a) l := by
  refine ⟨fc_len l, fun _ => ⟨a, rfl, hb, fun j u hu => ?_⟩⟩
  obtain ⟨k, hk, r, hr, rfl, h2⟩ := flat_at (s := 2) (fun x => rfl) hu
  obtain ⟨c0, c1⟩ := h k hk
  rcases (show r = 0 ∨ r = 1 by omega) with rfl | rfl
  · injection h2 with h2; subst h2; exact c0
  · injection h2 with h2; subst h2; exact c1
def FitF (f : Fl) : Prop := f.p.size ≤ maxLen ∧ f.d.size ≤ maxLen
section
variable {H : Type} {enc : TypeId × Value → H} {W : World}
theorem files_of {v : Value} {fuel : Nat} {x : DataW H × List MemPlace} (hf : DataW.trod enc Tryz.prog W 0 (fun _ => true) true fuel 23 [v] = some x) :
    ∃ A l c, v = .slice A (List.length l) c ∧ Fls W A l ∧ l.length ≤ maxLen ∧ (∀ f ∈ l, FitF f) ∧ l.length ≤ c := by
  rcases open_slice_fields Tryz.underlying23 Tryz.underlying49 (by kernel_rfl) (by kernel_rfl) hf with ⟨h0, _⟩ | ⟨a, len, cap, m, D, Pl, hcs, hb, hl, hm, hmm, hx, hi⟩
  · refine ⟨none, [], 0, by injection h0, Reads.none_, by decide, fun f hf => (by cases hf), Nat.zero_le _⟩
  · have hvv : v = .slice (some a) len cap := by injection hcs
    have hmc : m = cap := by simpa using hmm
    subst hmc
    have key : ∀ i, i < len → ∃ f : Fl, (W.cell? (a.add (i * 2)) = some (.string f.p) ∧ W.cell? (a.add (i * 2 + 1)) = some (.string f.d)) ∧ FitF f := fun i hil => by
      obtain ⟨ys, n, _, _, _, hj⟩ := hi i (by omega)
      obtain ⟨v0, y0, c0, _, t0⟩ := hj 0 _ rfl
      obtain ⟨v1, y1, c1, _, t1⟩ := hj 1 _ rfl
      obtain ⟨s0, e0, _, z0⟩ := DataW.trod_string Tryz.underlying9 t0
      obtain ⟨s1, e1, _, z1⟩ := DataW.trod_string Tryz.underlying9 t1
      refine ⟨⟨s0, s1⟩, ⟨?_, ?_⟩, z0, z1⟩
      · have : v0 = .string s0 := by injection e0
        rw [← this]; exact c0
      · have : v1 = .string s1 := by injection e1
        rw [← this]; exact c1
    obtain ⟨l, hll, hq⟩ := list_of (Q := fun i f => (W.cell? (a.add (i * 2)) = some (.string f.p) ∧ W.cell? (a.add (i * 2 + 1)) = some (.string f.d)) ∧ FitF f) len key
    have hfit : ∀ f ∈ l, FitF f := fun f hf => by
      obtain ⟨j, hj, rfl⟩ := List.mem_iff_getElem.1 hf
      exact (hq j hj).2
    by_cases h0 : 0 < l.length
    · refine ⟨some a, l, m, by rw [hll]; exact hvv, fls_mk ?_ (fun k hk => (hq k hk).1), by rw [hll]; omega, hfit, by omega⟩
      have := lt_of_cell (hq 0 h0).1.1
      rw [block_of_add] at this
      exact this
    · obtain rfl : l = [] := List.eq_nil_of_length_eq_zero (by omega)
      exact ⟨some a, [], m, by rw [hll]; exact hvv, ⟨rfl, fun h => absurd h (by simp)⟩, by decide, fun f hf => (by cases hf), Nat.zero_le _⟩
end
end Go.Proofs.YtdidnlkilleljaaGreatDoor.Fs
