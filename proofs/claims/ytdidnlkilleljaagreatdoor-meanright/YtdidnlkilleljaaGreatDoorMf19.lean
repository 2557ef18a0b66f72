/- Joined by mkmerged.py: FsCheck, FsLays, FsBytes, FsSame3, FsOpen. -/
import Derived.Test.YtdidnlkilleljaaGreatDoorMf18
import Derived.BigQuiet
import Derived.Shelf.Sort.Plain
import Derived.Shelf.Slices.In.SortNone2
import Derived.Sort.OwnSorted
import Derived.Test.YtdidnlkilleljaaGreatDoorProg
import Derived.Test.YtdidnlkilleljaaGreatDoorMf17
import Derived.Test.YtdidnlkilleljaaGreatDoorMfKm
import Derived.Test.YtdidnlkilleljaaGreatDoorMf01
import Derived.Test.YtdidnlkilleljaaGreatDoorMf02
import Derived.Laws.StructEq
import Derived.Deep.Slices
import Derived.Deep.Fields
import Derived.ReadAgain
import Derived.ChangeBears
import Derived.SliceStrings
import Derived.ChangeMaps5
/- FsCheck, what a claim needs of it (prune.py). -/
namespace Go.Proofs.YtdidnlkilleljaaGreatDoor.Fs
open Go.RowKit
set_option linter.unusedVariables false
set_option maxRecDepth 100000
def clashB (a b : B) : Bool := (belowB a b).isSome || (belowB b a).isSome
theorem clash_any (a b : ByteArray) (ha : a.size ≤ 1000000000) (hb : b.size ≤ 1000000000) (w : World) :
    Calls Tryz.prog 50 #[.string a, .string b] w fun e w' => e = .returned (.bool (clashB (tl a) (tl b))) ∧ w = w' := by
  have B1 := Lib.hid (below_any a b hb w)
  have B2 := Lib.hid (below_any b a ha w)
  unfold clashB
  generalize (belowB (tl a) (tl b)).isSome = x at *
  generalize (belowB (tl b) (tl a)).isSome = y at *
  generalize bs (rest (tl a) (tl b)) = r at *
  generalize bs (rest (tl b) (tl a)) = s at *
  cases x
  · go_enter Tryz.func50, Tryz.ntmps50
    go_wp2_with (go_at_call 67; first | ((with_reducible refine (B1.out).mono ?_); rintro e w1 ⟨rfl, rfl⟩; clear B1) | ((with_reducible refine (B2.out).mono ?_); rintro e w2 ⟨rfl, rfl⟩))
    go_ret
    exact ⟨rfl, rfl⟩
  · go_enter Tryz.func50, Tryz.ntmps50
    go_wp2_with (go_at_call 67; first | ((with_reducible refine (B1.out).mono ?_); rintro e w1 ⟨rfl, rfl⟩; clear B1) | ((with_reducible refine (B2.out).mono ?_); rintro e w2 ⟨rfl, rfl⟩))
    go_ret
    exact ⟨rfl, rfl⟩
theorem check1_any (a d s : ByteArray) (Bk : Nat) (W : World) (ha : a.size ≤ 1000000000) (hs : s.size ≤ 1000000000) (hB : Bk < W.heap.size) (hc : W.cell? ⟨Bk, 0, none⟩ = some (.string s)) :
    Calls Tryz.prog 49 #[.agg #[.string a, .string d], .pointer (some ⟨Bk, 0, none⟩)] W fun e w' => e = .returned (.bool (clashB (tl s) (tl a))) ∧ Below W.heap.size W w' := by
  have hne : Bk ≠ W.heap.size := by omega
  have CL : Hid (∀ V, Calls Tryz.prog 50 #[.string s, .string a] V fun e w' => e = .returned (.bool (clashB (tl s) (tl a))) ∧ V = w') := Lib.hid fun V => clash_any s a hs ha V
  go_enter Tryz.func49, Tryz.ntmps49
  go_wp2_with (go_at_call 50; (with_reducible refine (CL.out _).mono ?_); rintro e w1 ⟨rfl, rfl⟩)
  go_ret
  exact ⟨rfl, (Below.refl _ _).alloc (Nat.le_refl _) _⟩
theorem idx_any {α : Type} (p : α → Bool) (l : List α) : decide ((0 : Int) ≤ idx p l) = l.any p := by
  rcases idx_cases p l with ⟨h1, h2⟩ | ⟨k, hk, h1, h2⟩
  · rw [h1]
    have : l.any p = false := by
      rw [List.any_eq_false]
      intro x hx
      have := List.find?_eq_none.1 h2 x hx
      simpa using this
    rw [this]; rfl
  · rw [h1, decide_eq_true (by omega : (0 : Int) ≤ (k : Int))]
    symm
    rw [List.any_eq_true]
    exact ⟨l[k], List.getElem_mem hk, (List.find?_eq_some_iff_getElem.1 h2).1⟩
theorem containsF_any (g : Nat) (lb : Array Value) (p : Fl → Bool) (A : Option Addr) (l : List Fl) (c : Nat) (w : World) (IX : Hid (Calls Tryz.prog 88 #[.slice A l.length c, .func (.func g) #[] lb] w fun e w' => e = .returned (.int .i64 (idx p l)) ∧ Below w.heap.size w w')) :
    Calls Tryz.prog 48 #[.slice A l.length c, .func (.func g) #[] lb] w fun e w' => e = .returned (.bool (l.any p)) ∧ Below w.heap.size w w' := by
  have F := Lib.hid (idx_any p l)
  generalize idx p l = r at *
  go_enter Tryz.func48, Tryz.ntmps48
  go_wp2_with (go_at_call 88; (with_reducible refine (IX.out).mono ?_); rintro e w1 ⟨rfl, hb⟩)
  go_ret
  exact ⟨by rw [← F.out]; rfl, hb⟩
theorem ppath_all (s : ByteArray) (w : World) (hE : Env w) :
    Calls Tryz.prog 47 #[.string s] w fun e w' => e = .returned (.int .i64 (Lg.pathE (tl s))) ∧ Below w.heap.size w w' := by
  by_cases h : s.size ≤ 48
  · obtain ⟨⟨m, hm⟩, _⟩ := hE
    exact Lg.ppath_any s m w (by omega) hm
  · have HN := Lib.hid (Lg.pathE_no (s := s) (.inr (by omega)))
    have hne := Lg.some_ne (s := s) (by omega)
    have h16 : (48 : Int) < (s.size : Int) := by omega
    go_enter Tryz.func47, Tryz.ntmps47
    go_wp2_with (fail)
    go_ret
    exact ⟨Lg.ret_int HN.out, Below.refl _ _⟩
theorem clean_size {l : List Fl} (h : ∀ j (hj : j < l.length), j < l.length → badF l[j] = none) : ∀ f ∈ l, f.p.size ≤ 1000000000 := fun f hf => by
  obtain ⟨j, hj, rfl⟩ := List.mem_iff_getElem.1 hf
  have h2 := h j hj hj
  unfold badF at h2
  split at h2
  · cases h2
  · rename_i hx
    have hx : Lg.pathOk (tl l[j].p) = true := by simpa using hx
    unfold Lg.pathOk at hx
    simp only [Bool.and_eq_true, decide_eq_true_eq] at hx
    have := hx.1.2
    rw [tl_len] at this
    omega
def Single (l : List Fl) (k : Nat) : Prop := ∀ j (hj : j < l.length), j < k → (∀ h : 0 < j, tl (l[j - 1]'(by omega)).p < tl l[j].p) ∧ ∀ m (hm : m < l.length), clashB (tl l[j].p) (tl l[m].p) = false
theorem Single.next {l : List Fl} {k : Nat} (hk : k < l.length) (h : Single l k) (h1 : ∀ h : 0 < k, tl (l[k - 1]'(by omega)).p < tl l[k].p) (h2 : l.any (fun g => clashB (tl l[k].p) (tl g.p)) = false) : Single l (k + 1) := fun j hj hjk => by
  rcases Nat.lt_or_ge j k with h3 | h3
  · exact h j hj h3
  · obtain rfl : j = k := by omega
    refine ⟨h1, fun m hm => ?_⟩
    have := List.any_eq_false.1 h2 l[m] (List.getElem_mem hm)
    simpa using this
theorem Single.all {l : List Fl} (h : Single l l.length) : ¬ Twice l := by
  rintro (⟨i, hi, h0, h1⟩ | ⟨i, hi, k, hk, h1⟩)
  · exact h1 ((h i hi hi).1 h0)
  · have := (h i hi hi).2 k hk
    unfold clashB at this
    rw [h1] at this
    cases this
theorem twice_order {l : List Fl} {k : Nat} (hk : k < l.length) (h0 : 0 < k) (h : ¬ tl (l[k - 1]'(by omega)).p < tl l[k].p) : Twice l := .inl ⟨k, hk, h0, h⟩
theorem twice_clash {l : List Fl} {k : Nat} (hk : k < l.length) (h : l.any (fun g => clashB (tl l[k].p) (tl g.p)) = true) : Twice l := by
  obtain ⟨g, hg, h1⟩ := List.any_eq_true.1 h
  obtain ⟨m, hm, rfl⟩ := List.mem_iff_getElem.1 hg
  unfold clashB at h1
  cases e : (belowB (tl l[k].p) (tl l[m].p)).isSome with
  | true => exact .inr ⟨k, hk, m, hm, e⟩
  | false =>
    rw [e, Bool.false_or] at h1
    exact .inr ⟨m, hm, k, hk, h1⟩
theorem badF_path {f : Fl} (h : Lg.pathOk (tl f.p) = false) : badF f = some 13 := by unfold badF; rw [if_pos h]
theorem badF_data {f : Fl} (h : Lg.pathOk (tl f.p) = true) (h2 : 2048 < f.d.size) : badF f = some 15 := by unfold badF; rw [if_neg (by simp [h]), if_pos h2]
theorem badF_no {f : Fl} (h : Lg.pathOk (tl f.p) = true) (h2 : ¬ 2048 < f.d.size) : badF f = none := by unfold badF; rw [if_neg (by simp [h]), if_neg h2]
def Clean (l : List Fl) (k : Nat) : Prop := ∀ j (hj : j < l.length), j < k → badF l[j] = none
theorem Clean.next {l : List Fl} {k : Nat} (hk : k < l.length) (h : Clean l k) (h1 : badF l[k] = none) : Clean l (k + 1) := fun j hj hjk => by
  rcases Nat.lt_or_ge j k with h2 | h2
  · exact h j hj h2
  · obtain rfl : j = k := by omega
    exact h1
set_option maxHeartbeats 4000000 in
theorem pcheck_any (A : Option Addr) (l : List Fl) (c : Nat) (w : World) (hE : Env w) (hr : Fls w A l) (hl : l.length ≤ maxLen) (hz : ∀ f ∈ l, f.p.size ≤ maxLen ∧ f.d.size ≤ maxLen) :
    Calls Tryz.prog 20 #[.slice A l.length c] w fun e w' => e = .returned (.int .i64 (checkE l)) ∧ Below w.heap.size w w' := by
  have RD : Hid (∀ W, Below w.heap.size w W → Reads W w.heap.size 2 A l.length (fc l)) := Lib.hid fun W hW => hr.below hW
  have EV := Lib.hid (fun W (h : Below w.heap.size w W) => hE.below h)
  have SZ := Lib.hid hz
  unfold maxLen at hl
  clear hr hE hz
  go_enter Tryz.func20, Tryz.ntmps20
  go_wp2_with (fail)
  go_loopw [9] (fun i W => ∃ k : Nat, i = .int .i64 k ∧ k ≤ l.length ∧ Clean l k ∧ Below w.heap.size w W) (fun i _ => l.length - (intOf i).toNat)
  case atStart => exact ⟨0, rfl, by omega, fun j _ h => by omega, Below.refl _ _⟩
  case round =>
    obtain ⟨k, rfl, hk, hcl, hb⟩ := hrel
    have HC := Lib.hid hcl
    clear hcl
    by_cases hlt : k < l.length
    · have hkI : (k : Int) < (l.length : Int) := by omega
      obtain ⟨ad, rfl, had, c0, c1⟩ := Fls.at_ (RD.out _ hb) hlt
      have hs0 := hb.size
      have hzz := SZ.out _ (List.getElem_mem hlt)
      unfold maxLen at hzz
      have NX := Lib.hid (fun h => Clean.next hlt HC.out h)
      have BAD := Lib.hid (fun c (h : badF l[k] = some c) => check_first hlt HC.out h)
      have PA : Hid (∀ W, Below w.heap.size w W → Calls Tryz.prog 47 #[.string l[k].p] W fun e w' => e = .returned (.int .i64 (Lg.pathE (tl l[k].p))) ∧ Below W.heap.size W w') := Lib.hid fun W hW => ppath_all l[k].p W (EV.out _ hW)
      have hb1 : Below w.heap.size w (wr.alloc (.cells #[.string l[k].p, .string l[k].d] 49)) := hb.alloc hs0 _
      have PB := Lib.hid (PA.out _ hb1)
      have q0 := heap_alloc_new wr (.cells #[.string l[k].p, .string l[k].d] 49)
      have D1 : Hid (∀ W, Below (wr.alloc (.cells #[.string l[k].p, .string l[k].d] 49)).heap.size (wr.alloc (.cells #[.string l[k].p, .string l[k].d] 49)) W → W.cell? ⟨wr.heap.size, 1, none⟩ = some (.string l[k].d)) := Lib.hid fun W hW => (cell_heap (heap_below hW (by simp) q0) 1).trans rfl
      have HB := Lib.hid hb1
      clear PA hb1 q0
      by_cases hp : Lg.pathOk (tl l[k].p) = true
      · rw [pathE_yes hp] at PB
        by_cases hd : 2048 < l[k].d.size
        · have F := Lib.hid (BAD.out _ (badF_data hp hd))
          have j1 : decide ((2048 : Int) < (l[k].d.size : Int)) = true := decide_eq_true (by omega)
          have j2 : (2048 : Int) < (l[k].d.size : Int) := by omega
          clear hp hd BAD NX
          generalize l[k] = f at *
          go_wp2_with (go_at_call 47; (with_reducible refine (PB.out).mono ?_); rintro e w2 ⟨rfl, hb2⟩; have d1 := D1.out _ hb2)
          go_ret
          exact ⟨Lg.ret_int F.out, HB.out.trans (hb2.mono HB.out.size)⟩
        · have F := Lib.hid (NX.out (badF_no hp hd))
          have j1 : decide ((2048 : Int) < (l[k].d.size : Int)) = false := decide_eq_false (by omega)
          have j2 : ¬ (2048 : Int) < (l[k].d.size : Int) := by omega
          clear hp hd BAD NX
          generalize l[k] = f at *
          go_wp2_with (go_at_call 47; (with_reducible refine (PB.out).mono ?_); rintro e w2 ⟨rfl, hb2⟩; have d1 := D1.out _ hb2)
          go_roundw
          case rel => exact ⟨k + 1, by go_num, by omega, F.out, HB.out.trans (hb2.mono HB.out.size)⟩
          case measure => simp [intOf]; omega
      · have hp' : Lg.pathOk (tl l[k].p) = false := by simpa using hp
        rw [pathE_not hp'] at PB
        have F := Lib.hid (BAD.out _ (badF_path hp'))
        clear hp hp' BAD NX
        generalize l[k] = f at *
        go_wp2_with (go_at_call 47; (with_reducible refine (PB.out).mono ?_); rintro e w2 ⟨rfl, hb2⟩)
        go_ret
        exact ⟨Lg.ret_int F.out, HB.out.trans (hb2.mono HB.out.size)⟩
    · obtain rfl : k = l.length := by omega
      by_cases h32 : 32 < l.length
      · have F := Lib.hid (check_many HC.out h32)
        have j1 : (32 : Int) < (l.length : Int) := by omega
        go_wp2_with (fail)
        go_ret
        exact ⟨Lg.ret_int F.out, hb⟩
      · have j1 : ¬ (32 : Int) < (l.length : Int) := by omega
        have SY := Lib.hid (clean_size HC.out)
        have TW := Lib.hid (fun h => check_twice HC.out h32 h)
        have GO := Lib.hid (fun h => check_good HC.out h32 h)
        clear HC
        obtain ⟨w3, rfl⟩ : ∃ w3, w3 = wr := ⟨_, rfl⟩
        have HB3 := Lib.hid hb
        clear hb hlt hk
        go_wp2_with (fail)
        go_loopw [29] (fun i W => ∃ k : Nat, i = .int .i64 k ∧ k ≤ l.length ∧ Single l k ∧ Below w.heap.size w W) (fun i _ => l.length - (intOf i).toNat)
        case atStart => exact ⟨0, rfl, by omega, fun j _ h => by omega, HB3.out⟩
        case round =>
          obtain ⟨k, rfl, hk, hcl, hb⟩ := hrel
          have HC := Lib.hid hcl
          clear hcl
          by_cases hlt : k < l.length
          · have hkI : (k : Int) < (l.length : Int) := by omega
            obtain ⟨ad, rfl, had, c0, c1⟩ := Fls.at_ (RD.out _ hb) hlt
            have hs0 := hb.size
            have hzz := SY.out _ (List.getElem_mem hlt)
            have NX := Lib.hid (fun h1 h2 => Single.next hlt HC.out h1 h2)
            have TO := Lib.hid (fun h0 h => TW.out (twice_order hlt h0 h))
            have TC := Lib.hid (fun h => TW.out (twice_clash hlt h))
            obtain ⟨W1, eW⟩ : ∃ W1, W1 = wr.alloc (.cells #[.string l[k].p, .string l[k].d] 49) := ⟨_, rfl⟩
            have hb1 : Below wr.heap.size wr W1 := by rw [eW]; exact (Below.refl _ _).alloc (Nat.le_refl _) _
            have hblk : W1.heap[wr.heap.size]? = some (.cells #[.string l[k].p, .string l[k].d] 49 (0, 0)) := by rw [eW]; exact heap_alloc_new wr _
            have hlt1 := Lg.lt_heap hblk
            have hw1 : Below w.heap.size w W1 := hb.trans (hb1.mono hs0)
            have hs1 := hw1.size
            have d0 : ∀ w', Below W1.heap.size W1 w' → w'.cell? ⟨wr.heap.size, 0, none⟩ = some (.string l[k].p) := fun w' h => (cell_heap (heap_below h hlt1 hblk) 0).trans rfl
            have CF : Hid (∀ W, Below W1.heap.size W1 W → Calls Tryz.prog 48 #[.slice (some ad) l.length c, .func (.func 49) #[] #[.pointer (some ⟨wr.heap.size, 0, none⟩)]] W fun e w' => e = .returned (.bool (l.any fun g => clashB (tl l[k].p) (tl g.p))) ∧ Below W.heap.size W w') := Lib.hid fun W hW =>
              containsF_any _ _ _ _ _ _ _ (Lib.hid (indexF_any 49 #[.pointer (some ⟨wr.heap.size, 0, none⟩)] (enters_of Tryz.func49 (by kernel_rfl) rfl) (fun g => clashB (tl l[k].p) (tl g.p)) (some ad) l c W ((RD.out _ (hw1.trans (hW.mono hs1))).more (Nat.le_trans hs1 hW.size)) (by omega)
                (fun f hf V hV => by
                  have hz2 := SY.out _ hf
                  exact check1_any f.p f.d l[k].p wr.heap.size V hz2 hzz (by have := hV.size; have := hW.size; omega) (d0 _ (hW.trans (hV.mono hW.size))))))
            have HB := Lib.hid (fun W (h : Below W1.heap.size W1 W) => hw1.trans (h.mono hs1))
            have hmf : ∀ (fn : Fn) (first cap : Array Value) (w : World), (Instr.makeFunc fn first cap).run Tryz.prog w = .ok (.func fn first cap) w := fun _ _ _ _ => rfl
            clear hblk hlt1 hb1 hw1 hs1
            by_cases hk0 : k = 0
            · have j2 : ¬ (0 : Int) < (k : Int) := by omega
              have j3 : decide ((0 : Int) < (k : Int)) = false := decide_eq_false j2
              have j4 : decide (0 < k) = false := decide_eq_false (by omega)
              cases hx : l.any (fun g => clashB (tl l[k].p) (tl g.p)) with
              | true =>
                have C1 : Hid (∀ W, Below W1.heap.size W1 W → Calls Tryz.prog 48 #[.slice (some ad) l.length c, .func (.func 49) #[] #[.pointer (some ⟨wr.heap.size, 0, none⟩)]] W fun e w' => e = .returned (.bool true) ∧ Below W.heap.size W w') := Lib.hid (by rw [← hx]; exact CF.out)
                have F := Lib.hid (TC.out hx)
                clear hx CF NX TC TO hk0 hzz
                generalize l[k] = x at *
                go_wp2_with (fail)
                rw [← eW]
                clear eW
                refine wp_region_cls (C := fun w' => Below W1.heap.size W1 w') (by kernel_rfl) (by kernel_rfl) (Below.refl _ _).drew ?_
                repeat (first | go_big_quiet_skip | quiet_step (first | (intro _; rfl) | (intro _; rw [if_neg (by omega)]; exact ⟨rfl, rfl⟩) | (intro hss; (first | rw [d0 _ hss]); exact ⟨rfl, rfl⟩) | (intro hss; go_at_call 48; (with_reducible refine (C1.out _ hss).mono ?_); rintro e w4 ⟨rfl, hb4⟩; exact ⟨rfl, hss.trans (hb4.mono hss.size)⟩)))
                refine wpQuiet_nil ?_
                intro w2 hb2
                go_wp2
                go_ret
                exact ⟨Lg.ret_int F.out, HB.out _ hb2⟩
              | false =>
                have C1 : Hid (∀ W, Below W1.heap.size W1 W → Calls Tryz.prog 48 #[.slice (some ad) l.length c, .func (.func 49) #[] #[.pointer (some ⟨wr.heap.size, 0, none⟩)]] W fun e w' => e = .returned (.bool false) ∧ Below W.heap.size W w') := Lib.hid (by rw [← hx]; exact CF.out)
                have F := Lib.hid (NX.out (fun h => absurd h (by omega)) hx)
                clear hx CF NX TC TO hk0 hzz
                generalize l[k] = x at *
                go_wp2_with (fail)
                rw [← eW]
                clear eW
                refine wp_region_cls (C := fun w' => Below W1.heap.size W1 w') (by kernel_rfl) (by kernel_rfl) (Below.refl _ _).drew ?_
                repeat (first | go_big_quiet_skip | quiet_step (first | (intro _; rfl) | (intro _; rw [if_neg (by omega)]; exact ⟨rfl, rfl⟩) | (intro hss; (first | rw [d0 _ hss]); exact ⟨rfl, rfl⟩) | (intro hss; go_at_call 48; (with_reducible refine (C1.out _ hss).mono ?_); rintro e w4 ⟨rfl, hb4⟩; exact ⟨rfl, hss.trans (hb4.mono hss.size)⟩)))
                refine wpQuiet_nil ?_
                intro w2 hb2
                go_wp2
                go_roundw
                case rel => exact ⟨k + 1, by go_num, by omega, F.out, HB.out _ hb2⟩
                case measure => simp [intOf]; omega
            · obtain ⟨q, hq⟩ : ∃ q, q = k - 1 := ⟨_, rfl⟩
              have hlp : q < l.length := by omega
              obtain ⟨ad', ead, had', p0, p1⟩ := Fls.at_ (RD.out _ hb) hlp
              obtain rfl : ad = ad' := Option.some.inj ead
              have dp : ∀ w', Below W1.heap.size W1 w' → w'.cell? (ad.add (q * 2)) = some (.string l[q].p) := fun w' h => ((HB.out _ h).cell (by rw [block_of_add]; exact had)).trans (((hb.cell (by rw [block_of_add]; exact had)).symm).trans p0)
              have iv : IntKind.i64.wrap ((k : Int) - 1) = (q : Int) := by rw [show ((k : Int) - 1) = q by omega]; exact IntWalk.i64_in _ (by omega)
              have i0 : (q : Int) < (l.length : Int) := by omega
              have j0 : (0 : Int) < (k : Int) := by omega
              have j2 : decide (0 < k) = true := decide_eq_true (by omega)
              have ho2 : l[k - 1]'(by omega) = l[q] := by subst hq; rfl
              clear p0 p1 had' ead
              by_cases ho : tl l[q].p < tl l[k].p
              · have o1 := lt_op (a := l[q].p) (b := l[k].p) ho
                cases hx : l.any (fun g => clashB (tl l[k].p) (tl g.p)) with
                | true =>
                  have C1 : Hid (∀ W, Below W1.heap.size W1 W → Calls Tryz.prog 48 #[.slice (some ad) l.length c, .func (.func 49) #[] #[.pointer (some ⟨wr.heap.size, 0, none⟩)]] W fun e w' => e = .returned (.bool true) ∧ Below W.heap.size W w') := Lib.hid (by rw [← hx]; exact CF.out)
                  have F := Lib.hid (TC.out hx)
                  clear hx CF NX TC TO hk0 hzz ho ho2 hq
                  generalize l[k] = x at *
                  generalize l[q] = y at *
                  go_wp2_with (fail)
                  rw [← eW]
                  clear eW
                  refine wp_region_cls (C := fun w' => Below W1.heap.size W1 w') (by kernel_rfl) (by kernel_rfl) (Below.refl _ _).drew ?_
                  repeat (first | go_big_quiet_skip | quiet_step (first | (intro _; rfl) | (intro _; rw [if_neg (by omega)]; exact ⟨rfl, rfl⟩) | (intro hss; (first | rw [d0 _ hss] | rw [dp _ hss]); exact ⟨rfl, rfl⟩) | (intro hss; go_at_call 48; (with_reducible refine (C1.out _ hss).mono ?_); rintro e w4 ⟨rfl, hb4⟩; exact ⟨rfl, hss.trans (hb4.mono hss.size)⟩)))
                  refine wpQuiet_nil ?_
                  intro w2 hb2
                  go_wp2
                  go_ret
                  exact ⟨Lg.ret_int F.out, HB.out _ hb2⟩
                | false =>
                  have C1 : Hid (∀ W, Below W1.heap.size W1 W → Calls Tryz.prog 48 #[.slice (some ad) l.length c, .func (.func 49) #[] #[.pointer (some ⟨wr.heap.size, 0, none⟩)]] W fun e w' => e = .returned (.bool false) ∧ Below W.heap.size W w') := Lib.hid (by rw [← hx]; exact CF.out)
                  have F := Lib.hid (NX.out (fun _ => by rw [ho2]; exact ho) hx)
                  clear hx CF NX TC TO hk0 hzz ho ho2 hq
                  generalize l[k] = x at *
                  generalize l[q] = y at *
                  go_wp2_with (fail)
                  rw [← eW]
                  clear eW
                  refine wp_region_cls (C := fun w' => Below W1.heap.size W1 w') (by kernel_rfl) (by kernel_rfl) (Below.refl _ _).drew ?_
                  repeat (first | go_big_quiet_skip | quiet_step (first | (intro _; rfl) | (intro _; rw [if_neg (by omega)]; exact ⟨rfl, rfl⟩) | (intro hss; (first | rw [d0 _ hss] | rw [dp _ hss]); exact ⟨rfl, rfl⟩) | (intro hss; go_at_call 48; (with_reducible refine (C1.out _ hss).mono ?_); rintro e w4 ⟨rfl, hb4⟩; exact ⟨rfl, hss.trans (hb4.mono hss.size)⟩)))
                  refine wpQuiet_nil ?_
                  intro w2 hb2
                  go_wp2
                  go_roundw
                  case rel => exact ⟨k + 1, by go_num, by omega, F.out, HB.out _ hb2⟩
                  case measure => simp [intOf]; omega
              · have F := Lib.hid (TO.out (by omega) (by rw [ho2]; exact ho))
                have o1 := nlt_op (a := l[q].p) (b := l[k].p) ho
                clear CF NX TC TO ho ho2 hq hk0 hzz
                generalize l[k] = x at *
                generalize l[q] = y at *
                go_wp2_with (fail)
                rw [← eW]
                clear eW
                refine wp_region_cls (C := fun w' => Below W1.heap.size W1 w') (by kernel_rfl) (by kernel_rfl) (Below.refl _ _).drew ?_
                repeat (first | go_big_quiet_skip | quiet_step (first | (intro _; rfl) | (intro _; rw [if_neg (by omega)]; exact ⟨rfl, rfl⟩) | (intro hss; (first | rw [d0 _ hss] | rw [dp _ hss]); exact ⟨rfl, rfl⟩)))
                refine wpQuiet_nil ?_
                intro w2 hb2
                go_wp2
                go_ret
                exact ⟨Lg.ret_int F.out, HB.out _ hb2⟩
          · obtain rfl : k = l.length := by omega
            have F := Lib.hid (GO.out (Single.all HC.out))
            go_wp2_with (fail)
            go_ret
            exact ⟨Lg.ret_int F.out, hb⟩
end Go.Proofs.YtdidnlkilleljaaGreatDoor.Fs
/- FsLays, what a claim needs of it (prune.py). -/
namespace Go.Proofs
open Go.Shelf
def Tryz.l90_ren : Go.Shelf.Ren := ⟨fun | 190 => 90 | 125 => 147 | 258 => 146 | 128 => 202 | 129 => 203 | 302 => 193 | 303 => 194 | 304 => 195 | 305 => 196 | 306 => 197 | 307 => 198 | 308 => 199 | 309 => 200 | 310 => 201 | 333 => 233 | 329 => 234 | 330 => 235 | 334 => 236 | 335 => 237 | 336 => 104 | 344 => 259 | n => n, fun | 31 => 24 | 9 => 9 | 3 => 3 | 46 => 149 | 0 => 0 | 51 => 143 | 53 => 226 | 4 => 4 | 183 => 220 | 182 => 219 | 131 => 185 | 5 => 5 | 218 => 253 | 222 => 117 | 228 => 286 | 229 => 287 | n => n, fun | n => n⟩
theorem Tryz.l90 : Go.Proofs.Lays.n190 Tryz.prog Tryz.l90_ren := {
  mixed := by kernel_rfl
  f125 := Tryz.func147.trans (congrArg some (by kernel_rfl))
  f128 := Tryz.func202.trans (congrArg some (by kernel_rfl))
  f129 := Tryz.func203.trans (congrArg some (by kernel_rfl))
  f190 := Tryz.func90.trans (congrArg some (by kernel_rfl))
  f258 := Tryz.func146.trans (congrArg some (by kernel_rfl))
  f302 := Tryz.func193.trans (congrArg some (by kernel_rfl))
  f303 := Tryz.func194.trans (congrArg some (by kernel_rfl))
  f304 := Tryz.func195.trans (congrArg some (by kernel_rfl))
  f305 := Tryz.func196.trans (congrArg some (by kernel_rfl))
  f306 := Tryz.func197.trans (congrArg some (by kernel_rfl))
  f307 := Tryz.func198.trans (congrArg some (by kernel_rfl))
  f308 := Tryz.func199.trans (congrArg some (by kernel_rfl))
  f309 := Tryz.func200.trans (congrArg some (by kernel_rfl))
  f310 := Tryz.func201.trans (congrArg some (by kernel_rfl))
  f329 := Tryz.func234.trans (congrArg some (by kernel_rfl))
  f330 := Tryz.func235.trans (congrArg some (by kernel_rfl))
  f333 := Tryz.func233.trans (congrArg some (by kernel_rfl))
  f334 := Tryz.func236.trans (congrArg some (by kernel_rfl))
  f335 := Tryz.func237.trans (congrArg some (by kernel_rfl))
  f336 := Tryz.func104.trans (congrArg some (by kernel_rfl))
  f344 := Tryz.func259.trans (congrArg some (by kernel_rfl))
  t0 := Tryz.underlying0
  a0 := Tryz.isAgg0
  z0 := Tryz.sizeOf0
  v0 := Tryz.zeroValue0
  t3 := Tryz.underlying3
  a3 := Tryz.isAgg3
  z3 := Tryz.sizeOf3
  v3 := Tryz.zeroValue3
  t4 := Tryz.underlying4
  a4 := Tryz.isAgg4
  z4 := Tryz.sizeOf4
  v4 := Tryz.zeroValue4
  t5 := Tryz.underlying5
  a5 := Tryz.isAgg5
  z5 := Tryz.sizeOf5
  v5 := Tryz.zeroValue5
  t9 := Tryz.underlying9
  a9 := Tryz.isAgg9
  z9 := Tryz.sizeOf9
  v9 := Tryz.zeroValue9
  t31 := Tryz.underlying24
  a31 := Tryz.isAgg24
  z31 := Tryz.sizeOf24
  v31 := Tryz.zeroValue24
  t46 := Tryz.underlying149
  a46 := Tryz.isAgg149
  z46 := Tryz.sizeOf149
  v46 := Tryz.zeroValue149
  t51 := Tryz.underlying143
  a51 := Tryz.isAgg143
  z51 := Tryz.sizeOf143
  v51 := Tryz.zeroValue143
  t53 := Tryz.underlying226
  a53 := Tryz.isAgg226
  z53 := Tryz.sizeOf226
  v53 := Tryz.zeroValue226
  t131 := Tryz.underlying185
  a131 := Tryz.isAgg185
  z131 := Tryz.sizeOf185
  v131 := Tryz.zeroValue185
  t182 := Tryz.underlying219
  a182 := Tryz.isAgg219
  z182 := Tryz.sizeOf219
  v182 := Tryz.zeroValue219
  t183 := Tryz.underlying220
  a183 := Tryz.isAgg220
  z183 := Tryz.sizeOf220
  v183 := Tryz.zeroValue220
  t218 := Tryz.underlying253
  a218 := Tryz.isAgg253
  z218 := Tryz.sizeOf253
  v218 := Tryz.zeroValue253
  t222 := Tryz.underlying117
  a222 := Tryz.isAgg117
  z222 := Tryz.sizeOf117
  v222 := Tryz.zeroValue117
  t228 := Tryz.underlying286
  a228 := Tryz.isAgg286
  z228 := Tryz.sizeOf286
  v228 := Tryz.zeroValue286
  t229 := Tryz.underlying287
  a229 := Tryz.isAgg287
  z229 := Tryz.sizeOf287
  v229 := Tryz.zeroValue287 }
end Go.Proofs
/- FsBytes, what a claim needs of it (prune.py). -/
namespace Go.Proofs.YtdidnlkilleljaaGreatDoor.Fs
open Go.RowKit
set_option linter.unusedVariables false
set_option maxRecDepth 100000
end Go.Proofs.YtdidnlkilleljaaGreatDoor.Fs
namespace Go.Proofs.YtdidnlkilleljaaGreatDoor.Fs
open Go.RowKit
set_option linter.unusedVariables false
set_option maxRecDepth 100000
end Go.Proofs.YtdidnlkilleljaaGreatDoor.Fs
namespace Go.Proofs.YtdidnlkilleljaaGreatDoor.Fs
open Go.RowKit Go.Sort
set_option linter.unusedVariables false
set_option maxRecDepth 100000
def tv (b : B) : Value := .string (bs b)
theorem sort_any (v : Value) (n B0 : Nat) (l : List B) (w : World) (hown : w.ownsRow B0 9 1 v n (l.map tv)) (hn : l.length = n) (hl : l.length ≤ 1000000) :
    Calls Tryz.prog 90 #[v] w fun e w' => e = .returned (.tuple #[]) ∧ w'.ownsRow B0 9 1 v n ((l.mergeSort fun x y => decide (x ≤ y)).map tv) ∧ w.grownBy w' v.ownBlock := by
  subst hn
  rcases hown.2 with ⟨rfl, h0⟩ | ⟨g, cap, cur, rfl, hB, hg, h1, h2, h3, h4⟩
  · have : l = [] := List.eq_nil_of_length_eq_zero h0
    subst this
    refine (Any.slices_Sort_string_none Tryz.l90 none 0 w).mono ?_
    rintro e w' ⟨h5, rfl⟩
    exact ⟨h5, by simpa using World.ownsRow_nil _ _ _ _, World.grownBy.refl _ _⟩
  · have hH := holds_gen (enc := encStr) (is := l) hg (by rw [Nat.mul_one] at h4; exact h4)
    have hlt : g < w.heap.size := (Array.getElem?_eq_some_iff.1 hg).1
    refine (Any.slices_Sort_string Tryz.l90 g 0 cap l w hH hlt (by omega)).mono ?_
    rintro e w' ⟨h5, m, os, rfl⟩
    have hp : (l.mergeSort fun x y => decide (x ≤ y)).length = l.length := (List.mergeSort_perm l _).length_eq
    refine ⟨h5, ?_, grown_gen encStr _⟩
    have := owns_gen (n := m) (os := os) encStr (ts := l.mergeSort fun x y => decide (x ≤ y)) hB hg (by rw [hp]; exact h1) h2 h3
    rw [hp] at this
    exact this
end Go.Proofs.YtdidnlkilleljaaGreatDoor.Fs
/- FsSame3, what a claim needs of it (prune.py). -/
namespace Go.Proofs.YtdidnlkilleljaaGreatDoor.Fs
open Go.RowKit
set_option linter.unusedVariables false
set_option maxRecDepth 100000
theorem bdn {B : Nat} {w w' : World} (h : Below B w w') (n : Nat) : Below B w (w'.drewN n) := ⟨h.os, h.tape, h.output, h.size, h.block⟩
def EqTo (l m : List Fl) (k : Nat) : Prop := ∀ j (hj : j < l.length) (hm : j < m.length), j < k → l[j] = m[j]
theorem EqTo.next {l m : List Fl} {k : Nat} (hk : k < l.length) (hm : k < m.length) (h : EqTo l m k) (h1 : l[k] = m[k]) : EqTo l m (k + 1) := fun j hj hjm hjk => by
  rcases Nat.lt_or_ge j k with h2 | h2
  · exact h j hj hjm h2
  · obtain rfl : j = k := by omega
    exact h1
theorem EqTo.all {l m : List Fl} (he : l.length = m.length) (h : EqTo l m l.length) : l = m := List.ext_getElem he fun j hj hm => h j hj hm hj
set_option maxHeartbeats 2000000 in
theorem rsameF_any (A F : Option Addr) (l m : List Fl) (c d : Nat) (w : World) (hl : l.length ≤ 1000000000) (hm : m.length ≤ 1000000000) (hr : Fls w A l) (hq : Fls w F m) :
    Calls Tryz.prog 13 #[.slice A l.length c, .slice F m.length d] w fun e w' => e = .returned (.bool (decide (l = m))) ∧ Below w.heap.size w w' := by
  by_cases he : l.length = m.length
  · have i0 : ((l.length : Int) != (m.length : Int)) = false := by rw [he]; simp
    have RD := Lib.hid hr
    have RQ := Lib.hid hq
    have HE := Lib.hid he
    clear hr hq
    go_enter Tryz.func13, Tryz.ntmps13
    go_wp2_with (fail)
    go_loopw [5] (fun i wx => ∃ k : Nat, i = .int .i64 k ∧ k ≤ l.length ∧ EqTo l m k ∧ Below w.heap.size w wx) (fun i _ => l.length - (intOf i).toNat)
    case atStart => exact ⟨0, rfl, by omega, fun j _ _ h => by omega, Below.refl _ _⟩
    case round =>
      obtain ⟨k, rfl, hk, hq, hb⟩ := hrel
      have HQ := Lib.hid hq
      clear hq
      by_cases hlt : k < l.length
      · have hltm : k < m.length := by omega
        obtain ⟨ad, rfl, had, c0, c1⟩ := Fls.at_ RD.out hlt
        obtain ⟨bd, rfl, hbd, d0, d1⟩ := Fls.at_ RQ.out hltm
        have e0 : ∀ w', Below w.heap.size w w' → w'.cell? (ad.add (k * 2)) = some (.string l[k].p) := fun w' h => (h.cell (by rw [block_of_add]; exact had)).trans c0
        have e1 : ∀ w', Below w.heap.size w w' → w'.cell? ⟨(ad.add (k * 2)).block, (ad.add (k * 2)).off + 1, none⟩ = some (.string l[k].d) := fun w' h => (h.cell (by show (ad.add (k * 2)).block < _; rw [block_of_add]; exact had)).trans c1
        have g0 : ∀ w', Below w.heap.size w w' → w'.cell? (bd.add (k * 2)) = some (.string m[k].p) := fun w' h => (h.cell (by rw [block_of_add]; exact hbd)).trans d0
        have g1 : ∀ w', Below w.heap.size w w' → w'.cell? ⟨(bd.add (k * 2)).block, (bd.add (k * 2)).off + 1, none⟩ = some (.string m[k].d) := fun w' h => (h.cell (by show (bd.add (k * 2)).block < _; rw [block_of_add]; exact hbd)).trans d1
        have hkI : (k : Int) < (l.length : Int) := by omega
        have hkM : (k : Int) < (m.length : Int) := by omega
        have x0 := e0 _ hb
        have x1 := e1 _ hb
        have y0 := g0 _ hb
        have y1 := g1 _ hb
        have NX := Lib.hid (fun h => EqTo.next hlt hltm HQ.out h)
        have NE : Hid (l[k] ≠ m[k] → decide (l = m) = false) := Lib.hid fun h => decide_eq_false fun e => h (by subst e; rfl)
        clear c0 c1 d0 d1 e0 e1 g0 g1 he i0
        generalize l[k] = f at *
        generalize m[k] = g at *
        by_cases hp : f.p = g.p
        · by_cases hd : f.d = g.d
          · have F := Lib.hid (NX.out (by cases f; cases g; simp only at hp hd; rw [hp, hd]))
            rw [← hp] at y0
            rw [← hd] at y1
            clear hp hd NE NX
            go_wp2_with (fail)
            go_quiet (fail)
            go_wp2
            go_roundw
            case rel => exact ⟨k + 1, by go_num, by omega, F.out, bdn hb _⟩
            case measure => simp [intOf]; omega
          · have F := Lib.hid (NE.out (fun e => hd (by rw [e])))
            have s1 := Lg.s_ne hd
            rw [← hp] at y0
            clear hp hd NE NX
            go_wp2_with (fail)
            go_quiet (fail)
            go_wp2
            go_ret
            exact ⟨Lg.ret_bool F.out, bdn hb _⟩
        · have F := Lib.hid (NE.out (fun e => hp (by rw [e])))
          have s1 := Lg.s_ne hp
          clear hp NE NX
          go_wp2_with (fail)
          go_quiet (fail)
          go_wp2
          go_ret
          exact ⟨Lg.ret_bool F.out, bdn hb _⟩
      · obtain rfl : k = l.length := by omega
        have F : Hid (decide (l = m) = true) := Lib.hid (decide_eq_true (EqTo.all HE.out HQ.out))
        go_wp2_with (fail)
        go_ret
        exact ⟨Lg.ret_bool F.out, hb⟩
  · have i0 : ((l.length : Int) != (m.length : Int)) = true := by
      rw [bne_iff_ne]
      omega
    have F : Hid (decide (l = m) = false) := Lib.hid (decide_eq_false fun e => he (by rw [e]))
    clear he hr hq
    go_enter Tryz.func13, Tryz.ntmps13
    go_wp2_with (fail)
    go_ret
    exact ⟨Lg.ret_bool F.out, Below.refl _ _⟩
end Go.Proofs.YtdidnlkilleljaaGreatDoor.Fs
/- FsOpen, what a claim needs of it (prune.py). -/
namespace Go.Proofs.YtdidnlkilleljaaGreatDoor.Fs
open Go.ChangeShapes Go.WideShapes Go.Deep Go.RowKit Go.ChangeMaps
set_option linter.unusedVariables false
set_option maxRecDepth 100000
theorem flat_at {α : Type} {f : α → List Value} {s : Nat} (hf : ∀ x, (f x).length = s) : ∀ {l : List α} {j : Nat} {u : Value}, (l.flatMap f)[j]? = some u → ∃ k, ∃ (hk : k < l.length), ∃ r, r < s ∧ j = k * s + r ∧ (f l[k])[r]? = some u
  | [], j, u, h => by simp at h
  | a :: l, j, u, h => by
    rw [List.flatMap_cons] at h
    rcases Nat.lt_or_ge j s with hj | hj
    · rw [List.getElem?_append_left (by rw [hf]; exact hj)] at h
      exact ⟨0, by simp, j, hj, by omega, h⟩
    · rw [List.getElem?_append_right (by rw [hf]; exact hj), hf] at h
      obtain ⟨k, hk, r, hr, e, h2⟩ := flat_at hf h
      exact ⟨k + 1, by simpa using hk, r, hr, by rw [Nat.succ_mul]; omega, h2⟩
theorem fls_mk {w : World} {a : Addr} {l : List Fl} (hb : a.block < w.heap.size) (h : ∀ k (hk : k < l.length), w.cell? (a.add (k * 2)) = some (.string l[k].p) ∧ w.cell? (a.add (k * 2 + 1)) = some (.string l[k].d)) : Fls w (some a) l := by
  refine ⟨fc_len l, fun _ => ⟨a, rfl, hb, fun j u hu => ?_⟩⟩
  obtain ⟨k, hk, r, hr, rfl, h2⟩ := flat_at (s := 2) (fun x => rfl) hu
  obtain ⟨c0, c1⟩ := h k hk
  rcases (show r = 0 ∨ r = 1 by omega) with rfl | rfl
  · injection h2 with h2; subst h2; exact c0
  · injection h2 with h2; subst h2; exact c1
def FitF (f : Fl) : Prop := f.p.size ≤ maxLen ∧ f.d.size ≤ maxLen
section
variable {H : Type} {enc : TypeId × Value → H} {W : World}
theorem files_of {v : Value} {fuel : Nat} {x : DataW H × List MemPlace} (hf : DataW.trod enc Tryz.prog W 0 (fun _ => true) true fuel 23 [v] = some x) :
    ∃ A l c, v = .slice A (List.length l) c ∧ Fls W A l ∧ l.length ≤ maxLen ∧ (∀ f ∈ l, FitF f) ∧ l.length ≤ c := by
  rcases open_slice_fields Tryz.underlying23 Tryz.underlying49 (by kernel_rfl) (by kernel_rfl) hf with ⟨h0, _⟩ | ⟨a, len, cap, m, D, Pl, hcs, hb, hl, hm, hmm, hx, hi⟩
  · refine ⟨none, [], 0, by injection h0, Reads.none_, by decide, fun f hf => (by cases hf), Nat.zero_le _⟩
  · have hvv : v = .slice (some a) len cap := by injection hcs
    have hmc : m = cap := by simpa using hmm
    subst hmc
    have key : ∀ i, i < len → ∃ f : Fl, (W.cell? (a.add (i * 2)) = some (.string f.p) ∧ W.cell? (a.add (i * 2 + 1)) = some (.string f.d)) ∧ FitF f := fun i hil => by
      obtain ⟨ys, n, _, _, _, hj⟩ := hi i (by omega)
      obtain ⟨v0, y0, c0, _, t0⟩ := hj 0 _ rfl
      obtain ⟨v1, y1, c1, _, t1⟩ := hj 1 _ rfl
      obtain ⟨s0, e0, _, z0⟩ := DataW.trod_string Tryz.underlying9 t0
      obtain ⟨s1, e1, _, z1⟩ := DataW.trod_string Tryz.underlying9 t1
      refine ⟨⟨s0, s1⟩, ⟨?_, ?_⟩, z0, z1⟩
      · have : v0 = .string s0 := by injection e0
        rw [← this]; exact c0
      · have : v1 = .string s1 := by injection e1
        rw [← this]; exact c1
    obtain ⟨l, hll, hq⟩ := list_of (Q := fun i f => (W.cell? (a.add (i * 2)) = some (.string f.p) ∧ W.cell? (a.add (i * 2 + 1)) = some (.string f.d)) ∧ FitF f) len key
    have hfit : ∀ f ∈ l, FitF f := fun f hf => by
      obtain ⟨j, hj, rfl⟩ := List.mem_iff_getElem.1 hf
      exact (hq j hj).2
    by_cases h0 : 0 < l.length
    · refine ⟨some a, l, m, by rw [hll]; exact hvv, fls_mk ?_ (fun k hk => (hq k hk).1), by rw [hll]; omega, hfit, by omega⟩
      have := lt_of_cell (hq 0 h0).1.1
      rw [block_of_add] at this
      exact this
    · obtain rfl : l = [] := List.eq_nil_of_length_eq_zero (by omega)
      exact ⟨some a, [], m, by rw [hll]; exact hvv, ⟨rfl, fun h => absurd h (by simp)⟩, by decide, fun f hf => (by cases hf), Nat.zero_le _⟩
theorem open_files {r : Reach} {b0 : Nat} {v : Value} {d : DataW H} {p : List MemPlace} (hv : Value.okWide Tryz.prog W r b0 23 v) (h : DataW.Trod enc Tryz.prog W 0 (fun _ => true) true 23 v d p) :
    ∃ A l c, v = .slice A (List.length l) c ∧ Fls W A l ∧ l.length ≤ maxLen ∧ (∀ f ∈ l, FitF f) ∧ l.length ≤ c := by
  obtain ⟨a0, len0, cap0, rfl⟩ := okWide_slice Tryz.underlying23 hv
  obtain ⟨fuel, hf⟩ := h
  exact files_of hf
end
end Go.Proofs.YtdidnlkilleljaaGreatDoor.Fs
