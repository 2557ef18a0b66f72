/- Joined by mkmerged.py: FsCheck, FsLays. -/
import Derived.Test.YtmlaolmaopjhbaaGreatDoorMi18
import Derived.BigQuiet
import Derived.Shelf.Sort.Plain
import Derived.Shelf.Slices.In.SortNone2
import Derived.Sort.OwnSorted
import Derived.Test.YtmlaolmaopjhbaaGreatDoorProg
/- FsCheck, what a claim needs of it (prune.py). -/
namespace Go.Proofs.YtmlaolmaopjhbaaGreatDoor.Fs
open Go.RowKit
set_option linter.unusedVariables false
set_option maxRecDepth 100000
def clashB (a b : B) : Bool := (belowB a b).isSome || (belowB b a).isSome
theorem clash_any (a b : ByteArray) (ha : a.size ≤ 1000000000) (hb : b.size ≤ 1000000000) (w : World) :
    Calls Tryz.prog 223 #[.string a, .string b] w fun e w' => e = .returned (.bool (clashB (tl a) (tl b))) ∧ w = w' := by
  have B1 := Lib.hid (below_any a b hb w)
  have B2 := Lib.hid (below_any b a ha w)
  unfold clashB
  generalize (belowB (tl a) (tl b)).isSome = x at *
  generalize (belowB (tl b) (tl a)).isSome = y at *
  generalize bs (rest (tl a) (tl b)) = r at *
  generalize bs (rest (tl b) (tl a)) = s at *
  cases x
  · go_enter Tryz.func223, Tryz.ntmps223
    go_wp2_with (go_at_call 263; first | ((with_reducible refine (B1.out).mono ?_); rintro e w1 ⟨rfl, rfl⟩; clear B1) | ((with_reducible refine (B2.out).mono ?_); rintro e w2 ⟨rfl, rfl⟩))
    go_ret
    exact ⟨rfl, rfl⟩
  · go_enter Tryz.func223, Tryz.ntmps223
    go_wp2_with (go_at_call 263; first | ((with_reducible refine (B1.out).mono ?_); rintro e w1 ⟨rfl, rfl⟩; clear B1) | ((with_reducible refine (B2.out).mono ?_); rintro e w2 ⟨rfl, rfl⟩))
    go_ret
    exact ⟨rfl, rfl⟩
theorem check1_any (a d s : ByteArray) (Bk : Nat) (W : World) (ha : a.size ≤ 1000000000) (hs : s.size ≤ 1000000000) (hB : Bk < W.heap.size) (hc : W.cell? ⟨Bk, 0, none⟩ = some (.string s)) :
    Calls Tryz.prog 222 #[.agg #[.string a, .string d], .pointer (some ⟨Bk, 0, none⟩)] W fun e w' => e = .returned (.bool (clashB (tl s) (tl a))) ∧ Below W.heap.size W w' := by
  have hne : Bk ≠ W.heap.size := by omega
  have CL : Hid (∀ V, Calls Tryz.prog 223 #[.string s, .string a] V fun e w' => e = .returned (.bool (clashB (tl s) (tl a))) ∧ V = w') := Lib.hid fun V => clash_any s a hs ha V
  go_enter Tryz.func222, Tryz.ntmps222
  go_wp2_with (go_at_call 223; (with_reducible refine (CL.out _).mono ?_); rintro e w1 ⟨rfl, rfl⟩)
  go_ret
  exact ⟨rfl, (Below.refl _ _).alloc (Nat.le_refl _) _⟩
theorem idx_any {α : Type} (p : α → Bool) (l : List α) : decide ((0 : Int) ≤ idx p l) = l.any p := by
  rcases idx_cases p l with ⟨h1, h2⟩ | ⟨k, hk, h1, h2⟩
  · rw [h1]
    have : l.any p = false := by
      rw [List.any_eq_false]
      intro x hx
      have := List.find?_eq_none.1 h2 x hx
      simpa using this
    rw [this]; rfl
  · rw [h1, decide_eq_true (by omega : (0 : Int) ≤ (k : Int))]
    symm
    rw [List.any_eq_true]
    exact ⟨l[k], List.getElem_mem hk, (List.find?_eq_some_iff_getElem.1 h2).1⟩
theorem containsF_any (g : Nat) (lb : Array Value) (p : Fl → Bool) (A : Option Addr) (l : List Fl) (c : Nat) (w : World) (IX : Hid (Calls Tryz.prog 262 #[.slice A l.length c, .func (.func g) #[] lb] w fun e w' => e = .returned (.int .i64 (idx p l)) ∧ Below w.heap.size w w')) :
    Calls Tryz.prog 221 #[.slice A l.length c, .func (.func g) #[] lb] w fun e w' => e = .returned (.bool (l.any p)) ∧ Below w.heap.size w w' := by
  have F := Lib.hid (idx_any p l)
  generalize idx p l = r at *
  go_enter Tryz.func221, Tryz.ntmps221
  go_wp2_with (go_at_call 262; (with_reducible refine (IX.out).mono ?_); rintro e w1 ⟨rfl, hb⟩)
  go_ret
  exact ⟨by rw [← F.out]; rfl, hb⟩
theorem ppath_all (s : ByteArray) (w : World) (hE : Env w) :
    Calls Tryz.prog 220 #[.string s] w fun e w' => e = .returned (.int .i64 (Lg.pathE (tl s))) ∧ Below w.heap.size w w' := by
  by_cases h : s.size ≤ 48
  · obtain ⟨⟨m, hm⟩, _⟩ := hE
    exact Lg.ppath_any s m w (by omega) hm
  · have HN := Lib.hid (Lg.pathE_no (s := s) (.inr (by omega)))
    have hne := Lg.some_ne (s := s) (by omega)
    have h16 : (48 : Int) < (s.size : Int) := by omega
    go_enter Tryz.func220, Tryz.ntmps220
    go_wp2_with (fail)
    go_ret
    exact ⟨Lg.ret_int HN.out, Below.refl _ _⟩
theorem clean_size {l : List Fl} (h : ∀ j (hj : j < l.length), j < l.length → badF l[j] = none) : ∀ f ∈ l, f.p.size ≤ 1000000000 := fun f hf => by
  obtain ⟨j, hj, rfl⟩ := List.mem_iff_getElem.1 hf
  have h2 := h j hj hj
  unfold badF at h2
  split at h2
  · cases h2
  · rename_i hx
    have hx : Lg.pathOk (tl l[j].p) = true := by simpa using hx
    unfold Lg.pathOk at hx
    simp only [Bool.and_eq_true, decide_eq_true_eq] at hx
    have := hx.1.2
    rw [tl_len] at this
    omega
def Single (l : List Fl) (k : Nat) : Prop := ∀ j (hj : j < l.length), j < k → (∀ h : 0 < j, tl (l[j - 1]'(by omega)).p < tl l[j].p) ∧ ∀ m (hm : m < l.length), clashB (tl l[j].p) (tl l[m].p) = false
theorem Single.next {l : List Fl} {k : Nat} (hk : k < l.length) (h : Single l k) (h1 : ∀ h : 0 < k, tl (l[k - 1]'(by omega)).p < tl l[k].p) (h2 : l.any (fun g => clashB (tl l[k].p) (tl g.p)) = false) : Single l (k + 1) := fun j hj hjk => by
  rcases Nat.lt_or_ge j k with h3 | h3
  · exact h j hj h3
  · obtain rfl : j = k := by omega
    refine ⟨h1, fun m hm => ?_⟩
    have := List.any_eq_false.1 h2 l[m] (List.getElem_mem hm)
    simpa using this
theorem Single.all {l : List Fl} (h : Single l l.length) : ¬ Twice l := by
  rintro (⟨i, hi, h0, h1⟩ | ⟨i, hi, k, hk, h1⟩)
  · exact h1 ((h i hi hi).1 h0)
  · have := (h i hi hi).2 k hk
    unfold clashB at this
    rw [h1] at this
    cases this
theorem twice_order {l : List Fl} {k : Nat} (hk : k < l.length) (h0 : 0 < k) (h : ¬ tl (l[k - 1]'(by omega)).p < tl l[k].p) : Twice l := .inl ⟨k, hk, h0, h⟩
theorem twice_clash {l : List Fl} {k : Nat} (hk : k < l.length) (h : l.any (fun g => clashB (tl l[k].p) (tl g.p)) = true) : Twice l := by
  obtain ⟨g, hg, h1⟩ := List.any_eq_true.1 h
  obtain ⟨m, hm, rfl⟩ := List.mem_iff_getElem.1 hg
  unfold clashB at h1
  cases e : (belowB (tl l[k].p) (tl l[m].p)).isSome with
  | true => exact .inr ⟨k, hk, m, hm, e⟩
  | false =>
    rw [e, Bool.false_or] at h1
    exact .inr ⟨m, hm, k, hk, h1⟩
theorem badF_path {f : Fl} (h : Lg.pathOk (tl f.p) = false) : badF f = some 13 := by unfold badF; rw [if_pos h]
theorem badF_data {f : Fl} (h : Lg.pathOk (tl f.p) = true) (h2 : 2048 < f.d.size) : badF f = some 15 := by unfold badF; rw [if_neg (by simp [h]), if_pos h2]
theorem badF_no {f : Fl} (h : Lg.pathOk (tl f.p) = true) (h2 : ¬ 2048 < f.d.size) : badF f = none := by unfold badF; rw [if_neg (by simp [h]), if_neg h2]
def Clean (l : List Fl) (k : Nat) : Prop := ∀ j (hj : j < l.length), j < k → badF l[j] = none
theorem Clean.next {l : List Fl} {k : Nat} (hk : k < l.length) (h : Clean l k) (h1 : badF l[k] = none) : Clean l (k + 1) := fun j hj hjk => by
  rcases Nat.lt_or_ge j k with h2 | h2
  · exact h j hj h2
  · obtain rfl : j = k := by omega
    exact h1
set_option maxHeartbeats 4000000 in
theorem pcheck_any (A : Option Addr) (l : List Fl) (c : Nat) (w : World) (hE : Env w) (hr : Fls w A l) (hl : l.length ≤ maxLen) (hz : ∀ f ∈ l, f.p.size ≤ maxLen ∧ f.d.size ≤ maxLen) :
    Calls Tryz.prog 189 #[.slice A l.length c] w fun e w' => e = .returned (.int .i64 (checkE l)) ∧ Below w.heap.size w w' := by
  have RD : Hid (∀ W, Below w.heap.size w W → Reads W w.heap.size 2 A l.length (fc l)) := Lib.hid fun W hW => hr.below hW
  have EV := Lib.hid (fun W (h : Below w.heap.size w W) => hE.below h)
  have SZ := Lib.hid hz
  unfold maxLen at hl
  clear hr hE hz
  go_enter Tryz.func189, Tryz.ntmps189
  go_wp2_with (fail)
  go_loopw [9] (fun i W => ∃ k : Nat, i = .int .i64 k ∧ k ≤ l.length ∧ Clean l k ∧ Below w.heap.size w W) (fun i _ => l.length - (intOf i).toNat)
  case atStart => exact ⟨0, rfl, by omega, fun j _ h => by omega, Below.refl _ _⟩
  case round =>
    obtain ⟨k, rfl, hk, hcl, hb⟩ := hrel
    have HC := Lib.hid hcl
    clear hcl
    by_cases hlt : k < l.length
    · have hkI : (k : Int) < (l.length : Int) := by omega
      obtain ⟨ad, rfl, had, c0, c1⟩ := Fls.at_ (RD.out _ hb) hlt
      have hs0 := hb.size
      have hzz := SZ.out _ (List.getElem_mem hlt)
      unfold maxLen at hzz
      have NX := Lib.hid (fun h => Clean.next hlt HC.out h)
      have BAD := Lib.hid (fun c (h : badF l[k] = some c) => check_first hlt HC.out h)
      have PA : Hid (∀ W, Below w.heap.size w W → Calls Tryz.prog 220 #[.string l[k].p] W fun e w' => e = .returned (.int .i64 (Lg.pathE (tl l[k].p))) ∧ Below W.heap.size W w') := Lib.hid fun W hW => ppath_all l[k].p W (EV.out _ hW)
      have hb1 : Below w.heap.size w (wr.alloc (.cells #[.string l[k].p, .string l[k].d] 131)) := hb.alloc hs0 _
      have PB := Lib.hid (PA.out _ hb1)
      have q0 := heap_alloc_new wr (.cells #[.string l[k].p, .string l[k].d] 131)
      have D1 : Hid (∀ W, Below (wr.alloc (.cells #[.string l[k].p, .string l[k].d] 131)).heap.size (wr.alloc (.cells #[.string l[k].p, .string l[k].d] 131)) W → W.cell? ⟨wr.heap.size, 1, none⟩ = some (.string l[k].d)) := Lib.hid fun W hW => (cell_heap (heap_below hW (by simp) q0) 1).trans rfl
      have HB := Lib.hid hb1
      clear PA hb1 q0
      by_cases hp : Lg.pathOk (tl l[k].p) = true
      · rw [pathE_yes hp] at PB
        by_cases hd : 2048 < l[k].d.size
        · have F := Lib.hid (BAD.out _ (badF_data hp hd))
          have j1 : decide ((2048 : Int) < (l[k].d.size : Int)) = true := decide_eq_true (by omega)
          have j2 : (2048 : Int) < (l[k].d.size : Int) := by omega
          clear hp hd BAD NX
          generalize l[k] = f at *
          go_wp2_with (go_at_call 220; (with_reducible refine (PB.out).mono ?_); rintro e w2 ⟨rfl, hb2⟩; have d1 := D1.out _ hb2)
          go_ret
          exact ⟨Lg.ret_int F.out, HB.out.trans (hb2.mono HB.out.size)⟩
        · have F := Lib.hid (NX.out (badF_no hp hd))
          have j1 : decide ((2048 : Int) < (l[k].d.size : Int)) = false := decide_eq_false (by omega)
          have j2 : ¬ (2048 : Int) < (l[k].d.size : Int) := by omega
          clear hp hd BAD NX
          generalize l[k] = f at *
          go_wp2_with (go_at_call 220; (with_reducible refine (PB.out).mono ?_); rintro e w2 ⟨rfl, hb2⟩; have d1 := D1.out _ hb2)
          go_roundw
          case rel => exact ⟨k + 1, by go_num, by omega, F.out, HB.out.trans (hb2.mono HB.out.size)⟩
          case measure => simp [intOf]; omega
      · have hp' : Lg.pathOk (tl l[k].p) = false := by simpa using hp
        rw [pathE_not hp'] at PB
        have F := Lib.hid (BAD.out _ (badF_path hp'))
        clear hp hp' BAD NX
        generalize l[k] = f at *
        go_wp2_with (go_at_call 220; (with_reducible refine (PB.out).mono ?_); rintro e w2 ⟨rfl, hb2⟩)
        go_ret
        exact ⟨Lg.ret_int F.out, HB.out.trans (hb2.mono HB.out.size)⟩
    · obtain rfl : k = l.length := by omega
      by_cases h32 : 32 < l.length
      · have F := Lib.hid (check_many HC.out h32)
        have j1 : (32 : Int) < (l.length : Int) := by omega
        go_wp2_with (fail)
        go_ret
        exact ⟨Lg.ret_int F.out, hb⟩
      · have j1 : ¬ (32 : Int) < (l.length : Int) := by omega
        have SY := Lib.hid (clean_size HC.out)
        have TW := Lib.hid (fun h => check_twice HC.out h32 h)
        have GO := Lib.hid (fun h => check_good HC.out h32 h)
        clear HC
        obtain ⟨w3, rfl⟩ : ∃ w3, w3 = wr := ⟨_, rfl⟩
        have HB3 := Lib.hid hb
        clear hb hlt hk
        go_wp2_with (fail)
        go_loopw [29] (fun i W => ∃ k : Nat, i = .int .i64 k ∧ k ≤ l.length ∧ Single l k ∧ Below w.heap.size w W) (fun i _ => l.length - (intOf i).toNat)
        case atStart => exact ⟨0, rfl, by omega, fun j _ h => by omega, HB3.out⟩
        case round =>
          obtain ⟨k, rfl, hk, hcl, hb⟩ := hrel
          have HC := Lib.hid hcl
          clear hcl
          by_cases hlt : k < l.length
          · have hkI : (k : Int) < (l.length : Int) := by omega
            obtain ⟨ad, rfl, had, c0, c1⟩ := Fls.at_ (RD.out _ hb) hlt
            have hs0 := hb.size
            have hzz := SY.out _ (List.getElem_mem hlt)
            have NX := Lib.hid (fun h1 h2 => Single.next hlt HC.out h1 h2)
            have TO := Lib.hid (fun h0 h => TW.out (twice_order hlt h0 h))
            have TC := Lib.hid (fun h => TW.out (twice_clash hlt h))
            obtain ⟨W1, eW⟩ : ∃ W1, W1 = wr.alloc (.cells #[.string l[k].p, .string l[k].d] 131) := ⟨_, rfl⟩
            have hb1 : Below wr.heap.size wr W1 := by rw [eW]; exact (Below.refl _ _).alloc (Nat.le_refl _) _
            have hblk : W1.heap[wr.heap.size]? = some (.cells #[.string l[k].p, .string l[k].d] 131 (0, 0)) := by rw [eW]; exact heap_alloc_new wr _
            have hlt1 := Lg.lt_heap hblk
            have hw1 : Below w.heap.size w W1 := hb.trans (hb1.mono hs0)
            have hs1 := hw1.size
            have d0 : ∀ w', Below W1.heap.size W1 w' → w'.cell? ⟨wr.heap.size, 0, none⟩ = some (.string l[k].p) := fun w' h => (cell_heap (heap_below h hlt1 hblk) 0).trans rfl
            have CF : Hid (∀ W, Below W1.heap.size W1 W → Calls Tryz.prog 221 #[.slice (some ad) l.length c, .func (.func 222) #[] #[.pointer (some ⟨wr.heap.size, 0, none⟩)]] W fun e w' => e = .returned (.bool (l.any fun g => clashB (tl l[k].p) (tl g.p))) ∧ Below W.heap.size W w') := Lib.hid fun W hW =>
              containsF_any _ _ _ _ _ _ _ (Lib.hid (indexF_any 222 #[.pointer (some ⟨wr.heap.size, 0, none⟩)] (enters_of Tryz.func222 (by kernel_rfl) rfl) (fun g => clashB (tl l[k].p) (tl g.p)) (some ad) l c W ((RD.out _ (hw1.trans (hW.mono hs1))).more (Nat.le_trans hs1 hW.size)) (by omega)
                (fun f hf V hV => by
                  have hz2 := SY.out _ hf
                  exact check1_any f.p f.d l[k].p wr.heap.size V hz2 hzz (by have := hV.size; have := hW.size; omega) (d0 _ (hW.trans (hV.mono hW.size))))))
            have HB := Lib.hid (fun W (h : Below W1.heap.size W1 W) => hw1.trans (h.mono hs1))
            have hmf : ∀ (fn : Fn) (first cap : Array Value) (w : World), (Instr.makeFunc fn first cap).run Tryz.prog w = .ok (.func fn first cap) w := fun _ _ _ _ => rfl
            clear hblk hlt1 hb1 hw1 hs1
            by_cases hk0 : k = 0
            · have j2 : ¬ (0 : Int) < (k : Int) := by omega
              have j3 : decide ((0 : Int) < (k : Int)) = false := decide_eq_false j2
              have j4 : decide (0 < k) = false := decide_eq_false (by omega)
              cases hx : l.any (fun g => clashB (tl l[k].p) (tl g.p)) with
              | true =>
                have C1 : Hid (∀ W, Below W1.heap.size W1 W → Calls Tryz.prog 221 #[.slice (some ad) l.length c, .func (.func 222) #[] #[.pointer (some ⟨wr.heap.size, 0, none⟩)]] W fun e w' => e = .returned (.bool true) ∧ Below W.heap.size W w') := Lib.hid (by rw [← hx]; exact CF.out)
                have F := Lib.hid (TC.out hx)
                clear hx CF NX TC TO hk0 hzz
                generalize l[k] = x at *
                go_wp2_with (fail)
                rw [← eW]
                clear eW
                refine wp_region_cls (C := fun w' => Below W1.heap.size W1 w') (by kernel_rfl) (by kernel_rfl) (Below.refl _ _).drew ?_
                repeat (first | go_big_quiet_skip | quiet_step (first | (intro _; rfl) | (intro _; rw [if_neg (by omega)]; exact ⟨rfl, rfl⟩) | (intro hss; (first | rw [d0 _ hss]); exact ⟨rfl, rfl⟩) | (intro hss; go_at_call 221; (with_reducible refine (C1.out _ hss).mono ?_); rintro e w4 ⟨rfl, hb4⟩; exact ⟨rfl, hss.trans (hb4.mono hss.size)⟩)))
                refine wpQuiet_nil ?_
                intro w2 hb2
                go_wp2
                go_ret
                exact ⟨Lg.ret_int F.out, HB.out _ hb2⟩
              | false =>
                have C1 : Hid (∀ W, Below W1.heap.size W1 W → Calls Tryz.prog 221 #[.slice (some ad) l.length c, .func (.func 222) #[] #[.pointer (some ⟨wr.heap.size, 0, none⟩)]] W fun e w' => e = .returned (.bool false) ∧ Below W.heap.size W w') := Lib.hid (by rw [← hx]; exact CF.out)
                have F := Lib.hid (NX.out (fun h => absurd h (by omega)) hx)
                clear hx CF NX TC TO hk0 hzz
                generalize l[k] = x at *
                go_wp2_with (fail)
                rw [← eW]
                clear eW
                refine wp_region_cls (C := fun w' => Below W1.heap.size W1 w') (by kernel_rfl) (by kernel_rfl) (Below.refl _ _).drew ?_
                repeat (first | go_big_quiet_skip | quiet_step (first | (intro _; rfl) | (intro _; rw [if_neg (by omega)]; exact ⟨rfl, rfl⟩) | (intro hss; (first | rw [d0 _ hss]); exact ⟨rfl, rfl⟩) | (intro hss; go_at_call 221; (with_reducible refine (C1.out _ hss).mono ?_); rintro e w4 ⟨rfl, hb4⟩; exact ⟨rfl, hss.trans (hb4.mono hss.size)⟩)))
                refine wpQuiet_nil ?_
                intro w2 hb2
                go_wp2
                go_roundw
                case rel => exact ⟨k + 1, by go_num, by omega, F.out, HB.out _ hb2⟩
                case measure => simp [intOf]; omega
            · obtain ⟨q, hq⟩ : ∃ q, q = k - 1 := ⟨_, rfl⟩
              have hlp : q < l.length := by omega
              obtain ⟨ad', ead, had', p0, p1⟩ := Fls.at_ (RD.out _ hb) hlp
              obtain rfl : ad = ad' := Option.some.inj ead
              have dp : ∀ w', Below W1.heap.size W1 w' → w'.cell? (ad.add (q * 2)) = some (.string l[q].p) := fun w' h => ((HB.out _ h).cell (by rw [block_of_add]; exact had)).trans (((hb.cell (by rw [block_of_add]; exact had)).symm).trans p0)
              have iv : IntKind.i64.wrap ((k : Int) - 1) = (q : Int) := by rw [show ((k : Int) - 1) = q by omega]; exact IntWalk.i64_in _ (by omega)
              have i0 : (q : Int) < (l.length : Int) := by omega
              have j0 : (0 : Int) < (k : Int) := by omega
              have j2 : decide (0 < k) = true := decide_eq_true (by omega)
              have ho2 : l[k - 1]'(by omega) = l[q] := by subst hq; rfl
              clear p0 p1 had' ead
              by_cases ho : tl l[q].p < tl l[k].p
              · have o1 := lt_op (a := l[q].p) (b := l[k].p) ho
                cases hx : l.any (fun g => clashB (tl l[k].p) (tl g.p)) with
                | true =>
                  have C1 : Hid (∀ W, Below W1.heap.size W1 W → Calls Tryz.prog 221 #[.slice (some ad) l.length c, .func (.func 222) #[] #[.pointer (some ⟨wr.heap.size, 0, none⟩)]] W fun e w' => e = .returned (.bool true) ∧ Below W.heap.size W w') := Lib.hid (by rw [← hx]; exact CF.out)
                  have F := Lib.hid (TC.out hx)
                  clear hx CF NX TC TO hk0 hzz ho ho2 hq
                  generalize l[k] = x at *
                  generalize l[q] = y at *
                  go_wp2_with (fail)
                  rw [← eW]
                  clear eW
                  refine wp_region_cls (C := fun w' => Below W1.heap.size W1 w') (by kernel_rfl) (by kernel_rfl) (Below.refl _ _).drew ?_
                  repeat (first | go_big_quiet_skip | quiet_step (first | (intro _; rfl) | (intro _; rw [if_neg (by omega)]; exact ⟨rfl, rfl⟩) | (intro hss; (first | rw [d0 _ hss] | rw [dp _ hss]); exact ⟨rfl, rfl⟩) | (intro hss; go_at_call 221; (with_reducible refine (C1.out _ hss).mono ?_); rintro e w4 ⟨rfl, hb4⟩; exact ⟨rfl, hss.trans (hb4.mono hss.size)⟩)))
                  refine wpQuiet_nil ?_
                  intro w2 hb2
                  go_wp2
                  go_ret
                  exact ⟨Lg.ret_int F.out, HB.out _ hb2⟩
                | false =>
                  have C1 : Hid (∀ W, Below W1.heap.size W1 W → Calls Tryz.prog 221 #[.slice (some ad) l.length c, .func (.func 222) #[] #[.pointer (some ⟨wr.heap.size, 0, none⟩)]] W fun e w' => e = .returned (.bool false) ∧ Below W.heap.size W w') := Lib.hid (by rw [← hx]; exact CF.out)
                  have F := Lib.hid (NX.out (fun _ => by rw [ho2]; exact ho) hx)
                  clear hx CF NX TC TO hk0 hzz ho ho2 hq
                  generalize l[k] = x at *
                  generalize l[q] = y at *
                  go_wp2_with (fail)
                  rw [← eW]
                  clear eW
                  refine wp_region_cls (C := fun w' => Below W1.heap.size W1 w') (by kernel_rfl) (by kernel_rfl) (Below.refl _ _).drew ?_
                  repeat (first | go_big_quiet_skip | quiet_step (first | (intro _; rfl) | (intro _; rw [if_neg (by omega)]; exact ⟨rfl, rfl⟩) | (intro hss; (first | rw [d0 _ hss] | rw [dp _ hss]); exact ⟨rfl, rfl⟩) | (intro hss; go_at_call 221; (with_reducible refine (C1.out _ hss).mono ?_); rintro e w4 ⟨rfl, hb4⟩; exact ⟨rfl, hss.trans (hb4.mono hss.size)⟩)))
                  refine wpQuiet_nil ?_
                  intro w2 hb2
                  go_wp2
                  go_roundw
                  case rel => exact ⟨k + 1, by go_num, by omega, F.out, HB.out _ hb2⟩
                  case measure => simp [intOf]; omega
              · have F := Lib.hid (TO.out (by omega) (by rw [ho2]; exact ho))
                have o1 := nlt_op (a := l[q].p) (b := l[k].p) ho
                clear CF NX TC TO ho ho2 hq hk0 hzz
                generalize l[k] = x at *
                generalize l[q] = y at *
                go_wp2_with (fail)
                rw [← eW]
                clear eW
                refine wp_region_cls (C := fun w' => Below W1.heap.size W1 w') (by kernel_rfl) (by kernel_rfl) (Below.refl _ _).drew ?_
                repeat (first | go_big_quiet_skip | quiet_step (first | (intro _; rfl) | (intro _; rw [if_neg (by omega)]; exact ⟨rfl, rfl⟩) | (intro hss; (first | rw [d0 _ hss] | rw [dp _ hss]); exact ⟨rfl, rfl⟩)))
                refine wpQuiet_nil ?_
                intro w2 hb2
                go_wp2
                go_ret
                exact ⟨Lg.ret_int F.out, HB.out _ hb2⟩
          · obtain rfl : k = l.length := by omega
            have F := Lib.hid (GO.out (Single.all HC.out))
            go_wp2_with (fail)
            go_ret
            exact ⟨Lg.ret_int F.out, hb⟩
end Go.Proofs.YtmlaolmaopjhbaaGreatDoor.Fs
/- FsLays, what a claim needs of it (prune.py). -/
namespace Go.Proofs
open Go.Shelf
def Tryz.l172_ren : Go.Shelf.Ren := ⟨fun | 190 => 172 | 125 => 207 | 258 => 206 | 128 => 244 | 129 => 245 | 302 => 235 | 303 => 236 | 304 => 237 | 305 => 238 | 306 => 239 | 307 => 240 | 308 => 241 | 309 => 242 | 310 => 243 | 333 => 273 | 329 => 274 | 330 => 275 | 334 => 276 | 335 => 277 | 336 => 278 | 344 => 298 | n => n, fun | 31 => 65 | 9 => 9 | 3 => 3 | 46 => 239 | 0 => 0 | 51 => 251 | 53 => 276 | 4 => 4 | 183 => 269 | 182 => 268 | 131 => 100 | 5 => 5 | 218 => 301 | 222 => 305 | 228 => 324 | 229 => 325 | n => n, fun | n => n⟩
theorem Tryz.l172 : Go.Proofs.Lays.n190 Tryz.prog Tryz.l172_ren := {
  mixed := by kernel_rfl
  f125 := Tryz.func207.trans (congrArg some (by kernel_rfl))
  f128 := Tryz.func244.trans (congrArg some (by kernel_rfl))
  f129 := Tryz.func245.trans (congrArg some (by kernel_rfl))
  f190 := Tryz.func172.trans (congrArg some (by kernel_rfl))
  f258 := Tryz.func206.trans (congrArg some (by kernel_rfl))
  f302 := Tryz.func235.trans (congrArg some (by kernel_rfl))
  f303 := Tryz.func236.trans (congrArg some (by kernel_rfl))
  f304 := Tryz.func237.trans (congrArg some (by kernel_rfl))
  f305 := Tryz.func238.trans (congrArg some (by kernel_rfl))
  f306 := Tryz.func239.trans (congrArg some (by kernel_rfl))
  f307 := Tryz.func240.trans (congrArg some (by kernel_rfl))
  f308 := Tryz.func241.trans (congrArg some (by kernel_rfl))
  f309 := Tryz.func242.trans (congrArg some (by kernel_rfl))
  f310 := Tryz.func243.trans (congrArg some (by kernel_rfl))
  f329 := Tryz.func274.trans (congrArg some (by kernel_rfl))
  f330 := Tryz.func275.trans (congrArg some (by kernel_rfl))
  f333 := Tryz.func273.trans (congrArg some (by kernel_rfl))
  f334 := Tryz.func276.trans (congrArg some (by kernel_rfl))
  f335 := Tryz.func277.trans (congrArg some (by kernel_rfl))
  f336 := Tryz.func278.trans (congrArg some (by kernel_rfl))
  f344 := Tryz.func298.trans (congrArg some (by kernel_rfl))
  t0 := Tryz.underlying0
  a0 := Tryz.isAgg0
  z0 := Tryz.sizeOf0
  v0 := Tryz.zeroValue0
  t3 := Tryz.underlying3
  a3 := Tryz.isAgg3
  z3 := Tryz.sizeOf3
  v3 := Tryz.zeroValue3
  t4 := Tryz.underlying4
  a4 := Tryz.isAgg4
  z4 := Tryz.sizeOf4
  v4 := Tryz.zeroValue4
  t5 := Tryz.underlying5
  a5 := Tryz.isAgg5
  z5 := Tryz.sizeOf5
  v5 := Tryz.zeroValue5
  t9 := Tryz.underlying9
  a9 := Tryz.isAgg9
  z9 := Tryz.sizeOf9
  v9 := Tryz.zeroValue9
  t31 := Tryz.underlying65
  a31 := Tryz.isAgg65
  z31 := Tryz.sizeOf65
  v31 := Tryz.zeroValue65
  t46 := Tryz.underlying239
  a46 := Tryz.isAgg239
  z46 := Tryz.sizeOf239
  v46 := Tryz.zeroValue239
  t51 := Tryz.underlying251
  a51 := Tryz.isAgg251
  z51 := Tryz.sizeOf251
  v51 := Tryz.zeroValue251
  t53 := Tryz.underlying276
  a53 := Tryz.isAgg276
  z53 := Tryz.sizeOf276
  v53 := Tryz.zeroValue276
  t131 := Tryz.underlying100
  a131 := Tryz.isAgg100
  z131 := Tryz.sizeOf100
  v131 := Tryz.zeroValue100
  t182 := Tryz.underlying268
  a182 := Tryz.isAgg268
  z182 := Tryz.sizeOf268
  v182 := Tryz.zeroValue268
  t183 := Tryz.underlying269
  a183 := Tryz.isAgg269
  z183 := Tryz.sizeOf269
  v183 := Tryz.zeroValue269
  t218 := Tryz.underlying301
  a218 := Tryz.isAgg301
  z218 := Tryz.sizeOf301
  v218 := Tryz.zeroValue301
  t222 := Tryz.underlying305
  a222 := Tryz.isAgg305
  z222 := Tryz.sizeOf305
  v222 := Tryz.zeroValue305
  t228 := Tryz.underlying324
  a228 := Tryz.isAgg324
  z228 := Tryz.sizeOf324
  v228 := Tryz.zeroValue324
  t229 := Tryz.underlying325
  a229 := Tryz.isAgg325
  z229 := Tryz.sizeOf325
  v229 := Tryz.zeroValue325 }
end Go.Proofs
