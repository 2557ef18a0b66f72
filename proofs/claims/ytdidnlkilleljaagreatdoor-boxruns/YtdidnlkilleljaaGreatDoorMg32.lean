/- Joined by mkmerged.py: RxWith. -/
import Derived.Test.YtdidnlkilleljaaGreatDoorMg31
import Derived.Test.YtdidnlkilleljaaGreatDoorMg25
import Derived.Laws.Cover1
/- RxWith, what a claim needs of it (prune.py). -/
namespace Go.Proofs.YtdidnlkilleljaaGreatDoor.Bx
open Go.RowKit
open Fs (fc fc_len fc_cell fc_append Fls FilesOwn infoF B belowB reads2_one idx NoneTo)
set_option linter.unusedVariables false
set_option maxRecDepth 100000
theorem idx_none {p : Fl → Bool} {l : List Fl} (h : NoneTo p l l.length) : idx p l = -1 := by
  have : l.findIdx? p = none := List.findIdx?_eq_none_iff.2 fun x hx => by
    obtain ⟨j, hj, rfl⟩ := List.mem_iff_getElem.1 hx
    exact h j hj hj
  rw [idx, this]
theorem idx_some {p : Fl → Bool} {l : List Fl} {k : Nat} (hk : k < l.length) (h : NoneTo p l k) (hp : p l[k] = true) : idx p l = k := by
  have : l.findIdx? p = some k := List.findIdx?_eq_some_iff_getElem.2 ⟨hk, hp, fun j hj => by
    have := h j (by omega) hj
    simp [this]⟩
  rw [idx, this]
structure WInv (l : List Fl) (p : B) (at_ : Nat) (same : Bool) (k : Nat) : Prop where
  nc : NoneTo (fun g => clashP p (tl g.p)) l k
  no : same = false → at_ = l.length ∧ NoneTo (fun g : Fl => decide (tl g.p = p)) l k
  yes : same = true → at_ < l.length ∧ idx (fun g : Fl => decide (tl g.p = p)) l = at_
theorem WInv.zero (l : List Fl) (p : B) : WInv l p l.length false 0 := ⟨NoneTo.zero _ _, fun _ => ⟨rfl, NoneTo.zero _ _⟩, fun h => by cases h⟩
theorem WInv.kept {l : List Fl} {p : B} {at_ k : Nat} (h : WInv l p at_ true k) (hk : k < l.length) (hc : clashP p (tl l[k].p) = false) : WInv l p at_ true (k + 1) := ⟨h.nc.next hk hc, (fun h => by cases h), h.yes⟩
theorem WInv.found {l : List Fl} {p : B} {at_ k : Nat} (h : WInv l p at_ false k) (hk : k < l.length) (hc : clashP p (tl l[k].p) = false) (he : tl l[k].p = p) : WInv l p k true (k + 1) := ⟨h.nc.next hk hc, (fun h => by cases h), fun _ => ⟨hk, idx_some hk (h.no rfl).2 (decide_eq_true he)⟩⟩
theorem WInv.miss {l : List Fl} {p : B} {at_ k : Nat} (h : WInv l p at_ false k) (hk : k < l.length) (hc : clashP p (tl l[k].p) = false) (he : tl l[k].p ≠ p) : WInv l p at_ false (k + 1) := ⟨h.nc.next hk hc, fun _ => ⟨(h.no rfl).1, (h.no rfl).2.next hk (decide_eq_false he)⟩, fun h => by cases h⟩
theorem any_of {l : List Fl} {q : Fl → Bool} {k : Nat} (hk : k < l.length) (h : q l[k] = true) : l.any q = true := List.any_eq_true.2 ⟨_, List.getElem_mem hk, h⟩
theorem none_any {l : List Fl} {q : Fl → Bool} (h : NoneTo q l l.length) : l.any q = false := by
  rw [List.any_eq_false]
  intro x hx
  obtain ⟨j, hj, rfl⟩ := List.mem_iff_getElem.1 hx
  simp [h j hj hj]
theorem clash1 {p q : B} (h : (belowB p q).isSome = true) : clashP p q = true := by unfold clashP; rw [h]; rfl
theorem clash2 {p q : B} (h : (belowB p q).isSome = false) (h2 : (belowB q p).isSome = true) : clashP p q = true := by unfold clashP; rw [h, h2]; rfl
theorem clash3 {p q : B} (h : (belowB p q).isSome = false) (h2 : (belowB q p).isSome = false) : clashP p q = false := by unfold clashP; rw [h, h2]; rfl
theorem gt_cases (a s : ByteArray) : (tl s < tl a ∧ Op.bytesLess a.toList s.toList = false ∧ (a.toList == s.toList) = false) ∨ (¬ tl s < tl a ∧ Op.bytesLess a.toList s.toList = true) ∨ (¬ tl s < tl a ∧ Op.bytesLess a.toList s.toList = false ∧ (a.toList == s.toList) = true) := by
  rcases Fs.lt_or (a := tl a) (b := tl s) with h | h | h
  · exact .inr (.inl ⟨fun k => List.lt_irrefl _ (List.lt_trans h k), Fs.lt_op h⟩)
  · have e : a = s := Lg.tl_inj h
    subst e
    exact .inr (.inr ⟨List.lt_irrefl _, Fs.nlt_op (List.lt_irrefl _), by simp⟩)
  · have hne : a ≠ s := fun e => by subst e; exact List.lt_irrefl _ h
    exact .inl ⟨h, Fs.nlt_op (fun k => List.lt_irrefl _ (List.lt_trans h k)), Lg.s_ne hne⟩
theorem ng_next {l : List Fl} {p : B} {q : Nat} (hq : q < l.length) (h : ∀ j (hj : j < l.length), j < q → ¬ p < tl l[j].p) (h1 : ¬ p < tl l[q].p) : ∀ j (hj : j < l.length), j < q + 1 → ¬ p < tl l[j].p := fun j hj hjq => by
  rcases Nat.lt_or_ge j q with h2 | h2
  · exact h j hj h2
  · obtain rfl : j = q := by omega
    exact h1
theorem fls_take {w : World} {ad : Addr} {l : List Fl} {a : Nat} (h : Fs.Fls w (some ad) l) (ha : a ≤ l.length) : Reads w w.heap.size 2 (some ad) a (fc (l.take a)) := by
  refine ⟨by rw [fc_len]; simp; omega, fun h0 => ?_⟩
  obtain ⟨ad', e, hb, hc⟩ := h.2 (by omega)
  injection e with e
  subst e
  refine ⟨_, rfl, hb, fun j u hu => hc j u ?_⟩
  rw [← fc_take, List.getElem?_take] at hu
  split at hu
  · exact hu
  · cases hu
theorem fls_drop {w : World} {ad : Addr} {l : List Fl} {b : Nat} (h : Fs.Fls w (some ad) l) : Reads w w.heap.size 2 (some (ad.add (b * 2))) (l.length - b) (fc (l.drop b)) := by
  refine ⟨by rw [fc_len]; simp, fun h0 => ?_⟩
  obtain ⟨ad', e, hb, hc⟩ := h.2 (by omega)
  injection e with e
  subst e
  refine ⟨_, rfl, by rw [block_of_add]; exact hb, fun j u hu => ?_⟩
  rw [← fc_drop, List.getElem?_drop] at hu
  rw [add_of_add]
  exact hc _ u hu
theorem reads_zero {w : World} {B0 size : Nat} {A : Option Addr} : Reads w B0 size A 0 [] := ⟨by simp, fun h => absurd h (by omega)⟩
theorem fc_mid (a b : List Fl) (f : Fl) : fc a ++ [Value.string f.p, .string f.d] ++ fc b = fc (a ++ f :: b) := by
  rw [fc_append, List.append_assoc]; rfl
theorem set_mid {l : List Fl} {k : Nat} (hk : k < l.length) (f : Fl) : l.set k f = l.take k ++ f :: l.drop (k + 1) := List.set_eq_take_append_cons_drop .. |>.trans (if_pos hk)
set_option maxHeartbeats 8000000 in
theorem rwith_any (A : Option Addr) (l : List Fl) (c : Nat) (f : Fl) (w : World) (hr : Fls w A l) (hlc : l.length ≤ c) (hl : l.length ≤ 900) (hz : ∀ g ∈ l, g.p.size ≤ 1000000000) (hfz : f.p.size ≤ 1000000000) (hfd : f.d.size ≤ 1000000000) :
    Calls Tryz.prog 179 #[.slice A l.length c, .agg #[.string f.p, .string f.d]] w (WithSays l f w) := by
  obtain ⟨W1, eW⟩ : ∃ W1, W1 = w.alloc (.cells #[.string f.p, .string f.d] 49) := ⟨_, rfl⟩
  have hb1 : Below w.heap.size w W1 := by rw [eW]; exact (Below.refl _ _).alloc (Nat.le_refl _) _
  have q0 : W1.heap[w.heap.size]? = some (.cells #[.string f.p, .string f.d] 49 (0, 0)) := by rw [eW]; exact heap_alloc_new w _
  have hw1 := hb1.size
  have D0 : Hid (∀ W, Below W1.heap.size W1 W → W.cell? ⟨w.heap.size, 0, none⟩ = some (.string f.p) ∧ W.cell? ⟨w.heap.size, 1, none⟩ = some (.string f.d)) := Lib.hid fun W hW => ⟨(cell_heap (heap_below hW (lt_heap q0) q0) 0).trans rfl, (cell_heap (heap_below hW (lt_heap q0) q0) 1).trans rfl⟩
  have RD : Hid (∀ W, Below W1.heap.size W1 W → Fls W A l) := Lib.hid fun W hW => by
    have h1 := hb1.trans (hW.mono hb1.size)
    exact (hr.below h1).more h1.size
  have HB := Lib.hid (fun W (hW : Below W1.heap.size W1 W) => hb1.trans (hW.mono hb1.size))
  obtain ⟨zf, hzi, hzs⟩ := infoF
  obtain ⟨i0, hi, hz0, hz1, hz2⟩ := Lg.info_parts hzi
  clear hzi
  have ZP := Lib.hid hz
  have ZF := Lib.hid hfz
  have PB : Hid (∀ W, Calls Tryz.prog 71 #[.string f.p] W fun e w' => e = .returned (.int .i64 (Lg.pathE (tl f.p))) ∧ W = w') := Lib.hid fun W => Lg.rpath_any f.p hfz W
  have ERR : Hid (∀ k : Int, withF l (tl f.p) (tl f.d) = ([], k) → ∀ W, Below W1.heap.size W1 W → WithSays l f w (.returned (.tuple #[.slice none 0 0, .int .i64 k])) W) := Lib.hid fun k hk W hW => ⟨_, by rw [hk], by rw [hk]; exact World.ownsRow_nil _ _ _ _, hb1.trans (hW.mono hb1.size)⟩
  have OKE : Hid (∀ m, withF l (tl f.p) (tl f.d) = (m, 0) → ∀ v W, W.ownsRow W1.heap.size 49 2 v m.length (fc m) → Below W1.heap.size W1 W → WithSays l f w (.returned (.tuple #[v, .int .i64 0])) W) := Lib.hid fun m hm v W ho hW => ⟨v, by rw [hm], by rw [hm]; exact own_low ho hw1, hb1.trans (hW.mono hb1.size)⟩
  clear hr hb1 q0 hz
  generalize WithSays l f w = Q at *
  by_cases hp : Lg.pathOk (tl f.p) = true
  case neg =>
    have hp' : Lg.pathOk (tl f.p) = false := by simpa using hp
    rw [Fs.pathE_not hp'] at PB
    have E1 := Lib.hid (ERR.out 13 (with_e1 hp'))
    obtain ⟨d0, d1⟩ := D0.out W1 (Below.refl _ _)
    clear hp hp' ERR OKE
    go_enter Tryz.func179, Tryz.ntmps179
    go_wp2_with (go_at_call 71; rw [← eW]; clear eW; (with_reducible refine (PB.out _).mono ?_); rintro e w2 ⟨rfl, rfl⟩)
    exact E1.out _ (Below.refl _ _)
  rw [Fs.pathE_yes hp] at PB
  by_cases hd : 2048 < f.d.size
  · have E1 := Lib.hid (ERR.out 15 (with_e2 hp (by rw [Fs.tl_len]; exact hd)))
    have i1 : (2048 : Int) < (f.d.size : Int) := by omega
    obtain ⟨d0, d1⟩ := D0.out W1 (Below.refl _ _)
    clear hp hd ERR OKE
    go_enter Tryz.func179, Tryz.ntmps179
    go_wp2_with (go_at_call 71; rw [← eW]; clear eW; (with_reducible refine (PB.out _).mono ?_); rintro e w2 ⟨rfl, rfl⟩)
    exact E1.out _ (Below.refl _ _)
  have i1 : ¬ (2048 : Int) < (f.d.size : Int) := by omega
  have hd2 : ¬ 2048 < (tl f.d).length := by rw [Fs.tl_len]; exact hd
  have E3 := Lib.hid (fun h => ERR.out 16 (with_e3 hp hd2 h))
  have E4 := Lib.hid (fun h h4 => ERR.out 15 (with_e4 hp hd2 h h4))
  have E5 := Lib.hid (fun h h4 => OKE.out _ (with_e5 hp hd2 h h4))
  obtain ⟨d0, d1⟩ := D0.out W1 (Below.refl _ _)
  clear ERR OKE hp hd hd2
  go_enter Tryz.func179, Tryz.ntmps179
  go_wp2_with (go_at_call 71; rw [← eW]; clear eW; (with_reducible refine (PB.out _).mono ?_); rintro e w2 ⟨rfl, rfl⟩)
  clear d0 d1
  go_loopw [6, 7, 8] (fun a b i W => ∃ (k at_ : Nat) (same : Bool), a = .int .i64 at_ ∧ b = .bool same ∧ i = .int .i64 k ∧ k ≤ l.length ∧ WInv l (tl f.p) at_ same k ∧ Below W1.heap.size W1 W) (fun _ _ i _ => l.length - (intOf i).toNat)
  case atStart => exact ⟨0, l.length, false, rfl, rfl, rfl, by omega, WInv.zero _ _, Below.refl _ _⟩
  case round =>
    obtain ⟨k, at_, same, rfl, rfl, rfl, hk, hinv, hb⟩ := hrel
    have HI := Lib.hid hinv
    clear hinv
    by_cases hlt : k < l.length
    · have hkI : (k : Int) < (l.length : Int) := by omega
      obtain ⟨ad, rfl, had, c0, _⟩ := Fs.Fls.at_ (RD.out _ hb) hlt
      have dk : ∀ w', Below wr.heap.size wr w' → w'.cell? (ad.add (k * 2)) = some (.string l[k].p) := fun w' h => ((h.cell (by rw [block_of_add]; exact had))).trans c0
      have d0 : ∀ w', Below wr.heap.size wr w' → w'.cell? ⟨w.heap.size, 0, none⟩ = some (.string f.p) := fun w' h => (D0.out w' (hb.trans (h.mono hb.size))).1
      have HC := Lib.hid (fun W (h : Below wr.heap.size wr W) => hb.trans (h.mono hb.size))
      have ANY := Lib.hid (fun h => E3.out (any_of (q := fun g => clashP (tl f.p) (tl g.p)) hlt h))
      have hzk := ZP.out _ (List.getElem_mem hlt)
      have B1 : Hid (∀ W, Calls Tryz.prog 72 #[.string f.p, .string l[k].p] W fun e w' => e = .returned (.bool (belowB (tl f.p) (tl l[k].p)).isSome) ∧ W = w') := Lib.hid fun W => Fs.rbelow_any f.p l[k].p hzk W
      have B2 : Hid (∀ W, Calls Tryz.prog 72 #[.string l[k].p, .string f.p] W fun e w' => e = .returned (.bool (belowB (tl l[k].p) (tl f.p)).isSome) ∧ W = w') := Lib.hid fun W => Fs.rbelow_any l[k].p f.p ZF.out W
      -- printed from here (mkrxwith.py)
      cases h1 : (belowB (tl f.p) (tl l[k].p)).isSome with
      | true =>
        rw [h1] at B1
        have F := Lib.hid (ANY.out (clash1 h1))
        clear h1 ANY E3 E4 E5 HI
        generalize l[k] = g at *
        go_wp2_with (fail)
        refine wp_region_cls (C := fun w' => Below wr.heap.size wr w') (by kernel_rfl) (by kernel_rfl) ((Below.refl _ _).drew) ?_
        repeat (first | go_big_quiet_skip | quiet_step (first | (intro _; rfl) | (intro _; rw [if_neg (by omega)]; exact ⟨rfl, rfl⟩) | (intro hss; (first | rw [dk _ hss] | rw [d0 _ hss]); exact ⟨rfl, rfl⟩) | (intro hss; go_at_call 72; first | ((with_reducible refine (B1.out _).mono ?_); rintro e w4 ⟨rfl, rfl⟩; exact ⟨rfl, hss⟩))))
        refine wpQuiet_nil ?_
        intro w2 hb2
        go_wp2
        exact F.out _ (HC.out _ hb2)
      | false =>
        rw [h1] at B1
        cases h2 : (belowB (tl l[k].p) (tl f.p)).isSome with
        | true =>
          rw [h2] at B2
          have F := Lib.hid (ANY.out (clash2 h1 h2))
          clear h1 h2 ANY E3 E4 E5 HI
          generalize l[k] = g at *
          go_wp2_with (fail)
          refine wp_region_cls (C := fun w' => Below wr.heap.size wr w') (by kernel_rfl) (by kernel_rfl) ((Below.refl _ _).drew) ?_
          repeat (first | go_big_quiet_skip | quiet_step (first | (intro _; rfl) | (intro _; rw [if_neg (by omega)]; exact ⟨rfl, rfl⟩) | (intro hss; (first | rw [dk _ hss] | rw [d0 _ hss]); exact ⟨rfl, rfl⟩) | (intro hss; go_at_call 72; first | ((with_reducible refine (B1.out _).mono ?_); rintro e w4 ⟨rfl, rfl⟩; exact ⟨rfl, hss⟩) | ((with_reducible refine (B2.out _).mono ?_); rintro e w4 ⟨rfl, rfl⟩; exact ⟨rfl, hss⟩))))
          refine wpQuiet_nil ?_
          intro w2 hb2
          go_wp2
          exact F.out _ (HC.out _ hb2)
        | false =>
          rw [h2] at B2
          have hcl := clash3 h1 h2
          clear h1 h2 ANY
          cases same with
          | true =>
            have F := Lib.hid (HI.out.kept hlt hcl)
            clear hcl HI
            obtain ⟨g, eg⟩ : ∃ g, g = l[k].p := ⟨_, rfl⟩
            rw [← eg] at B1 B2 dk
            clear eg hzk
            go_wp2_with (fail)
            refine wp_region_cls (C := fun w' => Below wr.heap.size wr w') (by kernel_rfl) (by kernel_rfl) ((Below.refl _ _).drew) ?_
            repeat (first | go_big_quiet_skip | quiet_step (first | (intro _; rfl) | (intro _; rw [if_neg (by omega)]; exact ⟨rfl, rfl⟩) | (intro hss; (first | rw [dk _ hss] | rw [d0 _ hss]); exact ⟨rfl, rfl⟩) | (intro hss; go_at_call 72; first | ((with_reducible refine (B1.out _).mono ?_); rintro e w4 ⟨rfl, rfl⟩; exact ⟨rfl, hss⟩) | ((with_reducible refine (B2.out _).mono ?_); rintro e w4 ⟨rfl, rfl⟩; exact ⟨rfl, hss⟩))))
            refine wpQuiet_nil ?_
            intro w2 hb2
            go_wp2_with (fail)
            have hb3 := hb2.drew
            refine wp_region_cls (C := fun w' => Below w2.heap.size w2 w') (by kernel_rfl) (by kernel_rfl) ((Below.refl _ _).drew) ?_
            repeat (first | go_big_quiet_skip | quiet_step (first | (intro _; rfl) | (intro _; rw [if_neg (by omega)]; exact ⟨rfl, rfl⟩) | (intro hss; (first | rw [dk _ (hb2.trans (hss.mono hb2.size))] | rw [d0 _ (hb2.trans (hss.mono hb2.size))]); exact ⟨rfl, rfl⟩)))
            refine wpQuiet_nil ?_
            intro w3 hb3
            go_wp2_with (fail)
            go_roundw
            case rel => exact ⟨k + 1, at_, true, rfl, rfl, by go_num, by omega, F.out, HC.out _ (hb2.trans (hb3.mono hb2.size))⟩
            case measure => simp [intOf]; omega
          | false =>
            by_cases he : l[k].p = f.p
            · have F := Lib.hid (HI.out.found hlt hcl (by rw [he]))
              have g : (l[k].p.toList == f.p.toList) = true := by rw [he]; simp
              clear hcl HI he
              obtain ⟨q, eq⟩ : ∃ q, q = l[k].p := ⟨_, rfl⟩
              rw [← eq] at B1 B2 dk g
              clear eq hzk
              go_wp2_with (fail)
              refine wp_region_cls (C := fun w' => Below wr.heap.size wr w') (by kernel_rfl) (by kernel_rfl) ((Below.refl _ _).drew) ?_
              repeat (first | go_big_quiet_skip | quiet_step (first | (intro _; rfl) | (intro _; rw [if_neg (by omega)]; exact ⟨rfl, rfl⟩) | (intro hss; (first | rw [dk _ hss] | rw [d0 _ hss]); exact ⟨rfl, rfl⟩) | (intro hss; go_at_call 72; first | ((with_reducible refine (B1.out _).mono ?_); rintro e w4 ⟨rfl, rfl⟩; exact ⟨rfl, hss⟩) | ((with_reducible refine (B2.out _).mono ?_); rintro e w4 ⟨rfl, rfl⟩; exact ⟨rfl, hss⟩))))
              refine wpQuiet_nil ?_
              intro w2 hb2
              go_wp2_with (fail)
              refine wp_region_cls (C := fun w' => Below w2.heap.size w2 w') (by kernel_rfl) (by kernel_rfl) ((Below.refl _ _).drew) ?_
              repeat (first | go_big_quiet_skip | quiet_step (first | (intro _; rfl) | (intro _; rw [if_neg (by omega)]; exact ⟨rfl, rfl⟩) | (intro hss; (first | rw [dk _ (hb2.trans (hss.mono hb2.size))] | rw [d0 _ (hb2.trans (hss.mono hb2.size))]); exact ⟨rfl, rfl⟩)))
              refine wpQuiet_nil ?_
              intro w3 hb3
              go_wp2_with (fail)
              go_roundw
              case rel => exact ⟨k + 1, k, true, rfl, rfl, by go_num, by omega, F.out, HC.out _ (hb2.trans (hb3.mono hb2.size))⟩
              case measure => simp [intOf]; omega
            · have F := Lib.hid (HI.out.miss hlt hcl (fun e => he (Lg.tl_inj e)))
              have g := Lg.s_ne he
              clear hcl HI he
              obtain ⟨q, eq⟩ : ∃ q, q = l[k].p := ⟨_, rfl⟩
              rw [← eq] at B1 B2 dk g
              clear eq hzk
              go_wp2_with (fail)
              refine wp_region_cls (C := fun w' => Below wr.heap.size wr w') (by kernel_rfl) (by kernel_rfl) ((Below.refl _ _).drew) ?_
              repeat (first | go_big_quiet_skip | quiet_step (first | (intro _; rfl) | (intro _; rw [if_neg (by omega)]; exact ⟨rfl, rfl⟩) | (intro hss; (first | rw [dk _ hss] | rw [d0 _ hss]); exact ⟨rfl, rfl⟩) | (intro hss; go_at_call 72; first | ((with_reducible refine (B1.out _).mono ?_); rintro e w4 ⟨rfl, rfl⟩; exact ⟨rfl, hss⟩) | ((with_reducible refine (B2.out _).mono ?_); rintro e w4 ⟨rfl, rfl⟩; exact ⟨rfl, hss⟩))))
              refine wpQuiet_nil ?_
              intro w2 hb2
              go_wp2_with (fail)
              refine wp_region_cls (C := fun w' => Below w2.heap.size w2 w') (by kernel_rfl) (by kernel_rfl) ((Below.refl _ _).drew) ?_
              repeat (first | go_big_quiet_skip | quiet_step (first | (intro _; rfl) | (intro _; rw [if_neg (by omega)]; exact ⟨rfl, rfl⟩) | (intro hss; (first | rw [dk _ (hb2.trans (hss.mono hb2.size))] | rw [d0 _ (hb2.trans (hss.mono hb2.size))]); exact ⟨rfl, rfl⟩)))
              refine wpQuiet_nil ?_
              intro w3 hb3
              go_wp2_with (fail)
              go_roundw
              case rel => exact ⟨k + 1, at_, false, rfl, rfl, by go_num, by omega, F.out, HC.out _ (hb2.trans (hb3.mono hb2.size))⟩
              case measure => simp [intOf]; omega
    · obtain rfl : k = l.length := by omega
      have NC := none_any HI.out.nc
      have hbw := hb
      obtain ⟨M, eM⟩ : ∃ M, M = putF l (tl f.p) (tl f.d) := ⟨_, rfl⟩
      have X4 := Lib.hid (fun h => E4.out NC h)
      have X5 := Lib.hid (fun h => E5.out NC h)
      rw [← eM] at X4 X5
      cases same with
      | true =>
        obtain ⟨hat, hidx⟩ := HI.out.yes rfl
        have EM := Lib.hid (eM.trans ((put_set (f := f) hat hidx).trans (set_mid hat f)))
        have ML : M.length ≤ l.length := by rw [EM.out]; simp; omega
        obtain ⟨ad, rfl, had, _⟩ := Fs.Fls.at_ (RD.out _ hb) hat
        have R1 := Lib.hid (fun (_ : Unit) => fls_take (a := at_) (RD.out _ hb) (by omega))
        have R3 := Lib.hid (fls_drop (b := at_ + 1) (RD.out _ hb))
        have hatI : (at_ : Int) < (l.length : Int) := by omega
        have hl0 : (0 : Int) < (l.length : Int) := by omega
        clear hidx eM NC E3 E4 E5 HI
        have CV : Hid (∀ (v : Value) (W : World), W.ownsRow wr.heap.size 49 2 v (0 + at_ + 1 + (l.length - (at_ + 1))) ([] ++ fc (l.take at_) ++ [.string f.p, .string f.d] ++ fc (l.drop (at_ + 1))) → W.ownsRow wr.heap.size 49 2 v M.length (fc M)) := Lib.hid fun v W h => by
          rw [List.nil_append, fc_mid, ← EM.out] at h
          rw [show M.length = 0 + at_ + 1 + (l.length - (at_ + 1)) by rw [EM.out]; simp; omega]
          exact h
        have RZ : Hid (∀ (W : World) (A : Option Addr), (l.length - (at_ + 1)) = 0 → Reads W W.heap.size 2 A (l.length - (at_ + 1)) (fc (l.drop (at_ + 1)))) := Lib.hid fun W A h => by
          rw [h, List.drop_eq_nil_of_le (by omega)]
          exact reads_zero
        go_wp2_with (fail)
        go_loopw [6, 9] (fun a i W => a = .int .i64 at_ ∧ i = .int .i64 0 ∧ wr = W) (fun _ _ _ => 0)
        case atStart => exact ⟨rfl, rfl, rfl⟩
        case round =>
          obtain ⟨rfl, rfl, rfl⟩ := hrel
          obtain ⟨e0, e1⟩ := D0.out wr hbw
          by_cases hcb : (at_ + 1) = c
          · have hz : l.length - (at_ + 1) = 0 := by omega
            have CV := Lib.hid (fun (v : Value) (W : World) h => CV.out v W (by rw [hz]; exact h))
            have RZ0 : Hid (∀ (W : World) (A : Option Addr), Reads W W.heap.size 2 A 0 (fc (l.drop (at_ + 1)))) := Lib.hid fun W A => by have := RZ.out W A hz; rw [hz] at this; exact this
            clear hz
            subst hcb
            go_wp2_with (first
              | (at_builtin; refine wpList_append_any _ rfl (.tmp 77) (.tmp 80) _ rfl wr.heap.size 49 i0 _ 2 32 Tryz.underlying23 hi hz0 hz1 hz2 hzs (by omega) (.slice none 0 0) 0 [] rfl (World.ownsRow_nil _ _ _ _) _ _ at_ _ (fc (l.take at_)) rfl (R1.out ()) (fc_cell _) (by unfold maxLen; omega) (by omega) (Nat.le_refl _) ?_; intro v1 w1 ho1 hg1 hat1; have O1 := Lib.hid ho1; have B1 : Below wr.heap.size wr w1 := (Below.refl _ _).grown hg1 (Nat.le_refl _) (fun g hg => by cases hg); clear ho1 hg1 hat1; obtain ⟨e0, e1⟩ := D0.out w1 (hbw.trans (B1.mono hbw.size)))
              | (at_builtin; refine wpList_append_any _ rfl (.tmp 82) (.tmp 84) _ rfl wr.heap.size 49 i0 _ 2 32 Tryz.underlying23 hi hz0 hz1 hz2 hzs (by omega) v1 (0 + at_) ([] ++ fc (l.take at_)) rfl (own_on O1.out ((Below.refl _ _).alloc (Nat.le_refl _) _)) _ (some ⟨w1.heap.size, 0, none⟩) 1 _ [.string f.p, .string f.d] rfl (reads2_one _ _ _ _ _ rfl) (fc_cell [f]) (by unfold maxLen; omega) (by omega) (by simp; have := B1.size; omega) ?_; intro v2 w2 ho2 hg2 hat2; have O2 := Lib.hid ho2; have B2 : Below wr.heap.size wr w2 := (B1.alloc B1.size _).grown hg2 (by simp; have := B1.size; omega) (fun g hg => (O1.out.lt g hg).1); clear ho2 hg2 hat2)
              | (at_builtin; refine wpList_append_any _ rfl (.tmp 89) (.tmp 92) _ rfl wr.heap.size 49 i0 _ 2 32 Tryz.underlying23 hi hz0 hz1 hz2 hzs (by omega) v2 (0 + at_ + 1) ([] ++ fc (l.take at_) ++ [.string f.p, .string f.d]) rfl O2.out _ _ 0 _ (fc (l.drop (at_ + 1))) rfl (RZ0.out _ _) (fc_cell _) (by unfold maxLen; omega) (by omega) B2.size ?_; intro v3 w3 ho3 hg3 hat3; obtain ⟨A3, c3, rfl, hc3⟩ := own_slc (CV.out _ _ ho3); have O3 := Lib.hid (CV.out _ _ ho3); have B3 : Below wr.heap.size wr w3 := B2.grown hg3 B2.size (fun g hg => (O2.out.lt g hg).1); clear ho3 hg3 hat3))
            all_goals first | exact X4.out (by omega) _ (hbw.trans (B3.mono hbw.size)) | exact X5.out (by omega) _ _ (own_low O3.out hbw.size) (hbw.trans (B3.mono hbw.size))
          · have hcb1 : ¬ c = (at_ + 1) := fun e => hcb e.symm
            have hcb2 : ¬ c - (at_ + 1) = 0 := by omega
            go_wp2_with (first
              | (at_builtin; refine wpList_append_any _ rfl (.tmp 77) (.tmp 80) _ rfl wr.heap.size 49 i0 _ 2 32 Tryz.underlying23 hi hz0 hz1 hz2 hzs (by omega) (.slice none 0 0) 0 [] rfl (World.ownsRow_nil _ _ _ _) _ _ at_ _ (fc (l.take at_)) rfl (R1.out ()) (fc_cell _) (by unfold maxLen; omega) (by omega) (Nat.le_refl _) ?_; intro v1 w1 ho1 hg1 hat1; have O1 := Lib.hid ho1; have B1 : Below wr.heap.size wr w1 := (Below.refl _ _).grown hg1 (Nat.le_refl _) (fun g hg => by cases hg); clear ho1 hg1 hat1; obtain ⟨e0, e1⟩ := D0.out w1 (hbw.trans (B1.mono hbw.size)))
              | (at_builtin; refine wpList_append_any _ rfl (.tmp 82) (.tmp 84) _ rfl wr.heap.size 49 i0 _ 2 32 Tryz.underlying23 hi hz0 hz1 hz2 hzs (by omega) v1 (0 + at_) ([] ++ fc (l.take at_)) rfl (own_on O1.out ((Below.refl _ _).alloc (Nat.le_refl _) _)) _ (some ⟨w1.heap.size, 0, none⟩) 1 _ [.string f.p, .string f.d] rfl (reads2_one _ _ _ _ _ rfl) (fc_cell [f]) (by unfold maxLen; omega) (by omega) (by simp; have := B1.size; omega) ?_; intro v2 w2 ho2 hg2 hat2; have O2 := Lib.hid ho2; have B2 : Below wr.heap.size wr w2 := (B1.alloc B1.size _).grown hg2 (by simp; have := B1.size; omega) (fun g hg => (O1.out.lt g hg).1); clear ho2 hg2 hat2)
              | (at_builtin; refine wpList_append_any _ rfl (.tmp 89) (.tmp 92) _ rfl wr.heap.size 49 i0 _ 2 32 Tryz.underlying23 hi hz0 hz1 hz2 hzs (by omega) v2 (0 + at_ + 1) ([] ++ fc (l.take at_) ++ [.string f.p, .string f.d]) rfl O2.out _ _ (l.length - (at_ + 1)) _ (fc (l.drop (at_ + 1))) rfl (R3.out.below B2) (fc_cell _) (by unfold maxLen; omega) (by omega) B2.size ?_; intro v3 w3 ho3 hg3 hat3; obtain ⟨A3, c3, rfl, hc3⟩ := own_slc (CV.out _ _ ho3); have O3 := Lib.hid (CV.out _ _ ho3); have B3 : Below wr.heap.size wr w3 := B2.grown hg3 B2.size (fun g hg => (O2.out.lt g hg).1); clear ho3 hg3 hat3))
            all_goals first | exact X4.out (by omega) _ (hbw.trans (B3.mono hbw.size)) | exact X5.out (by omega) _ _ (own_low O3.out hbw.size) (hbw.trans (B3.mono hbw.size))
      | false =>
        obtain ⟨hat0, hno⟩ := HI.out.no rfl
        have hle := Nat.le_of_eq hat0
        have hge := Nat.le_of_eq hat0.symm
        have PI := Lib.hid (fun k hk h1 h2 => eM.trans (put_ins (f := f) (k := k) (idx_none hno) hk h1 h2))
        have ML : M.length ≤ l.length + 1 := by
          have h1 : idx (fun g : Fl => decide (tl g.p = tl f.p)) l = -1 := idx_none hno
          have ha : l.any (atP (tl f.p)) = false := by
            rw [List.any_eq_false]
            intro x hx
            obtain ⟨j, hj, rfl⟩ := List.mem_iff_getElem.1 hx
            have := idx_lt_of h1 j hj
            unfold atP
            simpa using this
          rw [eM]
          unfold putF
          rw [if_neg (by simp [ha]), insF_len]
          omega
        clear eM hno NC E3 E4 E5 HI hat0
        obtain ⟨wl, rfl⟩ : ∃ wl, wl = wr := ⟨_, rfl⟩
        have hbl := hb
        clear hbw hb
        go_wp2_with (fail)
        go_loopw [6, 9] (fun a i W => ∃ q : Nat, a = .int .i64 at_ ∧ i = .int .i64 q ∧ q ≤ l.length ∧ Hid (∀ j (hj : j < l.length), j < q → ¬ tl f.p < tl l[j].p) ∧ Below wl.heap.size wl W) (fun _ i _ => l.length - (intOf i).toNat)
        case atStart => exact ⟨0, rfl, rfl, Nat.zero_le _, Lib.hid (fun j _ h => by omega), Below.refl _ _⟩
        case round =>
          obtain ⟨q, rfl, rfl, hq, NG, hb⟩ := hrel
          have hbw := hbl.trans (hb.mono hbl.size)
          by_cases hql : q < l.length
          · have hqI : (q : Int) < (l.length : Int) := by omega
            obtain ⟨ad, rfl, had, c0, _⟩ := Fs.Fls.at_ (RD.out _ hbw) hql
            have dk : ∀ w', Below wr.heap.size wr w' → w'.cell? (ad.add (q * 2)) = some (.string l[q].p) := fun w' h => ((h.cell (by rw [block_of_add]; exact had))).trans c0
            have d0 : ∀ w', Below wr.heap.size wr w' → w'.cell? ⟨w.heap.size, 0, none⟩ = some (.string f.p) := fun w' h => (D0.out w' (hbw.trans (h.mono hbw.size))).1
            clear c0
            rcases gt_cases l[q].p f.p with ⟨e1, e2, e3⟩ | ⟨e1, e2⟩ | ⟨e1, e2, e3⟩
            · have EM := Lib.hid (PI.out q hq NG.out (fun _ => e1))
              clear e1
              obtain ⟨y, ey⟩ : ∃ y, y = l[q].p := ⟨_, rfl⟩
              rw [← ey] at dk e2 e3
              clear ey
              go_wp2_with (fail)
              refine wp_region_cls (C := fun w' => Below wr.heap.size wr w') (by kernel_rfl) (by kernel_rfl) ((Below.refl _ _).drew) ?_
              repeat (first | go_big_quiet_skip | quiet_step (first | (intro _; rfl) | (intro _; rw [if_neg (by omega)]; exact ⟨rfl, rfl⟩) | (intro hss; (first | rw [dk _ hss] | rw [d0 _ hss]); exact ⟨rfl, rfl⟩)))
              refine wpQuiet_nil ?_
              intro w2 hb2
              clear hbw
              have hbw : Below W1.heap.size W1 w2 := hbl.trans ((hb.trans (hb2.mono hb.size)).mono hbl.size)
              have R1 := Lib.hid (fun (_ : Unit) => fls_take (a := q) (RD.out _ hbw) (by omega))
              have R3 := Lib.hid (fls_drop (b := q) (RD.out _ hbw))
              obtain ⟨wr, rfl⟩ : ∃ wr, wr = w2 := ⟨_, rfl⟩
              obtain ⟨e0, e1⟩ := D0.out wr hbw
              have CV : Hid (∀ (v : Value) (W : World), W.ownsRow wr.heap.size 49 2 v (0 + q + 1 + (l.length - q)) ([] ++ fc (l.take q) ++ [.string f.p, .string f.d] ++ fc (l.drop q)) → W.ownsRow wr.heap.size 49 2 v M.length (fc M)) := Lib.hid fun v W h => by
                rw [List.nil_append, fc_mid, ← EM.out] at h
                rw [show M.length = 0 + q + 1 + (l.length - q) by rw [EM.out]; simp; omega]
                exact h
              have RZ : Hid (∀ (W : World) (A : Option Addr), (l.length - q) = 0 → Reads W W.heap.size 2 A (l.length - q) (fc (l.drop q))) := Lib.hid fun W A h => by
                rw [h, List.drop_eq_nil_of_le (by omega)]
                exact reads_zero
              by_cases hcb : q = c
              · omega
              · have hcb1 : ¬ c = q := fun e => hcb e.symm
                have hcb2 : ¬ c - q = 0 := by omega
                go_wp2_with (first
                  | (at_builtin; refine wpList_append_any _ rfl (.tmp 77) (.tmp 80) _ rfl wr.heap.size 49 i0 _ 2 32 Tryz.underlying23 hi hz0 hz1 hz2 hzs (by omega) (.slice none 0 0) 0 [] rfl (World.ownsRow_nil _ _ _ _) _ _ q _ (fc (l.take q)) rfl (R1.out ()) (fc_cell _) (by unfold maxLen; omega) (by omega) (Nat.le_refl _) ?_; intro v1 w1 ho1 hg1 hat1; have O1 := Lib.hid ho1; have B1 : Below wr.heap.size wr w1 := (Below.refl _ _).grown hg1 (Nat.le_refl _) (fun g hg => by cases hg); clear ho1 hg1 hat1; obtain ⟨e0, e1⟩ := D0.out w1 (hbw.trans (B1.mono hbw.size)))
                  | (at_builtin; refine wpList_append_any _ rfl (.tmp 82) (.tmp 84) _ rfl wr.heap.size 49 i0 _ 2 32 Tryz.underlying23 hi hz0 hz1 hz2 hzs (by omega) v1 (0 + q) ([] ++ fc (l.take q)) rfl (own_on O1.out ((Below.refl _ _).alloc (Nat.le_refl _) _)) _ (some ⟨w1.heap.size, 0, none⟩) 1 _ [.string f.p, .string f.d] rfl (reads2_one _ _ _ _ _ rfl) (fc_cell [f]) (by unfold maxLen; omega) (by omega) (by simp; have := B1.size; omega) ?_; intro v2 w2 ho2 hg2 hat2; have O2 := Lib.hid ho2; have B2 : Below wr.heap.size wr w2 := (B1.alloc B1.size _).grown hg2 (by simp; have := B1.size; omega) (fun g hg => (O1.out.lt g hg).1); clear ho2 hg2 hat2)
                  | (at_builtin; refine wpList_append_any _ rfl (.tmp 89) (.tmp 92) _ rfl wr.heap.size 49 i0 _ 2 32 Tryz.underlying23 hi hz0 hz1 hz2 hzs (by omega) v2 (0 + q + 1) ([] ++ fc (l.take q) ++ [.string f.p, .string f.d]) rfl O2.out _ _ (l.length - q) _ (fc (l.drop q)) rfl (R3.out.below B2) (fc_cell _) (by unfold maxLen; omega) (by omega) B2.size ?_; intro v3 w3 ho3 hg3 hat3; obtain ⟨A3, c3, rfl, hc3⟩ := own_slc (CV.out _ _ ho3); have O3 := Lib.hid (CV.out _ _ ho3); have B3 : Below wr.heap.size wr w3 := B2.grown hg3 B2.size (fun g hg => (O2.out.lt g hg).1); clear ho3 hg3 hat3))
                all_goals first | exact X4.out (by omega) _ (hbw.trans (B3.mono hbw.size)) | exact X5.out (by omega) _ _ (own_low O3.out hbw.size) (hbw.trans (B3.mono hbw.size))
            · have NG2 : Hid (∀ j (hj : j < l.length), j < q + 1 → ¬ tl f.p < tl l[j].p) := Lib.hid (ng_next hql NG.out e1)
              clear e1
              generalize l[q].p = y at *
              go_wp2_with (fail)
              refine wp_region_cls (C := fun w' => Below wr.heap.size wr w') (by kernel_rfl) (by kernel_rfl) ((Below.refl _ _).drew) ?_
              repeat (first | go_big_quiet_skip | quiet_step (first | (intro _; rfl) | (intro _; rw [if_neg (by omega)]; exact ⟨rfl, rfl⟩) | (intro hss; (first | rw [dk _ hss] | rw [d0 _ hss]); exact ⟨rfl, rfl⟩)))
              refine wpQuiet_nil ?_
              intro w2 hb2
              go_wp2_with (fail)
              go_roundw
              case rel => exact ⟨q + 1, rfl, by go_num, by omega, NG2, hb.trans (hb2.mono hb.size)⟩
              case measure => simp [intOf]; omega
            · have NG2 : Hid (∀ j (hj : j < l.length), j < q + 1 → ¬ tl f.p < tl l[j].p) := Lib.hid (ng_next hql NG.out e1)
              clear e1
              generalize l[q].p = y at *
              go_wp2_with (fail)
              refine wp_region_cls (C := fun w' => Below wr.heap.size wr w') (by kernel_rfl) (by kernel_rfl) ((Below.refl _ _).drew) ?_
              repeat (first | go_big_quiet_skip | quiet_step (first | (intro _; rfl) | (intro _; rw [if_neg (by omega)]; exact ⟨rfl, rfl⟩) | (intro hss; (first | rw [dk _ hss] | rw [d0 _ hss]); exact ⟨rfl, rfl⟩)))
              refine wpQuiet_nil ?_
              intro w2 hb2
              go_wp2_with (fail)
              go_roundw
              case rel => exact ⟨q + 1, rfl, by go_num, by omega, NG2, hb.trans (hb2.mono hb.size)⟩
              case measure => simp [intOf]; omega
          · obtain rfl : q = l.length := by omega
            have EM := Lib.hid (PI.out at_ hle (fun j hj _ => NG.out j hj hj) (fun h => absurd h (by omega)))
            have CV : Hid (∀ (v : Value) (W : World), W.ownsRow wr.heap.size 49 2 v (0 + at_ + 1 + (l.length - at_)) ([] ++ fc (l.take at_) ++ [.string f.p, .string f.d] ++ fc (l.drop at_)) → W.ownsRow wr.heap.size 49 2 v M.length (fc M)) := Lib.hid fun v W h => by
              rw [List.nil_append, fc_mid, ← EM.out] at h
              rw [show M.length = 0 + at_ + 1 + (l.length - at_) by rw [EM.out]; simp; omega]
              exact h
            have RZ : Hid (∀ (W : World) (A : Option Addr), (l.length - at_) = 0 → Reads W W.heap.size 2 A (l.length - at_) (fc (l.drop at_))) := Lib.hid fun W A h => by
              rw [h, List.drop_eq_nil_of_le (by omega)]
              exact reads_zero
            obtain ⟨e0, e1⟩ := D0.out wr hbw
            have hleI : (at_ : Int) ≤ (l.length : Int) := by omega
            have hlcI : (at_ : Int) ≤ (c : Int) := by omega
            rcases A with _ | ad
            · have h00 : l.length = 0 := by
                rcases Nat.eq_zero_or_pos l.length with h | h
                · exact h
                · obtain ⟨ad, e, _⟩ := (RD.out _ hbw).2 h
                  cases e
              have R1 : Hid (∀ _ : Unit, Reads wr wr.heap.size 2 none at_ (fc (l.take at_))) := Lib.hid fun _ => by
                rw [show at_ = 0 by omega]
                exact reads_zero
              have hz : l.length - at_ = 0 := by omega
              have CV := Lib.hid (fun (v : Value) (W : World) h => CV.out v W (by rw [hz]; exact h))
              have RZ0 : Hid (∀ (W : World) (A : Option Addr), Reads W W.heap.size 2 A 0 (fc (l.drop at_))) := Lib.hid fun W A => by have := RZ.out W A hz; rw [hz] at this; exact this
              have h00' := Nat.le_of_eq h00
              clear hz h00
              go_wp2_with (first
                  | (at_builtin; refine wpList_append_any _ rfl (.tmp 77) (.tmp 80) _ rfl wr.heap.size 49 i0 _ 2 32 Tryz.underlying23 hi hz0 hz1 hz2 hzs (by omega) (.slice none 0 0) 0 [] rfl (World.ownsRow_nil _ _ _ _) _ _ at_ _ (fc (l.take at_)) rfl (R1.out ()) (fc_cell _) (by unfold maxLen; omega) (by omega) (Nat.le_refl _) ?_; intro v1 w1 ho1 hg1 hat1; have O1 := Lib.hid ho1; have B1 : Below wr.heap.size wr w1 := (Below.refl _ _).grown hg1 (Nat.le_refl _) (fun g hg => by cases hg); clear ho1 hg1 hat1; obtain ⟨e0, e1⟩ := D0.out w1 (hbw.trans (B1.mono hbw.size)))
                  | (at_builtin; refine wpList_append_any _ rfl (.tmp 82) (.tmp 84) _ rfl wr.heap.size 49 i0 _ 2 32 Tryz.underlying23 hi hz0 hz1 hz2 hzs (by omega) v1 (0 + at_) ([] ++ fc (l.take at_)) rfl (own_on O1.out ((Below.refl _ _).alloc (Nat.le_refl _) _)) _ (some ⟨w1.heap.size, 0, none⟩) 1 _ [.string f.p, .string f.d] rfl (reads2_one _ _ _ _ _ rfl) (fc_cell [f]) (by unfold maxLen; omega) (by omega) (by simp; have := B1.size; omega) ?_; intro v2 w2 ho2 hg2 hat2; have O2 := Lib.hid ho2; have B2 : Below wr.heap.size wr w2 := (B1.alloc B1.size _).grown hg2 (by simp; have := B1.size; omega) (fun g hg => (O1.out.lt g hg).1); clear ho2 hg2 hat2)
                  | (at_builtin; refine wpList_append_any _ rfl (.tmp 89) (.tmp 92) _ rfl wr.heap.size 49 i0 _ 2 32 Tryz.underlying23 hi hz0 hz1 hz2 hzs (by omega) v2 (0 + at_ + 1) ([] ++ fc (l.take at_) ++ [.string f.p, .string f.d]) rfl O2.out _ _ 0 _ (fc (l.drop at_)) rfl (RZ0.out _ _) (fc_cell _) (by unfold maxLen; omega) (by omega) B2.size ?_; intro v3 w3 ho3 hg3 hat3; obtain ⟨A3, c3, rfl, hc3⟩ := own_slc (CV.out _ _ ho3); have O3 := Lib.hid (CV.out _ _ ho3); have B3 : Below wr.heap.size wr w3 := B2.grown hg3 B2.size (fun g hg => (O2.out.lt g hg).1); clear ho3 hg3 hat3))
              all_goals first | exact X4.out (by omega) _ (hbw.trans (B3.mono hbw.size)) | exact X5.out (by omega) _ _ (own_low O3.out hbw.size) (hbw.trans (B3.mono hbw.size))
            · have R1 := Lib.hid (fun (_ : Unit) => fls_take (a := at_) (RD.out _ hbw) hle)
              have R3 := Lib.hid (fls_drop (b := at_) (RD.out _ hbw))
              by_cases hcb : at_ = c
              · have hz : l.length - at_ = 0 := by omega
                have CV := Lib.hid (fun (v : Value) (W : World) h => CV.out v W (by rw [hz]; exact h))
                have RZ0 : Hid (∀ (W : World) (A : Option Addr), Reads W W.heap.size 2 A 0 (fc (l.drop at_))) := Lib.hid fun W A => by have := RZ.out W A hz; rw [hz] at this; exact this
                clear hz
                subst hcb
                go_wp2_with (first
                  | (at_builtin; refine wpList_append_any _ rfl (.tmp 77) (.tmp 80) _ rfl wr.heap.size 49 i0 _ 2 32 Tryz.underlying23 hi hz0 hz1 hz2 hzs (by omega) (.slice none 0 0) 0 [] rfl (World.ownsRow_nil _ _ _ _) _ _ at_ _ (fc (l.take at_)) rfl (R1.out ()) (fc_cell _) (by unfold maxLen; omega) (by omega) (Nat.le_refl _) ?_; intro v1 w1 ho1 hg1 hat1; have O1 := Lib.hid ho1; have B1 : Below wr.heap.size wr w1 := (Below.refl _ _).grown hg1 (Nat.le_refl _) (fun g hg => by cases hg); clear ho1 hg1 hat1; obtain ⟨e0, e1⟩ := D0.out w1 (hbw.trans (B1.mono hbw.size)))
                  | (at_builtin; refine wpList_append_any _ rfl (.tmp 82) (.tmp 84) _ rfl wr.heap.size 49 i0 _ 2 32 Tryz.underlying23 hi hz0 hz1 hz2 hzs (by omega) v1 (0 + at_) ([] ++ fc (l.take at_)) rfl (own_on O1.out ((Below.refl _ _).alloc (Nat.le_refl _) _)) _ (some ⟨w1.heap.size, 0, none⟩) 1 _ [.string f.p, .string f.d] rfl (reads2_one _ _ _ _ _ rfl) (fc_cell [f]) (by unfold maxLen; omega) (by omega) (by simp; have := B1.size; omega) ?_; intro v2 w2 ho2 hg2 hat2; have O2 := Lib.hid ho2; have B2 : Below wr.heap.size wr w2 := (B1.alloc B1.size _).grown hg2 (by simp; have := B1.size; omega) (fun g hg => (O1.out.lt g hg).1); clear ho2 hg2 hat2)
                  | (at_builtin; refine wpList_append_any _ rfl (.tmp 89) (.tmp 92) _ rfl wr.heap.size 49 i0 _ 2 32 Tryz.underlying23 hi hz0 hz1 hz2 hzs (by omega) v2 (0 + at_ + 1) ([] ++ fc (l.take at_) ++ [.string f.p, .string f.d]) rfl O2.out _ _ 0 _ (fc (l.drop at_)) rfl (RZ0.out _ _) (fc_cell _) (by unfold maxLen; omega) (by omega) B2.size ?_; intro v3 w3 ho3 hg3 hat3; obtain ⟨A3, c3, rfl, hc3⟩ := own_slc (CV.out _ _ ho3); have O3 := Lib.hid (CV.out _ _ ho3); have B3 : Below wr.heap.size wr w3 := B2.grown hg3 B2.size (fun g hg => (O2.out.lt g hg).1); clear ho3 hg3 hat3))
                all_goals first | exact X4.out (by omega) _ (hbw.trans (B3.mono hbw.size)) | exact X5.out (by omega) _ _ (own_low O3.out hbw.size) (hbw.trans (B3.mono hbw.size))
              · have hcb1 : ¬ c = at_ := fun e => hcb e.symm
                have hcb2 : ¬ c - at_ = 0 := by omega
                have hz : l.length - at_ = 0 := by omega
                have CV := Lib.hid (fun (v : Value) (W : World) h => CV.out v W (by rw [hz]; exact h))
                have RZ0 : Hid (∀ (W : World) (A : Option Addr), Reads W W.heap.size 2 A 0 (fc (l.drop at_))) := Lib.hid fun W A => by have := RZ.out W A hz; rw [hz] at this; exact this
                clear hz
                go_wp2_with (first
                  | (at_builtin; refine wpList_append_any _ rfl (.tmp 77) (.tmp 80) _ rfl wr.heap.size 49 i0 _ 2 32 Tryz.underlying23 hi hz0 hz1 hz2 hzs (by omega) (.slice none 0 0) 0 [] rfl (World.ownsRow_nil _ _ _ _) _ _ at_ _ (fc (l.take at_)) rfl (R1.out ()) (fc_cell _) (by unfold maxLen; omega) (by omega) (Nat.le_refl _) ?_; intro v1 w1 ho1 hg1 hat1; have O1 := Lib.hid ho1; have B1 : Below wr.heap.size wr w1 := (Below.refl _ _).grown hg1 (Nat.le_refl _) (fun g hg => by cases hg); clear ho1 hg1 hat1; obtain ⟨e0, e1⟩ := D0.out w1 (hbw.trans (B1.mono hbw.size)))
                  | (at_builtin; refine wpList_append_any _ rfl (.tmp 82) (.tmp 84) _ rfl wr.heap.size 49 i0 _ 2 32 Tryz.underlying23 hi hz0 hz1 hz2 hzs (by omega) v1 (0 + at_) ([] ++ fc (l.take at_)) rfl (own_on O1.out ((Below.refl _ _).alloc (Nat.le_refl _) _)) _ (some ⟨w1.heap.size, 0, none⟩) 1 _ [.string f.p, .string f.d] rfl (reads2_one _ _ _ _ _ rfl) (fc_cell [f]) (by unfold maxLen; omega) (by omega) (by simp; have := B1.size; omega) ?_; intro v2 w2 ho2 hg2 hat2; have O2 := Lib.hid ho2; have B2 : Below wr.heap.size wr w2 := (B1.alloc B1.size _).grown hg2 (by simp; have := B1.size; omega) (fun g hg => (O1.out.lt g hg).1); clear ho2 hg2 hat2)
                  | (at_builtin; refine wpList_append_any _ rfl (.tmp 89) (.tmp 92) _ rfl wr.heap.size 49 i0 _ 2 32 Tryz.underlying23 hi hz0 hz1 hz2 hzs (by omega) v2 (0 + at_ + 1) ([] ++ fc (l.take at_) ++ [.string f.p, .string f.d]) rfl O2.out _ _ 0 _ (fc (l.drop at_)) rfl (RZ0.out _ _) (fc_cell _) (by unfold maxLen; omega) (by omega) B2.size ?_; intro v3 w3 ho3 hg3 hat3; obtain ⟨A3, c3, rfl, hc3⟩ := own_slc (CV.out _ _ ho3); have O3 := Lib.hid (CV.out _ _ ho3); have B3 : Below wr.heap.size wr w3 := B2.grown hg3 B2.size (fun g hg => (O2.out.lt g hg).1); clear ho3 hg3 hat3))
                all_goals first | exact X4.out (by omega) _ (hbw.trans (B3.mono hbw.size)) | exact X5.out (by omega) _ _ (own_low O3.out hbw.size) (hbw.trans (B3.mono hbw.size))
end Go.Proofs.YtdidnlkilleljaaGreatDoor.Bx
