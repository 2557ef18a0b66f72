/- Joined by mkmerged.py: FsRight, FsEnc. -/
import Derived.Test.YtlndnpfjneeeeaaGreatDoorMh13
import Derived.Test.YtlndnpfjneeeeaaGreatDoorMh15
import Derived.Test.YtlndnpfjneeeeaaGreatDoorMh03
import Derived.Test.YtlndnpfjneeeeaaGreatDoorMhKm
import Derived.BigQuiet
import Derived.Lib.IndexAny
import Derived.Sort.Walk0
import Derived.Laws.Cover1
import Derived.Test.YtlndnpfjneeeeaaGreatDoorMh14
/- FsRight, what a claim needs of it (prune.py). -/
namespace Go.Proofs.YtlndnpfjneeeeaaGreatDoor.Fs
open Go.RowKit
set_option linter.unusedVariables false
set_option maxRecDepth 100000
theorem lt_op {a b : ByteArray} (h : tl a < tl b) : Op.bytesLess a.toList b.toList = true := by
  rw [Lib.toList_data, Lib.toList_data, bytesLess_eq]; exact decide_eq_true h
theorem nlt_op {a b : ByteArray} (h : ¬ tl a < tl b) : Op.bytesLess a.toList b.toList = false := by
  rw [Lib.toList_data, Lib.toList_data, bytesLess_eq]; exact decide_eq_false h
def RUpto (l : List En) (k : Nat) : Prop := ∀ j (hj : j < l.length), j < k → rightAt l j hj
theorem RUpto.next {l : List En} {k : Nat} (hk : k < l.length) (h : RUpto l k) (h1 : rightAt l k hk) : RUpto l (k + 1) := fun j hj hjk => by
  rcases Nat.lt_or_ge j k with h2 | h2
  · exact h j hj h2
  · obtain rfl : j = k := by omega
    exact h1
theorem pathE_yes {s : B} (h : Lg.pathOk s = true) : Lg.pathE s = 0 := by unfold Lg.pathE; rw [if_pos h]
theorem pathE_not {s : B} (h : Lg.pathOk s = false) : Lg.pathE s = 13 := by unfold Lg.pathE; rw [if_neg (by simp [h])]
theorem contains_any (s : ByteArray) (w : World) (b : Bool) (hb : (47 : UInt8) ∈ tl s ↔ b = true) :
    Calls Tryz.prog 179 #[.string s, .string ⟨#[47]⟩] w fun e w' => e = .returned (.bool b) ∧ Below w.heap.size w w' := by
  refine (Tryz.strings_Contains_one s 47 w).mono ?_
  rintro e w' ⟨h1, rfl⟩
  refine ⟨?_, Below.refl _ _⟩
  rw [h1, ← Lib.contains_iff_indexByte]
  have : (s.data.toList.contains 47) = b := by
    rw [Bool.eq_iff_iff, List.contains_iff_mem]; exact hb
  rw [this]
set_option maxHeartbeats 4000000 in
theorem pright_any (A : Option Addr) (l : List En) (c : Nat) (w : World) (hE : Env w) (hr : Ens w A l) (hz : ∀ x ∈ l, x.n.length ≤ 1000000000 ∧ x.g.length ≤ 1000000000) (hl : l.length ≤ 1000000000) :
    Calls Tryz.prog 85 #[.slice A l.length c] w fun e w' => e = .returned (.bool (rightB l)) ∧ Below w.heap.size w w' := by
  have RD : Hid (∀ W, Below w.heap.size w W → Reads W w.heap.size 3 A l.length (ec l)) := Lib.hid fun W hW => hr.below hW
  have EV := Lib.hid (fun W (h : Below w.heap.size w W) => hE.below h)
  have SZ := Lib.hid hz
  clear hr hE hz
  go_enter Tryz.func85, Tryz.ntmps85
  go_wp2_with (fail)
  go_loopw [7] (fun i W => ∃ k : Nat, i = .int .i64 k ∧ k ≤ l.length ∧ RUpto l k ∧ Below w.heap.size w W) (fun i _ => l.length - (intOf i).toNat)
  case atStart => exact ⟨0, rfl, by omega, fun j _ h => by omega, Below.refl _ _⟩
  case round =>
    obtain ⟨k, rfl, hk, hu, hb⟩ := hrel
    have HU := Lib.hid hu
    clear hu
    by_cases hlt : k < l.length
    · have hkI : (k : Int) < (l.length : Int) := by omega
      obtain ⟨ad, rfl, had, c0, c1, c2⟩ := Ens.at_ (RD.out _ hb) hlt
      have GOOD := Lib.hid (fun h => RUpto.next hlt HU.out h)
      have BAD := Lib.hid (fun h => right_bad hlt h)
      have hzz := SZ.out _ (List.getElem_mem hlt)
      have hs0 := hb.size
      obtain ⟨W1, eW⟩ : ∃ W1, W1 = wr.alloc (.cells #[.string (bs l[k].n), .bool l[k].dir, .string (bs l[k].g)] 79) := ⟨_, rfl⟩
      have hb1 : Below wr.heap.size wr W1 := by rw [eW]; exact (Below.refl _ _).alloc (Nat.le_refl _) _
      have hblk : W1.heap[wr.heap.size]? = some (.cells #[.string (bs l[k].n), .bool l[k].dir, .string (bs l[k].g)] 79 (0, 0)) := by rw [eW]; exact heap_alloc_new wr _
      have hlt1 := Lg.lt_heap hblk
      have hw1 : Below w.heap.size w W1 := hb.trans (hb1.mono hs0)
      have hs1 := hw1.size
      have d0 : ∀ w', Below W1.heap.size W1 w' → w'.cell? ⟨wr.heap.size, 0, none⟩ = some (.string (bs l[k].n)) := fun w' h => (cell_heap (heap_below h hlt1 hblk) 0).trans rfl
      have d2 : ∀ w', Below W1.heap.size W1 w' → w'.cell? ⟨wr.heap.size, 2, none⟩ = some (.string (bs l[k].g)) := fun w' h => (cell_heap (heap_below h hlt1 hblk) 2).trans rfl
      have PA : Hid (∀ W, Below W1.heap.size W1 W → Calls Tryz.prog 97 #[.string (bs l[k].n)] W fun e w' => e = .returned (.int .i64 (Lg.pathE l[k].n)) ∧ Below W.heap.size W w') := Lib.hid fun W hW => by
        obtain ⟨⟨m, hm⟩, _⟩ := EV.out _ (hw1.trans (hW.mono hs1))
        exact Lg.ppath_any (bs l[k].n) m W (by rw [bs_len]; omega) hm
      have CO : Hid (∀ b : Bool, ((47 : UInt8) ∈ l[k].n ↔ b = true) → ∀ W, Below W1.heap.size W1 W → Calls Tryz.prog 179 #[.string (bs l[k].n), .string ⟨#[47]⟩] W fun e w' => e = .returned (.bool b) ∧ Below W.heap.size W w') := Lib.hid fun b hbb W hW =>
        contains_any (bs l[k].n) W b hbb
      have hgl : (bs l[k].g).size = l[k].g.length := bs_len _
      have HB := Lib.hid (fun W (h : Below W1.heap.size W1 W) => hw1.trans (h.mono hs1))
      clear hblk hlt1 hb1 hw1 hs1
      by_cases hp : Lg.pathOk l[k].n = true
      · rw [pathE_yes hp] at PA
        by_cases hm : (47 : UInt8) ∈ l[k].n
        · have C1 := Lib.hid (CO.out true (by simp [hm]))
          have F := Lib.hid (BAD.out fun h => h.2.1 hm)
          clear hm hp CO BAD GOOD hzz
          generalize l[k] = x at *
          go_wp2_with (fail)
          rw [← eW]
          clear eW
          refine wp_region_cls (C := fun w' => Below W1.heap.size W1 w') (by kernel_rfl) (by kernel_rfl) (Below.refl _ _).drew ?_
          repeat (first | go_big_quiet_skip | quiet_step (first | (intro _; rfl) | (intro _; rw [if_neg (by omega)]; exact ⟨rfl, rfl⟩) | (intro hss; (first | rw [d0 _ hss] | rw [d2 _ hss]); exact ⟨rfl, rfl⟩) | (intro hss; go_at_call 97; (with_reducible refine (PA.out _ hss).mono ?_); rintro e w4 ⟨rfl, hb4⟩; exact ⟨rfl, hss.trans (hb4.mono hss.size)⟩) | (intro hss; go_at_call 179; (with_reducible refine (C1.out _ hss).mono ?_); rintro e w4 ⟨rfl, hb4⟩; exact ⟨rfl, hss.trans (hb4.mono hss.size)⟩)))
          refine wpQuiet_nil ?_
          intro w2 hb2
          go_wp2
          go_ret
          exact ⟨Lg.ret_bool F.out, HB.out _ hb2⟩
        · have C1 := Lib.hid (CO.out false (by simp [hm]))
          by_cases hg : l[k].g.length = 32
          · have g1 : (((bs l[k].g).size : Int) != 32) = false := by rw [hgl, hg]; rfl
            by_cases hk0 : k = 0
            · have j0 : ¬ (0 : Int) < (k : Int) := by omega
              have j1 : decide ((0 : Int) < (k : Int)) = false := decide_eq_false j0
              have j2 : decide (0 < k) = false := decide_eq_false (by omega)
              have F := Lib.hid (GOOD.out ⟨hp, hm, hg, fun h => absurd h (by omega)⟩)
              clear hk0 hm hp CO BAD GOOD hzz hg hgl
              generalize l[k] = x at *
              go_wp2_with (fail)
              rw [← eW]
              clear eW
              refine wp_region_cls (C := fun w' => Below W1.heap.size W1 w') (by kernel_rfl) (by kernel_rfl) (Below.refl _ _).drew ?_
              repeat (first | go_big_quiet_skip | quiet_step (first | (intro _; rfl) | (intro _; rw [if_neg (by omega)]; exact ⟨rfl, rfl⟩) | (intro hss; (first | rw [d0 _ hss] | rw [d2 _ hss]); exact ⟨rfl, rfl⟩) | (intro hss; go_at_call 97; (with_reducible refine (PA.out _ hss).mono ?_); rintro e w4 ⟨rfl, hb4⟩; exact ⟨rfl, hss.trans (hb4.mono hss.size)⟩) | (intro hss; go_at_call 179; (with_reducible refine (C1.out _ hss).mono ?_); rintro e w4 ⟨rfl, hb4⟩; exact ⟨rfl, hss.trans (hb4.mono hss.size)⟩)))
              refine wpQuiet_nil ?_
              intro w2 hb2
              go_wp2
              go_roundw
              case rel => exact ⟨k + 1, by go_num, by omega, F.out, HB.out _ hb2⟩
              case measure => simp [intOf]; omega
            · obtain ⟨q, hq⟩ : ∃ q, q = k - 1 := ⟨_, rfl⟩
              have hlp : q < l.length := by omega
              obtain ⟨ad', ead, had', p0, p1, p2⟩ := Ens.at_ (RD.out _ hb) hlp
              obtain rfl : ad = ad' := Option.some.inj ead
              have dp : ∀ w', Below W1.heap.size W1 w' → w'.cell? (ad.add (q * 3)) = some (.string (bs l[q].n)) := fun w' h => ((HB.out _ h).cell (by rw [block_of_add]; exact had)).trans (((hb.cell (by rw [block_of_add]; exact had)).symm).trans p0)
              have iv : IntKind.i64.wrap ((k : Int) - 1) = (q : Int) := by rw [show ((k : Int) - 1) = q by omega]; exact IntWalk.i64_in _ (by omega)
              have i0 : (q : Int) < (l.length : Int) := by omega
              have j0 : (0 : Int) < (k : Int) := by omega
              have j1 : decide (0 < k) = true := decide_eq_true (by omega)
              have ho2 : l[k - 1]'(by omega) = l[q] := by subst hq; rfl
              clear p0 p1 p2 had' ead hk0
              by_cases ho : l[q].n < l[k].n
              · have F := Lib.hid (GOOD.out ⟨hp, hm, hg, fun _ => by rw [ho2]; exact ho⟩)
                have o1 := lt_op (a := bs l[q].n) (b := bs l[k].n) ho
                clear hm hp CO BAD GOOD hzz hg hgl ho ho2 hq
                generalize l[k] = x at *
                generalize l[q] = y at *
                go_wp2_with (fail)
                rw [← eW]
                clear eW
                refine wp_region_cls (C := fun w' => Below W1.heap.size W1 w') (by kernel_rfl) (by kernel_rfl) (Below.refl _ _).drew ?_
                repeat (first | go_big_quiet_skip | quiet_step (first | (intro _; rfl) | (intro _; rw [if_neg (by omega)]; exact ⟨rfl, rfl⟩) | (intro hss; (first | rw [d0 _ hss] | rw [d2 _ hss] | rw [dp _ hss]); exact ⟨rfl, rfl⟩) | (intro hss; go_at_call 97; (with_reducible refine (PA.out _ hss).mono ?_); rintro e w4 ⟨rfl, hb4⟩; exact ⟨rfl, hss.trans (hb4.mono hss.size)⟩) | (intro hss; go_at_call 179; (with_reducible refine (C1.out _ hss).mono ?_); rintro e w4 ⟨rfl, hb4⟩; exact ⟨rfl, hss.trans (hb4.mono hss.size)⟩)))
                refine wpQuiet_nil ?_
                intro w2 hb2
                go_wp2
                go_roundw
                case rel => exact ⟨k + 1, by go_num, by omega, F.out, HB.out _ hb2⟩
                case measure => simp [intOf]; omega
              · have F := Lib.hid (BAD.out fun h => ho (by have := h.2.2.2 (by omega); rw [ho2] at this; exact this))
                have o1 := nlt_op (a := bs l[q].n) (b := bs l[k].n) ho
                clear hm hp CO BAD GOOD hzz hg hgl ho ho2 hq
                generalize l[k] = x at *
                generalize l[q] = y at *
                go_wp2_with (fail)
                rw [← eW]
                clear eW
                refine wp_region_cls (C := fun w' => Below W1.heap.size W1 w') (by kernel_rfl) (by kernel_rfl) (Below.refl _ _).drew ?_
                repeat (first | go_big_quiet_skip | quiet_step (first | (intro _; rfl) | (intro _; rw [if_neg (by omega)]; exact ⟨rfl, rfl⟩) | (intro hss; (first | rw [d0 _ hss] | rw [d2 _ hss] | rw [dp _ hss]); exact ⟨rfl, rfl⟩) | (intro hss; go_at_call 97; (with_reducible refine (PA.out _ hss).mono ?_); rintro e w4 ⟨rfl, hb4⟩; exact ⟨rfl, hss.trans (hb4.mono hss.size)⟩) | (intro hss; go_at_call 179; (with_reducible refine (C1.out _ hss).mono ?_); rintro e w4 ⟨rfl, hb4⟩; exact ⟨rfl, hss.trans (hb4.mono hss.size)⟩)))
                refine wpQuiet_nil ?_
                intro w2 hb2
                go_wp2
                go_ret
                exact ⟨Lg.ret_bool F.out, HB.out _ hb2⟩
          · have F := Lib.hid (BAD.out fun h => hg h.2.2.1)
            have g1 : (((bs l[k].g).size : Int) != 32) = true := by rw [hgl]; simp; omega
            clear hm hp CO BAD GOOD hzz hg hgl
            generalize l[k] = x at *
            go_wp2_with (fail)
            rw [← eW]
            clear eW
            refine wp_region_cls (C := fun w' => Below W1.heap.size W1 w') (by kernel_rfl) (by kernel_rfl) (Below.refl _ _).drew ?_
            repeat (first | go_big_quiet_skip | quiet_step (first | (intro _; rfl) | (intro _; rw [if_neg (by omega)]; exact ⟨rfl, rfl⟩) | (intro hss; (first | rw [d0 _ hss] | rw [d2 _ hss]); exact ⟨rfl, rfl⟩) | (intro hss; go_at_call 97; (with_reducible refine (PA.out _ hss).mono ?_); rintro e w4 ⟨rfl, hb4⟩; exact ⟨rfl, hss.trans (hb4.mono hss.size)⟩) | (intro hss; go_at_call 179; (with_reducible refine (C1.out _ hss).mono ?_); rintro e w4 ⟨rfl, hb4⟩; exact ⟨rfl, hss.trans (hb4.mono hss.size)⟩)))
            refine wpQuiet_nil ?_
            intro w2 hb2
            go_wp2
            go_ret
            exact ⟨Lg.ret_bool F.out, HB.out _ hb2⟩
      · rw [pathE_not (by simpa using hp)] at PA
        have F := Lib.hid (BAD.out fun h => hp h.1)
        clear hp CO BAD GOOD hzz
        generalize l[k] = x at *
        go_wp2_with (fail)
        rw [← eW]
        clear eW
        refine wp_region_cls (C := fun w' => Below W1.heap.size W1 w') (by kernel_rfl) (by kernel_rfl) (Below.refl _ _).drew ?_
        repeat (first | go_big_quiet_skip | quiet_step (first | (intro _; rfl) | (intro _; rw [if_neg (by omega)]; exact ⟨rfl, rfl⟩) | (intro hss; (first | rw [d0 _ hss] | rw [d2 _ hss]); exact ⟨rfl, rfl⟩) | (intro hss; go_at_call 97; (with_reducible refine (PA.out _ hss).mono ?_); rintro e w4 ⟨rfl, hb4⟩; exact ⟨rfl, hss.trans (hb4.mono hss.size)⟩)))
        refine wpQuiet_nil ?_
        intro w2 hb2
        go_wp2
        go_ret
        exact ⟨Lg.ret_bool F.out, HB.out _ hb2⟩
    · obtain rfl : k = l.length := by omega
      have F := Lib.hid (right_all HU.out)
      go_wp2_with (fail)
      go_ret
      exact ⟨Lg.ret_bool F.out, hb⟩
end Go.Proofs.YtlndnpfjneeeeaaGreatDoor.Fs
namespace Go.Proofs.YtlndnpfjneeeeaaGreatDoor.Fs
open Go.RowKit
set_option linter.unusedVariables false
set_option maxRecDepth 100000
set_option maxHeartbeats 4000000 in
theorem rright_any (A : Option Addr) (l : List En) (c : Nat) (w : World) (hr : Ens w A l) (hz : ∀ x ∈ l, x.n.length ≤ 1000000000 ∧ x.g.length ≤ 1000000000) (hl : l.length ≤ 1000000000) :
    Calls Tryz.prog 193 #[.slice A l.length c] w fun e w' => e = .returned (.bool (rightB l)) ∧ Below w.heap.size w w' := by
  have RD := Lib.hid hr
  have SZ := Lib.hid hz
  clear hr hz
  go_enter Tryz.func193, Tryz.ntmps193
  go_wp2_with (fail)
  go_loopw [3] (fun i W => ∃ k : Nat, i = .int .i64 k ∧ k ≤ l.length ∧ RUpto l k ∧ Below w.heap.size w W) (fun i _ => l.length - (intOf i).toNat)
  case atStart => exact ⟨0, rfl, by omega, fun j _ h => by omega, Below.refl _ _⟩
  case round =>
    obtain ⟨k, rfl, hk, hu, hb⟩ := hrel
    have HU := Lib.hid hu
    clear hu
    by_cases hlt : k < l.length
    · have hkI : (k : Int) < (l.length : Int) := by omega
      obtain ⟨ad, rfl, had, c0, c1, c2⟩ := Ens.at_ RD.out hlt
      have d0 : ∀ w', Below w.heap.size w w' → w'.cell? (ad.add (k * 3)) = some (.string (bs l[k].n)) := fun w' h => (h.cell (by rw [block_of_add]; exact had)).trans c0
      have d2 : ∀ w', Below w.heap.size w w' → w'.cell? ⟨(ad.add (k * 3)).block, (ad.add (k * 3)).off + 2, none⟩ = some (.string (bs l[k].g)) := fun w' h => (h.cell (by show (ad.add (k * 3)).block < _; rw [block_of_add]; exact had)).trans c2
      have e0 := d0 _ hb
      have GOOD := Lib.hid (fun h => RUpto.next hlt HU.out h)
      have BAD := Lib.hid (fun h => right_bad hlt h)
      have hzz := SZ.out _ (List.getElem_mem hlt)
      have PA : Hid (∀ W, Calls Tryz.prog 103 #[.string (bs l[k].n)] W fun e w' => e = .returned (.int .i64 (Lg.pathE l[k].n)) ∧ w' = W) := Lib.hid fun W =>
        (Lg.rpath_any (bs l[k].n) (by rw [bs_len]; omega) W).mono fun e w' h => ⟨h.1, h.2.symm⟩
      have HD : Hid (∀ b : Bool, ((47 : UInt8) ∈ l[k].n ↔ b = true) → ∀ W, Calls Tryz.prog 260 #[.string (bs l[k].n)] W fun e w' => e = .returned (.tuple #[.string (bs (head l[k].n)), .bool b]) ∧ W = w') := Lib.hid fun b hb W =>
        (rhead_any (bs l[k].n) (by rw [bs_len]; omega) W).mono fun e w' h => by
          obtain ⟨⟨b', rfl, hb'⟩, rfl⟩ := h
          refine ⟨?_, rfl⟩
          have : b' = b := by
            have h1 : b' = true ↔ b = true := hb'.trans hb
            cases b <;> cases b' <;> simp at h1 <;> rfl
          rw [this]; rfl
      have hgl : (bs l[k].g).size = l[k].g.length := bs_len _
      by_cases hm : (47 : UInt8) ∈ l[k].n
      · have H1 := Lib.hid (HD.out true (by simp [hm]))
        have F := Lib.hid (BAD.out fun h => h.2.1 hm)
        clear hm HD BAD GOOD hzz
        generalize l[k] = x at *
        go_wp2_with (go_at_call 260; (with_reducible refine (H1.out _).mono ?_); rintro e w1 ⟨rfl, rfl⟩)
        refine wp_region_cls (C := fun w' => Below w.heap.size w w') (by kernel_rfl) (by kernel_rfl) hb.drew ?_
        repeat (first | go_big_quiet_skip | quiet_step (first | (intro _; rfl) | (intro _; rw [if_neg (by omega)]; exact ⟨rfl, rfl⟩) | (intro hss; (first | rw [d0 _ hss] | rw [d2 _ hss]); exact ⟨rfl, rfl⟩) | (intro hss; go_at_call 103; (with_reducible refine (PA.out _).mono ?_); rintro e w4 ⟨rfl, rfl⟩; exact ⟨rfl, hss⟩)))
        refine wpQuiet_nil ?_
        intro w2 hb2
        go_wp2
        go_ret
        exact ⟨Lg.ret_bool F.out, hb2⟩
      · have H1 := Lib.hid (HD.out false (by simp [hm]))
        clear HD
        by_cases hp : Lg.pathOk l[k].n = true
        · rw [pathE_yes hp] at PA
          by_cases hg : l[k].g.length = 32
          · have g1 : (((bs l[k].g).size : Int) != 32) = false := by rw [hgl, hg]; rfl
            by_cases hk0 : k = 0
            · have j0 : ¬ (0 : Int) < (k : Int) := by omega
              have j1 : decide ((0 : Int) < (k : Int)) = false := decide_eq_false j0
              have j2 : decide (0 < k) = false := decide_eq_false (by omega)
              have F := Lib.hid (GOOD.out ⟨hp, hm, hg, fun h => absurd h (by omega)⟩)
              clear hk0 hm hp BAD GOOD hzz hg hgl
              generalize l[k] = x at *
              go_wp2_with (go_at_call 260; (with_reducible refine (H1.out _).mono ?_); rintro e w1 ⟨rfl, rfl⟩)
              refine wp_region_cls (C := fun w' => Below w.heap.size w w') (by kernel_rfl) (by kernel_rfl) hb.drew ?_
              repeat (first | go_big_quiet_skip | quiet_step (first | (intro _; rfl) | (intro _; rw [if_neg (by omega)]; exact ⟨rfl, rfl⟩) | (intro hss; (first | rw [d0 _ hss] | rw [d2 _ hss]); exact ⟨rfl, rfl⟩) | (intro hss; go_at_call 103; (with_reducible refine (PA.out _).mono ?_); rintro e w4 ⟨rfl, rfl⟩; exact ⟨rfl, hss⟩)))
              refine wpQuiet_nil ?_
              intro w2 hb2
              go_wp2
              go_roundw
              case rel => exact ⟨k + 1, by go_num, by omega, F.out, hb2⟩
              case measure => simp [intOf]; omega
            · obtain ⟨q, hq⟩ : ∃ q, q = k - 1 := ⟨_, rfl⟩
              have hlp : q < l.length := by omega
              obtain ⟨ad', ead, had', p0, p1, p2⟩ := Ens.at_ RD.out hlp
              obtain rfl : ad = ad' := Option.some.inj ead
              have dp : ∀ w', Below w.heap.size w w' → w'.cell? (ad.add (q * 3)) = some (.string (bs l[q].n)) := fun w' h => (h.cell (by rw [block_of_add]; exact had)).trans p0
              have iv : IntKind.i64.wrap ((k : Int) - 1) = (q : Int) := by rw [show ((k : Int) - 1) = q by omega]; exact IntWalk.i64_in _ (by omega)
              have i0 : (q : Int) < (l.length : Int) := by omega
              have j0 : (0 : Int) < (k : Int) := by omega
              have j1 : decide (0 < k) = true := decide_eq_true (by omega)
              have ho2 : l[k - 1]'(by omega) = l[q] := by subst hq; rfl
              clear p0 p1 p2 had' ead hk0
              by_cases ho : l[q].n < l[k].n
              · have F := Lib.hid (GOOD.out ⟨hp, hm, hg, fun _ => by rw [ho2]; exact ho⟩)
                have o1 := lt_op (a := bs l[q].n) (b := bs l[k].n) ho
                clear hm hp BAD GOOD hzz hg hgl ho ho2 hq
                generalize l[k] = x at *
                generalize l[q] = y at *
                go_wp2_with (go_at_call 260; (with_reducible refine (H1.out _).mono ?_); rintro e w1 ⟨rfl, rfl⟩)
                refine wp_region_cls (C := fun w' => Below w.heap.size w w') (by kernel_rfl) (by kernel_rfl) hb.drew ?_
                repeat (first | go_big_quiet_skip | quiet_step (first | (intro _; rfl) | (intro _; rw [if_neg (by omega)]; exact ⟨rfl, rfl⟩) | (intro hss; (first | rw [d0 _ hss] | rw [d2 _ hss] | rw [dp _ hss]); exact ⟨rfl, rfl⟩) | (intro hss; go_at_call 103; (with_reducible refine (PA.out _).mono ?_); rintro e w4 ⟨rfl, rfl⟩; exact ⟨rfl, hss⟩)))
                refine wpQuiet_nil ?_
                intro w2 hb2
                go_wp2
                go_roundw
                case rel => exact ⟨k + 1, by go_num, by omega, F.out, hb2⟩
                case measure => simp [intOf]; omega
              · have F := Lib.hid (BAD.out fun h => ho (by have := h.2.2.2 (by omega); rw [ho2] at this; exact this))
                have o1 := nlt_op (a := bs l[q].n) (b := bs l[k].n) ho
                clear hm hp BAD GOOD hzz hg hgl ho ho2 hq
                generalize l[k] = x at *
                generalize l[q] = y at *
                go_wp2_with (go_at_call 260; (with_reducible refine (H1.out _).mono ?_); rintro e w1 ⟨rfl, rfl⟩)
                refine wp_region_cls (C := fun w' => Below w.heap.size w w') (by kernel_rfl) (by kernel_rfl) hb.drew ?_
                repeat (first | go_big_quiet_skip | quiet_step (first | (intro _; rfl) | (intro _; rw [if_neg (by omega)]; exact ⟨rfl, rfl⟩) | (intro hss; (first | rw [d0 _ hss] | rw [d2 _ hss] | rw [dp _ hss]); exact ⟨rfl, rfl⟩) | (intro hss; go_at_call 103; (with_reducible refine (PA.out _).mono ?_); rintro e w4 ⟨rfl, rfl⟩; exact ⟨rfl, hss⟩)))
                refine wpQuiet_nil ?_
                intro w2 hb2
                go_wp2
                go_ret
                exact ⟨Lg.ret_bool F.out, hb2⟩
          · have F := Lib.hid (BAD.out fun h => hg h.2.2.1)
            have g1 : (((bs l[k].g).size : Int) != 32) = true := by rw [hgl]; simp; omega
            clear hm hp BAD GOOD hzz hg hgl
            generalize l[k] = x at *
            go_wp2_with (go_at_call 260; (with_reducible refine (H1.out _).mono ?_); rintro e w1 ⟨rfl, rfl⟩)
            refine wp_region_cls (C := fun w' => Below w.heap.size w w') (by kernel_rfl) (by kernel_rfl) hb.drew ?_
            repeat (first | go_big_quiet_skip | quiet_step (first | (intro _; rfl) | (intro _; rw [if_neg (by omega)]; exact ⟨rfl, rfl⟩) | (intro hss; (first | rw [d0 _ hss] | rw [d2 _ hss]); exact ⟨rfl, rfl⟩) | (intro hss; go_at_call 103; (with_reducible refine (PA.out _).mono ?_); rintro e w4 ⟨rfl, rfl⟩; exact ⟨rfl, hss⟩)))
            refine wpQuiet_nil ?_
            intro w2 hb2
            go_wp2
            go_ret
            exact ⟨Lg.ret_bool F.out, hb2⟩
        · rw [pathE_not (by simpa using hp)] at PA
          have F := Lib.hid (BAD.out fun h => hp h.1)
          clear hm hp BAD GOOD hzz
          generalize l[k] = x at *
          go_wp2_with (go_at_call 260; (with_reducible refine (H1.out _).mono ?_); rintro e w1 ⟨rfl, rfl⟩)
          refine wp_region_cls (C := fun w' => Below w.heap.size w w') (by kernel_rfl) (by kernel_rfl) hb.drew ?_
          repeat (first | go_big_quiet_skip | quiet_step (first | (intro _; rfl) | (intro _; rw [if_neg (by omega)]; exact ⟨rfl, rfl⟩) | (intro hss; (first | rw [d0 _ hss] | rw [d2 _ hss]); exact ⟨rfl, rfl⟩) | (intro hss; go_at_call 103; (with_reducible refine (PA.out _).mono ?_); rintro e w4 ⟨rfl, rfl⟩; exact ⟨rfl, hss⟩)))
          refine wpQuiet_nil ?_
          intro w2 hb2
          go_wp2
          go_ret
          exact ⟨Lg.ret_bool F.out, hb2⟩
    · obtain rfl : k = l.length := by omega
      have F := Lib.hid (right_all HU.out)
      go_wp2_with (fail)
      go_ret
      exact ⟨Lg.ret_bool F.out, hb⟩
end Go.Proofs.YtlndnpfjneeeeaaGreatDoor.Fs
/- FsEnc, what a claim needs of it (prune.py). -/
namespace Go.Proofs.YtlndnpfjneeeeaaGreatDoor.Fs
open Go.RowKit
set_option linter.unusedVariables false
set_option maxRecDepth 100000
def EncSays (l : List En) (w : World) (e : Ending) (w' : World) : Prop := e = .returned (.tuple #[.string (bs (encode l).1), .int .i64 (encode l).2]) ∧ Below w.heap.size w w'
theorem encode_yes {l : List En} (h : rightB l = true) : encode l = (bytesE l, 0) := by unfold encode; rw [if_pos h]
theorem encode_no {l : List En} (h : rightB l = false) : encode l = ([], 11) := by unfold encode; rw [if_neg (by simp [h])]
theorem parts_le : ∀ {l : List En} {x : En}, x ∈ l → x.n.length ≤ (bytesE l).length ∧ x.g.length ≤ (bytesE l).length := by
  intro l
  induction l with
  | nil => intro x h; cases h
  | cons a l ih =>
    intro x h
    rw [bytesE_eq, List.flatMap_cons, List.length_append]
    have ih' := @ih x
    rw [bytesE_eq] at ih'
    rcases List.mem_cons.1 h with rfl | h
    · have h1 := ent_le x
      have e : ([x.n, kind x, x.g].flatMap Pk.text).length = (Pk.text x.n).length + (Pk.text (kind x)).length + (Pk.text x.g).length := by simp; omega
      have t1 : x.n.length ≤ (Pk.text x.n).length := by unfold Pk.text; simp; omega
      have t2 : x.g.length ≤ (Pk.text x.g).length := by unfold Pk.text; simp; omega
      omega
    · have := ih' h
      omega
theorem pencode_any (A : Option Addr) (l : List En) (c : Nat) (w : World) (hE : Env w) (hr : Ens w A l) (hl : (bytesE l).length ≤ 100000000) :
    Calls Tryz.prog 33 #[.slice A l.length c] w (EncSays l w) := by
  have RI := Lib.hid (pright_any A l c w hE hr (fun x hx => by have := parts_le hx; omega) (by have := bytes_count l; omega))
  have BY : Hid (∀ W, Below w.heap.size w W → Calls Tryz.prog 86 #[.slice A l.length c] W fun e w' => e = .returned (.string (bs (bytesE l))) ∧ Below W.heap.size W w') := Lib.hid fun W hW => pbytes_any A l c W (hE.below hW).2 ((hr.below hW).more hW.size) hl
  clear hr hE
  unfold EncSays
  cases h : rightB l with
  | true =>
    rw [h] at RI
    rw [encode_yes h]
    clear h
    generalize bytesE l = t at *
    go_enter Tryz.func33, Tryz.ntmps33
    go_wp2_with (first
      | (go_at_call 85; (with_reducible refine (RI.out).mono ?_); rintro e w1 ⟨rfl, hb1⟩; have B1 := Lib.hid (BY.out _ hb1))
      | (go_at_call 86; (with_reducible refine (B1.out).mono ?_); rintro e w2 ⟨rfl, hb2⟩))
    go_ret2
    exact ⟨rfl, hb1.trans (hb2.mono hb1.size)⟩
  | false =>
    rw [h] at RI
    rw [encode_no h]
    clear h
    go_enter Tryz.func33, Tryz.ntmps33
    go_wp2_with (go_at_call 85; (with_reducible refine (RI.out).mono ?_); rintro e w1 ⟨rfl, hb1⟩)
    go_ret2
    exact ⟨rfl, hb1⟩
end Go.Proofs.YtlndnpfjneeeeaaGreatDoor.Fs
