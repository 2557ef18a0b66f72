/- Joined by mkmerged.py: LgParse, LgRsA. -/
import Derived.Test.YtdidnlkilleljaaGreatDoorMg11
import Derived.Test.YtdidnlkilleljaaGreatDoorMg07
/- LgParse, what a claim needs of it (prune.py). -/
namespace Go.Proofs.YtdidnlkilleljaaGreatDoor.Lg
open Go.RowKit
set_option linter.unusedVariables false
set_option maxRecDepth 100000
def ParseSays (w' : World) (ok : Nat → Prop) (cmd : B) (e : Ending) : Prop :=
  ∃ A k c, e = .returned (.tuple #[.slice A k c, .int .i64 (parse cmd).2]) ∧ k ≤ c ∧ StepsAt w' ok A k (parse cmd).1
theorem ParseSays.none_ {w' : World} {ok : Nat → Prop} {cmd : B} {k : Nat} (h : parse cmd = ([], k)) : ParseSays w' ok cmd (.returned (.tuple #[.slice none 0 0, .int .i64 k])) :=
  ⟨none, 0, 0, by rw [h], Nat.le_refl _, by rw [h]; exact ⟨rfl, [], Lies.none_, .nil⟩⟩
theorem suffix_last (l : List UInt8) : Lib.hasSuffix l [10] = decide (l.getLast? = some 10) := by
  rcases List.eq_nil_or_concat l with rfl | ⟨l', x, rfl⟩
  · rfl
  · have : ∀ x : UInt8, ([10] : List UInt8).isSuffixOf (l' ++ [x]) = decide (x = 10) := by
      intro x
      rw [List.isSuffixOf, List.reverse_append]
      simp [List.isPrefixOf]
      exact Bool.eq_iff_iff.2 (by simp; exact ⟨fun h => h.symm, fun h => h.symm⟩)
    rw [Lib.hasSuffix, List.concat_eq_append, this]
    simp
theorem trim_last {l : List UInt8} (h : l.getLast? = some 10) : Lib.trimSuffix l [10] = l.dropLast := by
  rw [Lib.trimSuffix, suffix_last, if_pos (by simpa using h), List.dropLast_eq_take]
  rfl
theorem trim_not {l : List UInt8} (h : l.getLast? ≠ some 10) : Lib.trimSuffix l [10] = l := by
  rw [Lib.trimSuffix, suffix_last, if_neg (by simpa using h)]
def parseW (w1 : World) (g n : Nat) : World :=
  (((w1.alloc (.cells #[.slice (some ⟨g, 0, none⟩) n n] 24)).alloc (.cells #[.int .i64 0] 3)).alloc (.cells #[.func (.func 85) #[] #[.pointer (some ⟨w1.heap.size + 1, 0, none⟩), .pointer (some ⟨w1.heap.size, 0, none⟩), .pointer (some ⟨w1.heap.size + 1 + 1, 0, none⟩)]] 130))
theorem parse_block {w w1 : World} {g : Nat} {L : List ByteArray} (hE : Env w) (hs : Strs w1 (some ⟨g, 0, none⟩) L) (hb : Below w.heap.size w w1) (hL : L.length ≤ 64) (hp : ∀ p ∈ L, p.size ≤ 1000000) :
    Calls Tryz.prog 85 #[.int .i64 0, .pointer (some ⟨w1.heap.size + 1, 0, none⟩), .pointer (some ⟨w1.heap.size, 0, none⟩), .pointer (some ⟨w1.heap.size + 1 + 1, 0, none⟩)] (parseW w1 g L.length) fun e w' => BlockSays (parseW w1 g L.length) w' (w1.heap.size + 1) (L.map tl) (bk 0 [] (L.map tl)) e := by
  have e0 : (parseW w1 g L.length).heap[w1.heap.size]? = some (.cells #[.slice (some ⟨g, 0, none⟩) L.length L.length] 24 (0, 0)) := by
    rw [parseW, Below.heap_alloc _ _ _ (by simp; omega), Below.heap_alloc _ _ _ (by simp), heap_new]
  have e1 : (parseW w1 g L.length).heap[w1.heap.size + 1]? = some (.cells #[.int .i64 0] 3 (0, 0)) := by
    rw [parseW, Below.heap_alloc _ _ _ (by simp)]
    have := heap_new (w1.alloc (.cells #[.slice (some ⟨g, 0, none⟩) L.length L.length] 24)) (.cells #[.int .i64 0] 3)
    simpa using this
  have e2 : (parseW w1 g L.length).cell? ⟨w1.heap.size + 1 + 1, 0, none⟩ = some (.func (.func 85) #[] #[.pointer (some ⟨w1.heap.size + 1, 0, none⟩), .pointer (some ⟨w1.heap.size, 0, none⟩), .pointer (some ⟨w1.heap.size + 1 + 1, 0, none⟩)]) := by
    refine cell_of_one ?_ (t := 130)
    have := heap_new ((w1.alloc (.cells #[.slice (some ⟨g, 0, none⟩) L.length L.length] 24)).alloc (.cells #[.int .i64 0] 3)) (.cells #[.func (.func 85) #[] #[.pointer (some ⟨w1.heap.size + 1, 0, none⟩), .pointer (some ⟨w1.heap.size, 0, none⟩), .pointer (some ⟨w1.heap.size + 1 + 1, 0, none⟩)]] 130)
    rw [parseW]
    simpa using this
  have hb2 : Below w1.heap.size w1 (parseW w1 g L.length) := (((Below.refl _ _).alloc (Nat.le_refl _) _).alloc (by simp) _).alloc (by simp; omega) _
  have h := block_any L (w1.heap.size + 1) w1.heap.size (w1.heap.size + 1 + 1) (some ⟨g, 0, none⟩) L.length w hE (by have := hb.size; omega) hL hp L.length 0 0 (parseW w1 g L.length) (by omega) (by omega) (by omega) (hb.trans (hb2.mono hb.size))
    ⟨by omega, by omega, cell_of_one e0, e2, fun j hj => by
      obtain ⟨ad, h1, h2, h3⟩ := hs.at_ hj
      injection h1 with h1
      subst h1
      exact ⟨_, rfl, by show g ≠ _; have : g < w1.heap.size := h2; omega, (hb2.cell (by rw [block_of_add]; exact h2)).trans h3⟩⟩ e1
  rw [List.drop_zero] at h
  exact h
theorem cut_any (s : ByteArray) (w : World) (hs : s.size ≤ 1000000) :
    Calls Tryz.prog 83 #[.string s, .string ⟨#[10]⟩] w fun e w' => e = .returned (.tuple #[.string (bs (Lib.trimSuffix (tl s) [10])), .bool (decide ((tl s).getLast? = some 10))]) ∧ w = w' := by
  refine (Tryz.strings_CutSuffix s ⟨#[10]⟩ w (by omega)).mono ?_
  rintro e w' ⟨h1, h2⟩
  refine ⟨?_, h2.symm⟩
  rw [h1, ← suffix_last]
  rfl
theorem splitS_any (s : ByteArray) (w : World) (hs : s.size ≤ 1000000) (hE : Env w) :
    Calls Tryz.prog 84 #[.string s, .string ⟨#[10]⟩] w fun e w' => e = .returned (.slice (some ⟨w.heap.size, 0, none⟩) (pieces 10 s).length (pieces 10 s).length) ∧ Strs w' (some ⟨w.heap.size, 0, none⟩) (pieces 10 s) ∧ Below w.heap.size w w' := by
  obtain ⟨⟨m, hm⟩, _⟩ := hE
  refine (split_any s 10 m w (by omega) hm).mono ?_
  rintro e w' ⟨h1, rfl⟩
  exact ⟨h1, Strs.new w _ _, (Below.refl _ _).alloc (Nat.le_refl _) _⟩
set_option maxHeartbeats 1000000 in
theorem parse_any (cmd : ByteArray) (w : World) (hE : Env w) (hs : cmd.size ≤ 1000000) :
    Calls Tryz.prog 44 #[.string cmd] w fun e w' => ParseSays w' (fun b => w.heap.size ≤ b) (tl cmd) e ∧ Below w.heap.size w w' := by
  by_cases hbig : 8192 < cmd.size
  · have hI : (8192 : Int) < (cmd.size : Int) := by omega
    have R : Hid (parse (tl cmd) = ([], 15)) := Lib.hid (by rw [parse, if_pos (by rw [tl_len]; exact hbig)])
    clear hbig
    go_enter Tryz.func44, Tryz.ntmps44
    go_wp2_with (fail)
    go_ret2
    exact ⟨ParseSays.none_ R.out, Below.refl _ _⟩
  · have hI : ¬ (8192 : Int) < (cmd.size : Int) := by omega
    by_cases h0 : cmd.size = 0
    · obtain rfl := empty_of h0
      have R : Hid (parse (tl ⟨#[]⟩) = ([], 0)) := Lib.hid rfl
      clear hbig h0
      go_enter Tryz.func44, Tryz.ntmps44
      go_wp2_with (fail)
      go_ret2
      exact ⟨ParseSays.none_ R.out, Below.refl _ _⟩
    · have hne := some_ne h0
      have hne2 : ¬ tl cmd = [] := fun e => h0 (by rw [← tl_len, e]; rfl)
      have hne3 : ¬ cmd.toList = [] := by rw [Lib.toList_data]; exact hne2
      have hnb : ¬ 8192 < (tl cmd).length := by rw [tl_len]; exact hbig
      have CT := cut_any cmd w hs
      by_cases hl : (tl cmd).getLast? = some 10
      · rw [trim_last hl, decide_eq_true hl] at CT
        have hbs : (bs (tl cmd).dropLast).size ≤ 1000000 := by rw [← tl_len, tl_bs, List.length_dropLast, tl_len]; omega
        have SP := splitS_any (bs (tl cmd).dropLast) w hbs hE
        have hp : pieces 10 (bs (tl cmd).dropLast) = (splitB 10 (tl cmd).dropLast).map bs := rfl
        have hpm : (pieces 10 (bs (tl cmd).dropLast)).map tl = splitB 10 (tl cmd).dropLast := by rw [hp, map_tl_bs]
        have hpp := fun p h => Nat.le_trans (pieces_part 10 (bs (tl cmd).dropLast) p h) hbs
        have hpl : (pieces 10 (bs (tl cmd).dropLast)).length = (splitB 10 (tl cmd).dropLast).length := by rw [hp, List.length_map]
        by_cases h64 : 64 < (splitB 10 (tl cmd).dropLast).length
        · have R : Hid (parse (tl cmd) = ([], 15)) := Lib.hid (by rw [parse, if_neg hnb, if_neg hne2, if_neg (by simpa using hl), if_pos h64])
          rw [hpl] at SP
          have h64I : (64 : Int) < ((splitB 10 (tl cmd).dropLast).length : Int) := by omega
          have CT := Lib.hid CT
          have SP := Lib.hid SP
          generalize (splitB 10 (tl cmd).dropLast).length = N at *
          generalize (tl cmd).dropLast = body at *
          clear hpp hpm hpl hp hl hnb hne2 h0 hbig h64
          go_enter Tryz.func44, Tryz.ntmps44
          go_wp2_with (first | (go_at_call 83; (with_reducible refine (CT.out).mono ?_); rintro e w1 ⟨rfl, rfl⟩) | (go_at_call 84; (with_reducible refine (SP.out).mono ?_); rintro e w1 ⟨rfl, hs1, hb1⟩))
          go_ret2
          exact ⟨ParseSays.none_ R.out, hb1.alloc hb1.size _⟩
        · have h64I : ¬ (64 : Int) < ((splitB 10 (tl cmd).dropLast).length : Int) := by omega
          have R : Hid (parse (tl cmd) = match bk 0 [] (splitB 10 (tl cmd).dropLast) with | .ok out _ => (out, 0) | .err e => ([], e)) := Lib.hid (by
            rw [parse, if_neg hnb, if_neg hne2, if_neg (by simpa using hl), if_neg h64]
            cases bk 0 [] (splitB 10 (tl cmd).dropLast) <;> rfl)
          have PB : Hid (∀ w1, Strs w1 (some ⟨w.heap.size, 0, none⟩) (pieces 10 (bs (tl cmd).dropLast)) → Below w.heap.size w w1 → Calls Tryz.prog 85 #[.int .i64 0, .pointer (some ⟨w1.heap.size + 1, 0, none⟩), .pointer (some ⟨w1.heap.size, 0, none⟩), .pointer (some ⟨w1.heap.size + 1 + 1, 0, none⟩)] (parseW w1 w.heap.size (splitB 10 (tl cmd).dropLast).length) fun e w' => BlockSays (parseW w1 w.heap.size (splitB 10 (tl cmd).dropLast).length) w' (w1.heap.size + 1) (splitB 10 (tl cmd).dropLast) (bk 0 [] (splitB 10 (tl cmd).dropLast)) e) := Lib.hid fun w1 h1 h2 => by
            have := parse_block hE h1 h2 (by rw [hpl]; omega) hpp
            rwa [hpl, hpm] at this
          rw [hpl] at SP
          have CT := Lib.hid CT
          have SP := Lib.hid SP
          generalize pieces 10 (bs (tl cmd).dropLast) = L at *
          generalize splitB 10 (tl cmd).dropLast = Ls at *
          generalize (tl cmd).dropLast = body at *
          generalize Ls.length = N at *
          clear hpp hpm hpl hp hl hnb hne2 h0 hbig h64
          have hmf : ∀ (fn : Fn) (first cap : Array Value) (w : World), (Instr.makeFunc fn first cap).run Tryz.prog w = .ok (.func fn first cap) w := fun _ _ _ _ => rfl
          have hsf := fun (fn : Fn) (first cap : Array Value) (a : Addr) (w : World) => run_store Tryz.prog w a (.func fn first cap) .plain rfl
          have hsz : ∀ w1, Below w.heap.size w w1 → w.heap.size ≤ (parseW w1 w.heap.size N).heap.size ∧ Below w.heap.size w (parseW w1 w.heap.size N) := fun w1 h => by
            have h2 := ((h.alloc h.size (.cells #[.slice (some ⟨w.heap.size, 0, none⟩) N N] 24)).alloc (by have := h.size; simp; omega) (.cells #[.int .i64 0] 3)).alloc (by have := h.size; simp; omega) (.cells #[.func (.func 85) #[] #[.pointer (some ⟨w1.heap.size + 1, 0, none⟩), .pointer (some ⟨w1.heap.size, 0, none⟩), .pointer (some ⟨w1.heap.size + 1 + 1, 0, none⟩)]] 130)
            exact ⟨h2.size, h2⟩
          have HSZ := Lib.hid hsz
          clear hsz
          cases hbk : bk 0 [] Ls with
          | err ek =>
            have PB : Hid (∀ w1, Strs w1 (some ⟨w.heap.size, 0, none⟩) L → Below w.heap.size w w1 → Calls Tryz.prog 85 #[.int .i64 0, .pointer (some ⟨w1.heap.size + 1, 0, none⟩), .pointer (some ⟨w1.heap.size, 0, none⟩), .pointer (some ⟨w1.heap.size + 1 + 1, 0, none⟩)] (parseW w1 w.heap.size N) fun e w' => e = .returned (.tuple #[.slice none 0 0, .int .i64 ek]) ∧ Below w.heap.size w w') := Lib.hid fun w1 h1 h2 => (PB.out w1 h1 h2).mono (by
              rintro e w' ⟨g1, g2⟩
              rw [hbk] at g2
              exact ⟨g2, (HSZ.out w1 h2).2.trans (g1.below (HSZ.out w1 h2).1 (by have := h2.size; omega))⟩)
            have R2 : Hid (parse (tl cmd) = ([], ek)) := Lib.hid (by rw [R.out, hbk])
            clear R hbk
            go_enter Tryz.func44, Tryz.ntmps44
            go_wp2_with (first | (go_at_call 83; (with_reducible refine (CT.out).mono ?_); rintro e w1 ⟨rfl, rfl⟩) | (go_at_call 84; (with_reducible refine (SP.out).mono ?_); rintro e w1 ⟨rfl, hs1, hb1⟩; have PB1 := PB.out w1 hs1 hb1; unfold parseW at PB1; have PB2 := Lib.hid PB1; clear PB1) | (go_at_call 85; (with_reducible refine (PB2.out).mono ?_); rintro e w2 ⟨rfl, hb2⟩))
            go_ret2
            exact ⟨ParseSays.none_ R2.out, hb2⟩
          | ok out rest =>
            have PB : Hid (∀ w1, Strs w1 (some ⟨w.heap.size, 0, none⟩) L → Below w.heap.size w w1 → Calls Tryz.prog 85 #[.int .i64 0, .pointer (some ⟨w1.heap.size + 1, 0, none⟩), .pointer (some ⟨w1.heap.size, 0, none⟩), .pointer (some ⟨w1.heap.size + 1 + 1, 0, none⟩)] (parseW w1 w.heap.size N) fun e w' => (∃ A k c, e = .returned (.tuple #[.slice A k c, .int .i64 0]) ∧ k ≤ c ∧ StepsAt w' (fun b => w.heap.size ≤ b) A k out) ∧ Below w.heap.size w w') := Lib.hid fun w1 h1 h2 => (PB.out w1 h1 h2).mono (by
              rintro e w' ⟨g1, g2⟩
              rw [hbk] at g2
              obtain ⟨A, k, c, j, g3, g4, g5, _⟩ := g2
              exact ⟨⟨A, k, c, g3, g4, g5.mono fun b hb _ => ⟨Nat.le_trans (HSZ.out w1 h2).1 hb, rfl⟩⟩, (HSZ.out w1 h2).2.trans (g1.below (HSZ.out w1 h2).1 (by have := h2.size; omega))⟩)
            have R2 : Hid (parse (tl cmd) = (out, 0)) := Lib.hid (by rw [R.out, hbk])
            clear R hbk
            go_enter Tryz.func44, Tryz.ntmps44
            go_wp2_with (first | (go_at_call 83; (with_reducible refine (CT.out).mono ?_); rintro e w1 ⟨rfl, rfl⟩) | (go_at_call 84; (with_reducible refine (SP.out).mono ?_); rintro e w1 ⟨rfl, hs1, hb1⟩; have PB1 := PB.out w1 hs1 hb1; unfold parseW at PB1; have PB2 := Lib.hid PB1; clear PB1) | (go_at_call 85; (with_reducible refine (PB2.out).mono ?_); rintro e w2 ⟨⟨A, k, c, rfl, hkc, hst⟩, hb2⟩))
            go_ret2
            exact ⟨⟨A, k, c, by rw [R2.out]; rfl, hkc, by rw [R2.out]; exact hst⟩, hb2⟩
      · rw [trim_not hl, decide_eq_false hl, bs_tl] at CT
        have SP := splitS_any cmd w hs hE
        have R : Hid (parse (tl cmd) = ([], 20)) := Lib.hid (by rw [parse, if_neg hnb, if_neg hne2, if_pos hl])
        have CT := Lib.hid CT
        have SP := Lib.hid SP
        clear hl hnb hne2 h0 hbig
        go_enter Tryz.func44, Tryz.ntmps44
        go_wp2_with (first | (go_at_call 83; (with_reducible refine (CT.out).mono ?_); rintro e w1 ⟨rfl, rfl⟩) | (go_at_call 84; (with_reducible refine (SP.out).mono ?_); rintro e w1 ⟨rfl, hs1, hb1⟩))
        go_ret2
        exact ⟨ParseSays.none_ R.out, hb1.alloc hb1.size _⟩
end Go.Proofs.YtdidnlkilleljaaGreatDoor.Lg
/- LgRsA, what a claim needs of it (prune.py). -/
namespace Go.Proofs.YtdidnlkilleljaaGreatDoor.Lg
open Go.RowKit
set_option linter.unusedVariables false
set_option maxRecDepth 100000
theorem rstep_copy (ad : Addr) (y : ByteArray) (l : List ByteArray) (c : Nat) (w : World) (hr : Strs w (some ad) (⟨#[99, 111, 112, 121]⟩ :: y :: l)) (hl : (y :: l).length ≤ 1000000) (hs : ∀ p ∈ y :: l, p.size ≤ 1000000) (hc : (y :: l).length + 1 ≤ c) :
    Calls Tryz.prog 124 #[.slice (some ad) ((y :: l).length + 1) c] w fun e w' => StepSays w' (fun b => b = ad.block) ([99, 111, 112, 121] :: (y :: l).map tl) e ∧ Below w.heap.size w w' := by
  obtain ⟨_, h1, h2, h3⟩ := hr.at_ (k := 0) (by simp)
  injection h1 with h1
  subst h1
  have h4 : w.cell? ad = some (.string ⟨#[99, 111, 112, 121]⟩) := h3
  have ht := hr.tail
  clear h3
  have LI := Lib.hid (fun W (hW : Below w.heap.size w W) => ht.lies hW)
  have SW := Lib.hid (stepW_copy ((y :: l).map tl))
  have c1 : ¬ c = 1 := by simp at hc; omega
  have RP : Hid (∀ W, Below w.heap.size w W → Calls Tryz.prog 175 #[.slice (some ⟨ad.block, ad.off + 1, none⟩) (y :: l).length (c - 1)] W fun e w' => e = .returned (.bool (allP (y :: l))) ∧ W = w') :=
    Lib.hid fun W hW => rpaths_any _ (y :: l) (c - 1) W (ht.below hW) (by omega) (fun p hp => by have := hs p hp; omega)
  rw [len_map, allP_map] at SW
  generalize y :: l = l at *
  have e1 : (1 : Int) ≤ ((l.length + 1 : Nat) : Int) := by omega
  have e2 : ((l.length + 1 : Nat) : Int) ≤ (c : Int) := by omega
  have e3 : (0 : Int) < ((l.length + 1 : Nat) : Int) := by omega
  clear hr ht hs
  by_cases hn : l.length = 2
  · have g1 : ((l.length : Int) == 2) = true := by simp; omega
    cases hp : allP l
    · have BAD := Lib.hid (SW.out.trans (if_neg (by rw [hp]; simp)))
      rw [hp] at RP
      clear hp hn SW
      go_enter Tryz.func124, Tryz.ntmps124
      go_wp2_with ((go_at_call 175; ((with_reducible refine (RP.out _ (((Below.refl _ _).alloc (Nat.le_refl _) _).alloc (by simp) _)).mono ?_); rintro e w1 ⟨rfl, rfl⟩)))
      ((try simp only [Exit.inBlock, Exit.then]); refine bodyPost_ret_by (results_cell_row2 rfl _ _ w.heap.size 61 _ (0, 0) _ rfl heap_two rfl rfl (by kernel_rfl)) rfl ?_)
      exact ⟨StepSays.bad BAD.out (by omega), (((Below.refl _ _).alloc (Nat.le_refl _) _).alloc (by simp) _)⟩
    · have GOOD := Lib.hid (SW.out.trans (if_pos ⟨hn, hp⟩))
      rw [hp] at RP
      clear hp hn SW
      go_enter Tryz.func124, Tryz.ntmps124
      go_wp2_with ((go_at_call 175; ((with_reducible refine (RP.out _ (((Below.refl _ _).alloc (Nat.le_refl _) _).alloc (by simp) _)).mono ?_); rintro e w1 ⟨rfl, rfl⟩)))
      ((try simp only [Exit.inBlock, Exit.then]); refine bodyPost_ret_by (results_cell_row2 rfl _ _ w.heap.size 61 _ (0, 0) _ rfl heap_two rfl rfl (by kernel_rfl)) rfl ?_)
      exact ⟨StepSays.good GOOD.out (by omega) (by rw [len_map]) (LI.out _ (((Below.refl _ _).alloc (Nat.le_refl _) _).alloc (by simp) _)), (((Below.refl _ _).alloc (Nat.le_refl _) _).alloc (by simp) _)⟩
  · have g1 : ((l.length : Int) == 2) = false := by simp; omega
    have BAD := Lib.hid (SW.out.trans (if_neg (fun h => hn h.1)))
    clear hn SW
    go_enter Tryz.func124, Tryz.ntmps124
    go_wp2_with (fail)
    ((try simp only [Exit.inBlock, Exit.then]); refine bodyPost_ret_by (results_cell_row2 rfl _ _ w.heap.size 61 _ (0, 0) _ rfl heap_two rfl rfl (by kernel_rfl)) rfl ?_)
    exact ⟨StepSays.bad BAD.out (by omega), (((Below.refl _ _).alloc (Nat.le_refl _) _).alloc (by simp) _)⟩
theorem rstep_upper (ad : Addr) (y : ByteArray) (l : List ByteArray) (c : Nat) (w : World) (hr : Strs w (some ad) (⟨#[117, 112, 112, 101, 114]⟩ :: y :: l)) (hl : (y :: l).length ≤ 1000000) (hs : ∀ p ∈ y :: l, p.size ≤ 1000000) (hc : (y :: l).length + 1 ≤ c) :
    Calls Tryz.prog 124 #[.slice (some ad) ((y :: l).length + 1) c] w fun e w' => StepSays w' (fun b => b = ad.block) ([117, 112, 112, 101, 114] :: (y :: l).map tl) e ∧ Below w.heap.size w w' := by
  obtain ⟨_, h1, h2, h3⟩ := hr.at_ (k := 0) (by simp)
  injection h1 with h1
  subst h1
  have h4 : w.cell? ad = some (.string ⟨#[117, 112, 112, 101, 114]⟩) := h3
  have ht := hr.tail
  clear h3
  have LI := Lib.hid (fun W (hW : Below w.heap.size w W) => ht.lies hW)
  have SW := Lib.hid (stepW_upper ((y :: l).map tl))
  have c1 : ¬ c = 1 := by simp at hc; omega
  have RP : Hid (∀ W, Below w.heap.size w W → Calls Tryz.prog 175 #[.slice (some ⟨ad.block, ad.off + 1, none⟩) (y :: l).length (c - 1)] W fun e w' => e = .returned (.bool (allP (y :: l))) ∧ W = w') :=
    Lib.hid fun W hW => rpaths_any _ (y :: l) (c - 1) W (ht.below hW) (by omega) (fun p hp => by have := hs p hp; omega)
  rw [len_map, allP_map] at SW
  generalize y :: l = l at *
  have e1 : (1 : Int) ≤ ((l.length + 1 : Nat) : Int) := by omega
  have e2 : ((l.length + 1 : Nat) : Int) ≤ (c : Int) := by omega
  have e3 : (0 : Int) < ((l.length + 1 : Nat) : Int) := by omega
  clear hr ht hs
  by_cases hn : l.length = 1
  · have g1 : ((l.length : Int) == 1) = true := by simp; omega
    cases hp : allP l
    · have BAD := Lib.hid (SW.out.trans (if_neg (by rw [hp]; simp)))
      rw [hp] at RP
      clear hp hn SW
      go_enter Tryz.func124, Tryz.ntmps124
      go_wp2_with ((go_at_call 175; ((with_reducible refine (RP.out _ (((Below.refl _ _).alloc (Nat.le_refl _) _).alloc (by simp) _)).mono ?_); rintro e w1 ⟨rfl, rfl⟩)))
      ((try simp only [Exit.inBlock, Exit.then]); refine bodyPost_ret_by (results_cell_row2 rfl _ _ w.heap.size 61 _ (0, 0) _ rfl heap_two rfl rfl (by kernel_rfl)) rfl ?_)
      exact ⟨StepSays.bad BAD.out (by omega), (((Below.refl _ _).alloc (Nat.le_refl _) _).alloc (by simp) _)⟩
    · have GOOD := Lib.hid (SW.out.trans (if_pos ⟨hn, hp⟩))
      rw [hp] at RP
      clear hp hn SW
      go_enter Tryz.func124, Tryz.ntmps124
      go_wp2_with ((go_at_call 175; ((with_reducible refine (RP.out _ (((Below.refl _ _).alloc (Nat.le_refl _) _).alloc (by simp) _)).mono ?_); rintro e w1 ⟨rfl, rfl⟩)))
      ((try simp only [Exit.inBlock, Exit.then]); refine bodyPost_ret_by (results_cell_row2 rfl _ _ w.heap.size 61 _ (0, 0) _ rfl heap_two rfl rfl (by kernel_rfl)) rfl ?_)
      exact ⟨StepSays.good GOOD.out (by omega) (by rw [len_map]) (LI.out _ (((Below.refl _ _).alloc (Nat.le_refl _) _).alloc (by simp) _)), (((Below.refl _ _).alloc (Nat.le_refl _) _).alloc (by simp) _)⟩
  · have g1 : ((l.length : Int) == 1) = false := by simp; omega
    have BAD := Lib.hid (SW.out.trans (if_neg (fun h => hn h.1)))
    clear hn SW
    go_enter Tryz.func124, Tryz.ntmps124
    go_wp2_with (fail)
    ((try simp only [Exit.inBlock, Exit.then]); refine bodyPost_ret_by (results_cell_row2 rfl _ _ w.heap.size 61 _ (0, 0) _ rfl heap_two rfl rfl (by kernel_rfl)) rfl ?_)
    exact ⟨StepSays.bad BAD.out (by omega), (((Below.refl _ _).alloc (Nat.le_refl _) _).alloc (by simp) _)⟩
theorem rstep_sort (ad : Addr) (y : ByteArray) (l : List ByteArray) (c : Nat) (w : World) (hr : Strs w (some ad) (⟨#[115, 111, 114, 116]⟩ :: y :: l)) (hl : (y :: l).length ≤ 1000000) (hs : ∀ p ∈ y :: l, p.size ≤ 1000000) (hc : (y :: l).length + 1 ≤ c) :
    Calls Tryz.prog 124 #[.slice (some ad) ((y :: l).length + 1) c] w fun e w' => StepSays w' (fun b => b = ad.block) ([115, 111, 114, 116] :: (y :: l).map tl) e ∧ Below w.heap.size w w' := by
  obtain ⟨_, h1, h2, h3⟩ := hr.at_ (k := 0) (by simp)
  injection h1 with h1
  subst h1
  have h4 : w.cell? ad = some (.string ⟨#[115, 111, 114, 116]⟩) := h3
  have ht := hr.tail
  clear h3
  have LI := Lib.hid (fun W (hW : Below w.heap.size w W) => ht.lies hW)
  have SW := Lib.hid (stepW_sort ((y :: l).map tl))
  have c1 : ¬ c = 1 := by simp at hc; omega
  have RP : Hid (∀ W, Below w.heap.size w W → Calls Tryz.prog 175 #[.slice (some ⟨ad.block, ad.off + 1, none⟩) (y :: l).length (c - 1)] W fun e w' => e = .returned (.bool (allP (y :: l))) ∧ W = w') :=
    Lib.hid fun W hW => rpaths_any _ (y :: l) (c - 1) W (ht.below hW) (by omega) (fun p hp => by have := hs p hp; omega)
  rw [len_map, allP_map] at SW
  generalize y :: l = l at *
  have e1 : (1 : Int) ≤ ((l.length + 1 : Nat) : Int) := by omega
  have e2 : ((l.length + 1 : Nat) : Int) ≤ (c : Int) := by omega
  have e3 : (0 : Int) < ((l.length + 1 : Nat) : Int) := by omega
  clear hr ht hs
  by_cases hn : l.length = 1
  · have g1 : ((l.length : Int) == 1) = true := by simp; omega
    cases hp : allP l
    · have BAD := Lib.hid (SW.out.trans (if_neg (by rw [hp]; simp)))
      rw [hp] at RP
      clear hp hn SW
      go_enter Tryz.func124, Tryz.ntmps124
      go_wp2_with ((go_at_call 175; ((with_reducible refine (RP.out _ (((Below.refl _ _).alloc (Nat.le_refl _) _).alloc (by simp) _)).mono ?_); rintro e w1 ⟨rfl, rfl⟩)))
      ((try simp only [Exit.inBlock, Exit.then]); refine bodyPost_ret_by (results_cell_row2 rfl _ _ w.heap.size 61 _ (0, 0) _ rfl heap_two rfl rfl (by kernel_rfl)) rfl ?_)
      exact ⟨StepSays.bad BAD.out (by omega), (((Below.refl _ _).alloc (Nat.le_refl _) _).alloc (by simp) _)⟩
    · have GOOD := Lib.hid (SW.out.trans (if_pos ⟨hn, hp⟩))
      rw [hp] at RP
      clear hp hn SW
      go_enter Tryz.func124, Tryz.ntmps124
      go_wp2_with ((go_at_call 175; ((with_reducible refine (RP.out _ (((Below.refl _ _).alloc (Nat.le_refl _) _).alloc (by simp) _)).mono ?_); rintro e w1 ⟨rfl, rfl⟩)))
      ((try simp only [Exit.inBlock, Exit.then]); refine bodyPost_ret_by (results_cell_row2 rfl _ _ w.heap.size 61 _ (0, 0) _ rfl heap_two rfl rfl (by kernel_rfl)) rfl ?_)
      exact ⟨StepSays.good GOOD.out (by omega) (by rw [len_map]) (LI.out _ (((Below.refl _ _).alloc (Nat.le_refl _) _).alloc (by simp) _)), (((Below.refl _ _).alloc (Nat.le_refl _) _).alloc (by simp) _)⟩
  · have g1 : ((l.length : Int) == 1) = false := by simp; omega
    have BAD := Lib.hid (SW.out.trans (if_neg (fun h => hn h.1)))
    clear hn SW
    go_enter Tryz.func124, Tryz.ntmps124
    go_wp2_with (fail)
    ((try simp only [Exit.inBlock, Exit.then]); refine bodyPost_ret_by (results_cell_row2 rfl _ _ w.heap.size 61 _ (0, 0) _ rfl heap_two rfl rfl (by kernel_rfl)) rfl ?_)
    exact ⟨StepSays.bad BAD.out (by omega), (((Below.refl _ _).alloc (Nat.le_refl _) _).alloc (by simp) _)⟩
theorem rstep_drop (ad : Addr) (y : ByteArray) (l : List ByteArray) (c : Nat) (w : World) (hr : Strs w (some ad) (⟨#[100, 114, 111, 112]⟩ :: y :: l)) (hl : (y :: l).length ≤ 1000000) (hs : ∀ p ∈ y :: l, p.size ≤ 1000000) (hc : (y :: l).length + 1 ≤ c) :
    Calls Tryz.prog 124 #[.slice (some ad) ((y :: l).length + 1) c] w fun e w' => StepSays w' (fun b => b = ad.block) ([100, 114, 111, 112] :: (y :: l).map tl) e ∧ Below w.heap.size w w' := by
  obtain ⟨_, h1, h2, h3⟩ := hr.at_ (k := 0) (by simp)
  injection h1 with h1
  subst h1
  have h4 : w.cell? ad = some (.string ⟨#[100, 114, 111, 112]⟩) := h3
  have ht := hr.tail
  clear h3
  have LI := Lib.hid (fun W (hW : Below w.heap.size w W) => ht.lies hW)
  have SW := Lib.hid (stepW_drop ((y :: l).map tl))
  have c1 : ¬ c = 1 := by simp at hc; omega
  have RP : Hid (∀ W, Below w.heap.size w W → Calls Tryz.prog 175 #[.slice (some ⟨ad.block, ad.off + 1, none⟩) (y :: l).length (c - 1)] W fun e w' => e = .returned (.bool (allP (y :: l))) ∧ W = w') :=
    Lib.hid fun W hW => rpaths_any _ (y :: l) (c - 1) W (ht.below hW) (by omega) (fun p hp => by have := hs p hp; omega)
  rw [len_map, allP_map] at SW
  generalize y :: l = l at *
  have e1 : (1 : Int) ≤ ((l.length + 1 : Nat) : Int) := by omega
  have e2 : ((l.length + 1 : Nat) : Int) ≤ (c : Int) := by omega
  have e3 : (0 : Int) < ((l.length + 1 : Nat) : Int) := by omega
  clear hr ht hs
  by_cases hn : l.length = 1
  · have g1 : ((l.length : Int) == 1) = true := by simp; omega
    cases hp : allP l
    · have BAD := Lib.hid (SW.out.trans (if_neg (by rw [hp]; simp)))
      rw [hp] at RP
      clear hp hn SW
      go_enter Tryz.func124, Tryz.ntmps124
      go_wp2_with ((go_at_call 175; ((with_reducible refine (RP.out _ (((Below.refl _ _).alloc (Nat.le_refl _) _).alloc (by simp) _)).mono ?_); rintro e w1 ⟨rfl, rfl⟩)))
      ((try simp only [Exit.inBlock, Exit.then]); refine bodyPost_ret_by (results_cell_row2 rfl _ _ w.heap.size 61 _ (0, 0) _ rfl heap_two rfl rfl (by kernel_rfl)) rfl ?_)
      exact ⟨StepSays.bad BAD.out (by omega), (((Below.refl _ _).alloc (Nat.le_refl _) _).alloc (by simp) _)⟩
    · have GOOD := Lib.hid (SW.out.trans (if_pos ⟨hn, hp⟩))
      rw [hp] at RP
      clear hp hn SW
      go_enter Tryz.func124, Tryz.ntmps124
      go_wp2_with ((go_at_call 175; ((with_reducible refine (RP.out _ (((Below.refl _ _).alloc (Nat.le_refl _) _).alloc (by simp) _)).mono ?_); rintro e w1 ⟨rfl, rfl⟩)))
      ((try simp only [Exit.inBlock, Exit.then]); refine bodyPost_ret_by (results_cell_row2 rfl _ _ w.heap.size 61 _ (0, 0) _ rfl heap_two rfl rfl (by kernel_rfl)) rfl ?_)
      exact ⟨StepSays.good GOOD.out (by omega) (by rw [len_map]) (LI.out _ (((Below.refl _ _).alloc (Nat.le_refl _) _).alloc (by simp) _)), (((Below.refl _ _).alloc (Nat.le_refl _) _).alloc (by simp) _)⟩
  · have g1 : ((l.length : Int) == 1) = false := by simp; omega
    have BAD := Lib.hid (SW.out.trans (if_neg (fun h => hn h.1)))
    clear hn SW
    go_enter Tryz.func124, Tryz.ntmps124
    go_wp2_with (fail)
    ((try simp only [Exit.inBlock, Exit.then]); refine bodyPost_ret_by (results_cell_row2 rfl _ _ w.heap.size 61 _ (0, 0) _ rfl heap_two rfl rfl (by kernel_rfl)) rfl ?_)
    exact ⟨StepSays.bad BAD.out (by omega), (((Below.refl _ _).alloc (Nat.le_refl _) _).alloc (by simp) _)⟩
theorem rstep_if (ad : Addr) (y : ByteArray) (l : List ByteArray) (c : Nat) (w : World) (hr : Strs w (some ad) (⟨#[105, 102]⟩ :: y :: l)) (hl : (y :: l).length ≤ 1000000) (hs : ∀ p ∈ y :: l, p.size ≤ 1000000) (hc : (y :: l).length + 1 ≤ c) :
    Calls Tryz.prog 124 #[.slice (some ad) ((y :: l).length + 1) c] w fun e w' => StepSays w' (fun b => b = ad.block) ([105, 102] :: (y :: l).map tl) e ∧ Below w.heap.size w w' := by
  obtain ⟨_, h1, h2, h3⟩ := hr.at_ (k := 0) (by simp)
  injection h1 with h1
  subst h1
  have h4 : w.cell? ad = some (.string ⟨#[105, 102]⟩) := h3
  have ht := hr.tail
  clear h3
  have LI := Lib.hid (fun W (hW : Below w.heap.size w W) => ht.lies hW)
  have SW := Lib.hid (stepW_if ((y :: l).map tl))
  have c1 : ¬ c = 1 := by simp at hc; omega
  have RP : Hid (∀ W, Below w.heap.size w W → Calls Tryz.prog 175 #[.slice (some ⟨ad.block, ad.off + 1, none⟩) (y :: l).length (c - 1)] W fun e w' => e = .returned (.bool (allP (y :: l))) ∧ W = w') :=
    Lib.hid fun W hW => rpaths_any _ (y :: l) (c - 1) W (ht.below hW) (by omega) (fun p hp => by have := hs p hp; omega)
  rw [len_map, allP_map] at SW
  generalize y :: l = l at *
  have e1 : (1 : Int) ≤ ((l.length + 1 : Nat) : Int) := by omega
  have e2 : ((l.length + 1 : Nat) : Int) ≤ (c : Int) := by omega
  have e3 : (0 : Int) < ((l.length + 1 : Nat) : Int) := by omega
  clear hr ht hs
  by_cases hn : l.length = 1
  · have g1 : ((l.length : Int) == 1) = true := by simp; omega
    cases hp : allP l
    · have BAD := Lib.hid (SW.out.trans (if_neg (by rw [hp]; simp)))
      rw [hp] at RP
      clear hp hn SW
      go_enter Tryz.func124, Tryz.ntmps124
      go_wp2_with ((go_at_call 175; ((with_reducible refine (RP.out _ (((Below.refl _ _).alloc (Nat.le_refl _) _).alloc (by simp) _)).mono ?_); rintro e w1 ⟨rfl, rfl⟩)))
      ((try simp only [Exit.inBlock, Exit.then]); refine bodyPost_ret_by (results_cell_row2 rfl _ _ w.heap.size 61 _ (0, 0) _ rfl heap_two rfl rfl (by kernel_rfl)) rfl ?_)
      exact ⟨StepSays.bad BAD.out (by omega), (((Below.refl _ _).alloc (Nat.le_refl _) _).alloc (by simp) _)⟩
    · have GOOD := Lib.hid (SW.out.trans (if_pos ⟨hn, hp⟩))
      rw [hp] at RP
      clear hp hn SW
      go_enter Tryz.func124, Tryz.ntmps124
      go_wp2_with ((go_at_call 175; ((with_reducible refine (RP.out _ (((Below.refl _ _).alloc (Nat.le_refl _) _).alloc (by simp) _)).mono ?_); rintro e w1 ⟨rfl, rfl⟩)))
      ((try simp only [Exit.inBlock, Exit.then]); refine bodyPost_ret_by (results_cell_row2 rfl _ _ w.heap.size 61 _ (0, 0) _ rfl heap_two rfl rfl (by kernel_rfl)) rfl ?_)
      exact ⟨StepSays.good GOOD.out (by omega) (by rw [len_map]) (LI.out _ (((Below.refl _ _).alloc (Nat.le_refl _) _).alloc (by simp) _)), (((Below.refl _ _).alloc (Nat.le_refl _) _).alloc (by simp) _)⟩
  · have g1 : ((l.length : Int) == 1) = false := by simp; omega
    have BAD := Lib.hid (SW.out.trans (if_neg (fun h => hn h.1)))
    clear hn SW
    go_enter Tryz.func124, Tryz.ntmps124
    go_wp2_with (fail)
    ((try simp only [Exit.inBlock, Exit.then]); refine bodyPost_ret_by (results_cell_row2 rfl _ _ w.heap.size 61 _ (0, 0) _ rfl heap_two rfl rfl (by kernel_rfl)) rfl ?_)
    exact ⟨StepSays.bad BAD.out (by omega), (((Below.refl _ _).alloc (Nat.le_refl _) _).alloc (by simp) _)⟩
end Go.Proofs.YtdidnlkilleljaaGreatDoor.Lg
