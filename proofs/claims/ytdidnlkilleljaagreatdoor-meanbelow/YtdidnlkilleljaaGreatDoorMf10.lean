/- Joined by mkmerged.py: LgParse, LgRpB. -/
import Derived.Test.YtdidnlkilleljaaGreatDoorMf09
import Derived.Test.YtdidnlkilleljaaGreatDoorMf05
/- LgParse, what a claim needs of it (prune.py). -/
namespace Go.Proofs.YtdidnlkilleljaaGreatDoor.Lg
open Go.RowKit
set_option linter.unusedVariables false
set_option maxRecDepth 100000
def ParseSays (w' : World) (ok : Nat → Prop) (cmd : B) (e : Ending) : Prop :=
  ∃ A k c, e = .returned (.tuple #[.slice A k c, .int .i64 (parse cmd).2]) ∧ k ≤ c ∧ StepsAt w' ok A k (parse cmd).1
theorem ParseSays.none_ {w' : World} {ok : Nat → Prop} {cmd : B} {k : Nat} (h : parse cmd = ([], k)) : ParseSays w' ok cmd (.returned (.tuple #[.slice none 0 0, .int .i64 k])) :=
  ⟨none, 0, 0, by rw [h], Nat.le_refl _, by rw [h]; exact ⟨rfl, [], Lies.none_, .nil⟩⟩
theorem suffix_last (l : List UInt8) : Lib.hasSuffix l [10] = decide (l.getLast? = some 10) := by
  rcases List.eq_nil_or_concat l with rfl | ⟨l', x, rfl⟩
  · rfl
  · have : ∀ x : UInt8, ([10] : List UInt8).isSuffixOf (l' ++ [x]) = decide (x = 10) := by
      intro x
      rw [List.isSuffixOf, List.reverse_append]
      simp [List.isPrefixOf]
      exact Bool.eq_iff_iff.2 (by simp; exact ⟨fun h => h.symm, fun h => h.symm⟩)
    rw [Lib.hasSuffix, List.concat_eq_append, this]
    simp
theorem trim_last {l : List UInt8} (h : l.getLast? = some 10) : Lib.trimSuffix l [10] = l.dropLast := by
  rw [Lib.trimSuffix, suffix_last, if_pos (by simpa using h), List.dropLast_eq_take]
  rfl
theorem trim_not {l : List UInt8} (h : l.getLast? ≠ some 10) : Lib.trimSuffix l [10] = l := by
  rw [Lib.trimSuffix, suffix_last, if_neg (by simpa using h)]
def parseW (w1 : World) (g n : Nat) : World :=
  (((w1.alloc (.cells #[.slice (some ⟨g, 0, none⟩) n n] 24)).alloc (.cells #[.int .i64 0] 3)).alloc (.cells #[.func (.func 85) #[] #[.pointer (some ⟨w1.heap.size + 1, 0, none⟩), .pointer (some ⟨w1.heap.size, 0, none⟩), .pointer (some ⟨w1.heap.size + 1 + 1, 0, none⟩)]] 130))
theorem parse_block {w w1 : World} {g : Nat} {L : List ByteArray} (hE : Env w) (hs : Strs w1 (some ⟨g, 0, none⟩) L) (hb : Below w.heap.size w w1) (hL : L.length ≤ 64) (hp : ∀ p ∈ L, p.size ≤ 1000000) :
    Calls Tryz.prog 85 #[.int .i64 0, .pointer (some ⟨w1.heap.size + 1, 0, none⟩), .pointer (some ⟨w1.heap.size, 0, none⟩), .pointer (some ⟨w1.heap.size + 1 + 1, 0, none⟩)] (parseW w1 g L.length) fun e w' => BlockSays (parseW w1 g L.length) w' (w1.heap.size + 1) (L.map tl) (bk 0 [] (L.map tl)) e := by
  have e0 : (parseW w1 g L.length).heap[w1.heap.size]? = some (.cells #[.slice (some ⟨g, 0, none⟩) L.length L.length] 24 (0, 0)) := by
    rw [parseW, Below.heap_alloc _ _ _ (by simp; omega), Below.heap_alloc _ _ _ (by simp), heap_new]
  have e1 : (parseW w1 g L.length).heap[w1.heap.size + 1]? = some (.cells #[.int .i64 0] 3 (0, 0)) := by
    rw [parseW, Below.heap_alloc _ _ _ (by simp)]
    have := heap_new (w1.alloc (.cells #[.slice (some ⟨g, 0, none⟩) L.length L.length] 24)) (.cells #[.int .i64 0] 3)
    simpa using this
  have e2 : (parseW w1 g L.length).cell? ⟨w1.heap.size + 1 + 1, 0, none⟩ = some (.func (.func 85) #[] #[.pointer (some ⟨w1.heap.size + 1, 0, none⟩), .pointer (some ⟨w1.heap.size, 0, none⟩), .pointer (some ⟨w1.heap.size + 1 + 1, 0, none⟩)]) := by
    refine cell_of_one ?_ (t := 130)
    have := heap_new ((w1.alloc (.cells #[.slice (some ⟨g, 0, none⟩) L.length L.length] 24)).alloc (.cells #[.int .i64 0] 3)) (.cells #[.func (.func 85) #[] #[.pointer (some ⟨w1.heap.size + 1, 0, none⟩), .pointer (some ⟨w1.heap.size, 0, none⟩), .pointer (some ⟨w1.heap.size + 1 + 1, 0, none⟩)]] 130)
    rw [parseW]
    simpa using this
  have hb2 : Below w1.heap.size w1 (parseW w1 g L.length) := (((Below.refl _ _).alloc (Nat.le_refl _) _).alloc (by simp) _).alloc (by simp; omega) _
  have h := block_any L (w1.heap.size + 1) w1.heap.size (w1.heap.size + 1 + 1) (some ⟨g, 0, none⟩) L.length w hE (by have := hb.size; omega) hL hp L.length 0 0 (parseW w1 g L.length) (by omega) (by omega) (by omega) (hb.trans (hb2.mono hb.size))
    ⟨by omega, by omega, cell_of_one e0, e2, fun j hj => by
      obtain ⟨ad, h1, h2, h3⟩ := hs.at_ hj
      injection h1 with h1
      subst h1
      exact ⟨_, rfl, by show g ≠ _; have : g < w1.heap.size := h2; omega, (hb2.cell (by rw [block_of_add]; exact h2)).trans h3⟩⟩ e1
  rw [List.drop_zero] at h
  exact h
theorem cut_any (s : ByteArray) (w : World) (hs : s.size ≤ 1000000) :
    Calls Tryz.prog 83 #[.string s, .string ⟨#[10]⟩] w fun e w' => e = .returned (.tuple #[.string (bs (Lib.trimSuffix (tl s) [10])), .bool (decide ((tl s).getLast? = some 10))]) ∧ w = w' := by
  refine (Tryz.strings_CutSuffix s ⟨#[10]⟩ w (by omega)).mono ?_
  rintro e w' ⟨h1, h2⟩
  refine ⟨?_, h2.symm⟩
  rw [h1, ← suffix_last]
  rfl
theorem splitS_any (s : ByteArray) (w : World) (hs : s.size ≤ 1000000) (hE : Env w) :
    Calls Tryz.prog 84 #[.string s, .string ⟨#[10]⟩] w fun e w' => e = .returned (.slice (some ⟨w.heap.size, 0, none⟩) (pieces 10 s).length (pieces 10 s).length) ∧ Strs w' (some ⟨w.heap.size, 0, none⟩) (pieces 10 s) ∧ Below w.heap.size w w' := by
  obtain ⟨⟨m, hm⟩, _⟩ := hE
  refine (split_any s 10 m w (by omega) hm).mono ?_
  rintro e w' ⟨h1, rfl⟩
  exact ⟨h1, Strs.new w _ _, (Below.refl _ _).alloc (Nat.le_refl _) _⟩
set_option maxHeartbeats 1000000 in
theorem parse_any (cmd : ByteArray) (w : World) (hE : Env w) (hs : cmd.size ≤ 1000000) :
    Calls Tryz.prog 44 #[.string cmd] w fun e w' => ParseSays w' (fun b => w.heap.size ≤ b) (tl cmd) e ∧ Below w.heap.size w w' := by
  by_cases hbig : 8192 < cmd.size
  · have hI : (8192 : Int) < (cmd.size : Int) := by omega
    have R : Hid (parse (tl cmd) = ([], 15)) := Lib.hid (by rw [parse, if_pos (by rw [tl_len]; exact hbig)])
    clear hbig
    go_enter Tryz.func44, Tryz.ntmps44
    go_wp2_with (fail)
    go_ret2
    exact ⟨ParseSays.none_ R.out, Below.refl _ _⟩
  · have hI : ¬ (8192 : Int) < (cmd.size : Int) := by omega
    by_cases h0 : cmd.size = 0
    · obtain rfl := empty_of h0
      have R : Hid (parse (tl ⟨#[]⟩) = ([], 0)) := Lib.hid rfl
      clear hbig h0
      go_enter Tryz.func44, Tryz.ntmps44
      go_wp2_with (fail)
      go_ret2
      exact ⟨ParseSays.none_ R.out, Below.refl _ _⟩
    · have hne := some_ne h0
      have hne2 : ¬ tl cmd = [] := fun e => h0 (by rw [← tl_len, e]; rfl)
      have hne3 : ¬ cmd.toList = [] := by rw [Lib.toList_data]; exact hne2
      have hnb : ¬ 8192 < (tl cmd).length := by rw [tl_len]; exact hbig
      have CT := cut_any cmd w hs
      by_cases hl : (tl cmd).getLast? = some 10
      · rw [trim_last hl, decide_eq_true hl] at CT
        have hbs : (bs (tl cmd).dropLast).size ≤ 1000000 := by rw [← tl_len, tl_bs, List.length_dropLast, tl_len]; omega
        have SP := splitS_any (bs (tl cmd).dropLast) w hbs hE
        have hp : pieces 10 (bs (tl cmd).dropLast) = (splitB 10 (tl cmd).dropLast).map bs := rfl
        have hpm : (pieces 10 (bs (tl cmd).dropLast)).map tl = splitB 10 (tl cmd).dropLast := by rw [hp, map_tl_bs]
        have hpp := fun p h => Nat.le_trans (pieces_part 10 (bs (tl cmd).dropLast) p h) hbs
        have hpl : (pieces 10 (bs (tl cmd).dropLast)).length = (splitB 10 (tl cmd).dropLast).length := by rw [hp, List.length_map]
        by_cases h64 : 64 < (splitB 10 (tl cmd).dropLast).length
        · have R : Hid (parse (tl cmd) = ([], 15)) := Lib.hid (by rw [parse, if_neg hnb, if_neg hne2, if_neg (by simpa using hl), if_pos h64])
          rw [hpl] at SP
          have h64I : (64 : Int) < ((splitB 10 (tl cmd).dropLast).length : Int) := by omega
          have CT := Lib.hid CT
          have SP := Lib.hid SP
          generalize (splitB 10 (tl cmd).dropLast).length = N at *
          generalize (tl cmd).dropLast = body at *
          clear hpp hpm hpl hp hl hnb hne2 h0 hbig h64
          go_enter Tryz.func44, Tryz.ntmps44
          go_wp2_with (first | (go_at_call 83; (with_reducible refine (CT.out).mono ?_); rintro e w1 ⟨rfl, rfl⟩) | (go_at_call 84; (with_reducible refine (SP.out).mono ?_); rintro e w1 ⟨rfl, hs1, hb1⟩))
          go_ret2
          exact ⟨ParseSays.none_ R.out, hb1.alloc hb1.size _⟩
        · have h64I : ¬ (64 : Int) < ((splitB 10 (tl cmd).dropLast).length : Int) := by omega
          have R : Hid (parse (tl cmd) = match bk 0 [] (splitB 10 (tl cmd).dropLast) with | .ok out _ => (out, 0) | .err e => ([], e)) := Lib.hid (by
            rw [parse, if_neg hnb, if_neg hne2, if_neg (by simpa using hl), if_neg h64]
            cases bk 0 [] (splitB 10 (tl cmd).dropLast) <;> rfl)
          have PB : Hid (∀ w1, Strs w1 (some ⟨w.heap.size, 0, none⟩) (pieces 10 (bs (tl cmd).dropLast)) → Below w.heap.size w w1 → Calls Tryz.prog 85 #[.int .i64 0, .pointer (some ⟨w1.heap.size + 1, 0, none⟩), .pointer (some ⟨w1.heap.size, 0, none⟩), .pointer (some ⟨w1.heap.size + 1 + 1, 0, none⟩)] (parseW w1 w.heap.size (splitB 10 (tl cmd).dropLast).length) fun e w' => BlockSays (parseW w1 w.heap.size (splitB 10 (tl cmd).dropLast).length) w' (w1.heap.size + 1) (splitB 10 (tl cmd).dropLast) (bk 0 [] (splitB 10 (tl cmd).dropLast)) e) := Lib.hid fun w1 h1 h2 => by
            have := parse_block hE h1 h2 (by rw [hpl]; omega) hpp
            rwa [hpl, hpm] at this
          rw [hpl] at SP
          have CT := Lib.hid CT
          have SP := Lib.hid SP
          generalize pieces 10 (bs (tl cmd).dropLast) = L at *
          generalize splitB 10 (tl cmd).dropLast = Ls at *
          generalize (tl cmd).dropLast = body at *
          generalize Ls.length = N at *
          clear hpp hpm hpl hp hl hnb hne2 h0 hbig h64
          have hmf : ∀ (fn : Fn) (first cap : Array Value) (w : World), (Instr.makeFunc fn first cap).run Tryz.prog w = .ok (.func fn first cap) w := fun _ _ _ _ => rfl
          have hsf := fun (fn : Fn) (first cap : Array Value) (a : Addr) (w : World) => run_store Tryz.prog w a (.func fn first cap) .plain rfl
          have hsz : ∀ w1, Below w.heap.size w w1 → w.heap.size ≤ (parseW w1 w.heap.size N).heap.size ∧ Below w.heap.size w (parseW w1 w.heap.size N) := fun w1 h => by
            have h2 := ((h.alloc h.size (.cells #[.slice (some ⟨w.heap.size, 0, none⟩) N N] 24)).alloc (by have := h.size; simp; omega) (.cells #[.int .i64 0] 3)).alloc (by have := h.size; simp; omega) (.cells #[.func (.func 85) #[] #[.pointer (some ⟨w1.heap.size + 1, 0, none⟩), .pointer (some ⟨w1.heap.size, 0, none⟩), .pointer (some ⟨w1.heap.size + 1 + 1, 0, none⟩)]] 130)
            exact ⟨h2.size, h2⟩
          have HSZ := Lib.hid hsz
          clear hsz
          cases hbk : bk 0 [] Ls with
          | err ek =>
            have PB : Hid (∀ w1, Strs w1 (some ⟨w.heap.size, 0, none⟩) L → Below w.heap.size w w1 → Calls Tryz.prog 85 #[.int .i64 0, .pointer (some ⟨w1.heap.size + 1, 0, none⟩), .pointer (some ⟨w1.heap.size, 0, none⟩), .pointer (some ⟨w1.heap.size + 1 + 1, 0, none⟩)] (parseW w1 w.heap.size N) fun e w' => e = .returned (.tuple #[.slice none 0 0, .int .i64 ek]) ∧ Below w.heap.size w w') := Lib.hid fun w1 h1 h2 => (PB.out w1 h1 h2).mono (by
              rintro e w' ⟨g1, g2⟩
              rw [hbk] at g2
              exact ⟨g2, (HSZ.out w1 h2).2.trans (g1.below (HSZ.out w1 h2).1 (by have := h2.size; omega))⟩)
            have R2 : Hid (parse (tl cmd) = ([], ek)) := Lib.hid (by rw [R.out, hbk])
            clear R hbk
            go_enter Tryz.func44, Tryz.ntmps44
            go_wp2_with (first | (go_at_call 83; (with_reducible refine (CT.out).mono ?_); rintro e w1 ⟨rfl, rfl⟩) | (go_at_call 84; (with_reducible refine (SP.out).mono ?_); rintro e w1 ⟨rfl, hs1, hb1⟩; have PB1 := PB.out w1 hs1 hb1; unfold parseW at PB1; have PB2 := Lib.hid PB1; clear PB1) | (go_at_call 85; (with_reducible refine (PB2.out).mono ?_); rintro e w2 ⟨rfl, hb2⟩))
            go_ret2
            exact ⟨ParseSays.none_ R2.out, hb2⟩
          | ok out rest =>
            have PB : Hid (∀ w1, Strs w1 (some ⟨w.heap.size, 0, none⟩) L → Below w.heap.size w w1 → Calls Tryz.prog 85 #[.int .i64 0, .pointer (some ⟨w1.heap.size + 1, 0, none⟩), .pointer (some ⟨w1.heap.size, 0, none⟩), .pointer (some ⟨w1.heap.size + 1 + 1, 0, none⟩)] (parseW w1 w.heap.size N) fun e w' => (∃ A k c, e = .returned (.tuple #[.slice A k c, .int .i64 0]) ∧ k ≤ c ∧ StepsAt w' (fun b => w.heap.size ≤ b) A k out) ∧ Below w.heap.size w w') := Lib.hid fun w1 h1 h2 => (PB.out w1 h1 h2).mono (by
              rintro e w' ⟨g1, g2⟩
              rw [hbk] at g2
              obtain ⟨A, k, c, j, g3, g4, g5, _⟩ := g2
              exact ⟨⟨A, k, c, g3, g4, g5.mono fun b hb _ => ⟨Nat.le_trans (HSZ.out w1 h2).1 hb, rfl⟩⟩, (HSZ.out w1 h2).2.trans (g1.below (HSZ.out w1 h2).1 (by have := h2.size; omega))⟩)
            have R2 : Hid (parse (tl cmd) = (out, 0)) := Lib.hid (by rw [R.out, hbk])
            clear R hbk
            go_enter Tryz.func44, Tryz.ntmps44
            go_wp2_with (first | (go_at_call 83; (with_reducible refine (CT.out).mono ?_); rintro e w1 ⟨rfl, rfl⟩) | (go_at_call 84; (with_reducible refine (SP.out).mono ?_); rintro e w1 ⟨rfl, hs1, hb1⟩; have PB1 := PB.out w1 hs1 hb1; unfold parseW at PB1; have PB2 := Lib.hid PB1; clear PB1) | (go_at_call 85; (with_reducible refine (PB2.out).mono ?_); rintro e w2 ⟨⟨A, k, c, rfl, hkc, hst⟩, hb2⟩))
            go_ret2
            exact ⟨⟨A, k, c, by rw [R2.out]; rfl, hkc, by rw [R2.out]; exact hst⟩, hb2⟩
      · rw [trim_not hl, decide_eq_false hl, bs_tl] at CT
        have SP := splitS_any cmd w hs hE
        have R : Hid (parse (tl cmd) = ([], 20)) := Lib.hid (by rw [parse, if_neg hnb, if_neg hne2, if_pos hl])
        have CT := Lib.hid CT
        have SP := Lib.hid SP
        clear hl hnb hne2 h0 hbig
        go_enter Tryz.func44, Tryz.ntmps44
        go_wp2_with (first | (go_at_call 83; (with_reducible refine (CT.out).mono ?_); rintro e w1 ⟨rfl, rfl⟩) | (go_at_call 84; (with_reducible refine (SP.out).mono ?_); rintro e w1 ⟨rfl, hs1, hb1⟩))
        go_ret2
        exact ⟨ParseSays.none_ R.out, hb1.alloc hb1.size _⟩
end Go.Proofs.YtdidnlkilleljaaGreatDoor.Lg
/- LgRpB, what a claim needs of it (prune.py). -/
namespace Go.Proofs.YtdidnlkilleljaaGreatDoor.Lg
open Go.RowKit
set_option linter.unusedVariables false
set_option maxRecDepth 100000
def Rp (B0 : Nat) (wr : World) (kv hv : Value) (fs : List Frame) (cur : List Stp) : Prop :=
  ∃ (b : Nat) (hc vs : List Value) (v : Value), wr.ownsRow B0 22 1 kv (fs.length + 1) (vs ++ [v]) ∧ wr.ownsRow B0 61 4 hv fs.length hc ∧ Fr wr (own2 hv kv) B0 b fs hc vs ∧ Slot wr b wr.heap.size (own2 hv kv) v cur ∧ B0 ≤ b ∧ b ≤ wr.heap.size
theorem Rp.start (w1 : World) : Rp w1.heap.size (w1.alloc (.cells #[.slice none 0 0] 22)) (.slice (some ⟨w1.heap.size, 0, none⟩) 1 1) (.slice none 0 0) [] [] := by
  refine ⟨w1.heap.size, [], [], .slice none 0 0, ⟨rfl, .inr ⟨w1.heap.size, 1, _, rfl, Nat.le_refl _, heap_new w1 _, Nat.le_refl _, by simp [maxLen], rfl, rfl⟩⟩, World.ownsRow_nil _ _ _ _, Fr.nil (Nat.le_refl _), Slot.none_ _ _ _ _, Nat.le_refl _, by simp⟩
theorem own_ne {w : World} {B1 B2 n1 n2 s1 s2 : Nat} {e1 e2 : TypeId} {v1 v2 : Value} {x1 x2 : List Value} (h1 : w.ownsRow B1 e1 s1 v1 n1 x1) (h2 : w.ownsRow B2 e2 s2 v2 n2 x2) (he : e1 ≠ e2) {g : Nat} (hg : v1.ownBlock = some g) : v2.ownBlock ≠ some g := by
  intro hg2
  rcases h1.2 with ⟨rfl, _⟩ | ⟨g1, c1, u1, rfl, _, hh1, _⟩
  · cases hg
  · rcases h2.2 with ⟨rfl, _⟩ | ⟨g2, c2, u2, rfl, _, hh2, _⟩
    · cases hg2
    · injection hg with hg
      injection hg2 with hg2
      simp only at hg hg2
      subst hg
      subst hg2
      rw [hh1] at hh2
      injection hh2 with hh2
      injection hh2 with _ ht
      exact he ht
theorem own_keepB {w w' : World} {B : Nat} {e : TypeId} {size n : Nat} {v : Value} {xs : List Value} (h : w.ownsRow B e size v n xs) (hk : ∀ g, v.ownBlock = some g → w'.heap[g]? = w.heap[g]?) : w'.ownsRow B e size v n xs := by
  refine ⟨h.1, ?_⟩
  rcases h.2 with h2 | ⟨g, cap, cur, rfl, hB, hg, h1, h2, h3, h4⟩
  · exact .inl h2
  · exact .inr ⟨g, cap, cur, rfl, hB, (hk g rfl).trans hg, h1, h2, h3, h4⟩
theorem Rp.add {B0 b n d gk ck ge ce : Nat} {wr W3 w4 wx : World} {hv v : Value} {Z : Obj} {fs : List Frame} {cur : List Stp} {hc vs cells : List Value} {op m : Int} {A Bk : Option Addr} {k c kb cb : Nat} {args : List Lg.B} {inn : List Stp}
    (hbW : Below wr.heap.size wr W3) (hg4 : (W3.alloc Z).grownBy w4 v.ownBlock) (hat4 : (Value.slice (some ⟨ge, 0, none⟩) (n + 1) ce).ownBlock = v.ownBlock ∨ (Value.slice (some ⟨ge, 0, none⟩) (n + 1) ce).ownBlock = some (W3.alloc Z).heap.size)
    (hn : n = cur.length) (hd : d = fs.length)
    (ox : wx.ownsRow b 61 4 (.slice (some ⟨ge, 0, none⟩) (n + 1) ce) (n + 1) (cells ++ [.int .i64 op, .slice A k c, .int .i64 m, .slice Bk kb cb]))
    (kx : wx.ownsRow B0 22 1 (.slice (some ⟨gk, 0, none⟩) (d + 1) ck) (d + 1) (vs ++ [.slice (some ⟨ge, 0, none⟩) (n + 1) ce]))
    (hsm : ∀ x, x ≠ ge → x ≠ gk → wx.heap[x]? = w4.heap[x]?) (hsz : wx.heap.size = w4.heap.size)
    (oh : wr.ownsRow B0 61 4 hv d hc) (ok : wr.ownsRow B0 22 1 (.slice (some ⟨gk, 0, none⟩) (d + 1) ck) (d + 1) (vs ++ [v]))
    (hf : Fr wr (own2 hv (.slice (some ⟨gk, 0, none⟩) (d + 1) ck)) B0 b fs hc vs) (ov : wr.ownsRow b 61 4 v n cells)
    (rc : RowAt wr (okS b wr.heap.size (own2 hv (.slice (some ⟨gk, 0, none⟩) (d + 1) ck)) v) cells cur) (xc : ∀ g, v.ownBlock = some g → g < wr.heap.size ∧ ¬ own2 hv (.slice (some ⟨gk, 0, none⟩) (d + 1) ck) g)
    (hB0 : B0 ≤ b) (hbs : b ≤ wr.heap.size) (hk : k = args.length) (hc' : k ≤ c)
    (hl : Lies W3 (okS b W3.heap.size (own2 hv (.slice (some ⟨gk, 0, none⟩) (d + 1) ck)) v) 1 A k (strV args)) (hkb : kb ≤ cb) (hin : StepsAt W3 (okS b W3.heap.size (own2 hv (.slice (some ⟨gk, 0, none⟩) (d + 1) ck)) v) Bk kb inn) :
    Rp B0 wx (.slice (some ⟨gk, 0, none⟩) (d + 1) ck) hv fs (cur ++ [⟨op, args, m, inn⟩]) := by
  subst hn
  subst hd
  have h3 := hbW.size
  have h4 := hg4.size
  have h4' : W3.heap.size + 1 ≤ w4.heap.size := by simpa using h4
  have hXo : ∀ x, own2 hv (.slice (some ⟨gk, 0, none⟩) (fs.length + 1) ck) x → x < wr.heap.size := fun x hx => by
    rcases hx with hx | hx
    · exact (own_block oh hx.symm).2
    · exact (own_block ok hx.symm).2
  have hge : (v.ownBlock = some ge ∨ W3.heap.size < ge) ∧ ¬ own2 hv (.slice (some ⟨gk, 0, none⟩) (fs.length + 1) ck) ge := by
    rcases hat4 with e | e
    · have e : v.ownBlock = some ge := e.symm
      exact ⟨.inl e, (xc ge e).2⟩
    · have e : ge = (W3.alloc Z).heap.size := Option.some.inj e
      have e2 : ge = W3.heap.size + 1 := by simpa using e
      exact ⟨.inr (by omega), fun h => by have := hXo _ h; omega⟩
  have old : ∀ x, x < W3.heap.size → some x ≠ v.ownBlock → x ≠ gk → wx.heap[x]? = W3.heap[x]? := fun x hx hv' hk' => by
    have hxe : x ≠ ge := fun e => by
      rcases hge.1 with h | h
      · exact hv' (by rw [h, e])
      · omega
    exact (hsm x hxe hk').trans ((hg4.block x (by simp; omega) hv').trans (Below.heap_alloc _ _ _ hx))
  have key : ∀ x, x < wr.heap.size → some x ≠ v.ownBlock → ¬ own2 hv (.slice (some ⟨gk, 0, none⟩) (fs.length + 1) ck) x → wx.heap[x]? = wr.heap[x]? := fun x hx hv' hn => (old x (by omega) hv' (fun e => hn (.inr (by rw [e]; rfl)))).trans (hbW.block x hx)
  refine ⟨b, hc, vs, _, kx, own_keepB oh fun g hg => ?_, hf.keep fun x hx _ hn => ⟨hn, key x (by omega) (fun e => by have := (own_block ov e.symm).1; omega) hn⟩, ?_, hB0, by omega⟩
  · have hlt := (own_block oh hg).2
    exact (old g (by omega) (fun e => (xc g e.symm).2 (.inl hg.symm)) (fun e => own_ne oh ok (by decide) hg (by rw [e]; rfl))).trans (hbW.block g hlt)
  · refine slot_push (w := W3) (v := v) (rc.mono fun x hx hlt => ⟨hx, hbW.block x hlt⟩) h3 (by omega) ox (fun x hbx hx hv' hn => ⟨hn, old x hx hv' (fun e => hn (.inr (by rw [e]; rfl)))⟩) (fun g hg => ?_) hk hc' hl hkb hin
    have hg : ge = g := Option.some.inj hg
    subst hg
    exact ⟨hge.1.imp id (by omega), hge.2⟩
theorem own_some {w : World} {B n size : Nat} {e : TypeId} {v : Value} {xs : List Value} (h : w.ownsRow B e size v n xs) (hn : 0 < n) : ∃ g c, v = .slice (some ⟨g, 0, none⟩) n c ∧ n ≤ c ∧ B ≤ g := by
  rcases h.2 with ⟨_, rfl⟩ | ⟨g, cap, cur, rfl, hB, _, h1, _⟩
  · omega
  · exact ⟨_, _, rfl, h1, hB⟩
def Res.is : Res → List Stp → Int → Prop
  | .ok out _, m, q => m = out ∧ q = 0
  | .err k, m, q => m = [] ∧ q = (k : Int)
def RpSays (w w' : World) (r : Res) (e : Ending) : Prop :=
  (∃ A k c m q, e = .returned (.tuple #[.slice A k c, .int .i64 q]) ∧ r.is m q ∧ k ≤ c ∧ StepsAt w' (fun _ => True) A k m) ∧ Below w.heap.size w w'
theorem RpSays.err {w w' : World} {r : Res} {k : Nat} (h : r = .err k) (hb : Below w.heap.size w w') : RpSays w w' r (.returned (.tuple #[.slice none 0 0, .int .i64 k])) :=
  ⟨⟨none, 0, 0, [], k, rfl, by rw [h]; exact ⟨rfl, rfl⟩, Nat.le_refl _, rfl, [], Lies.none_, .nil⟩, hb⟩
end Go.Proofs.YtdidnlkilleljaaGreatDoor.Lg
