/- The walk of the law of two commands. -/
import Derived.Test.YtimfljncibbdoaaDoorLgAwake
namespace Go.Proofs.YtimfljncibbdoaaDoor.Lg
open Go.RowKit
set_option linter.unusedVariables false
set_option maxRecDepth 100000
theorem tl_app (a b : ByteArray) : tl (a ++ b) = tl a ++ tl b := by simp [tl]
theorem own_lies {w : World} {B : Nat} {v : Value} {n : Nat} {cells : List Value} (h : w.ownsRow B 37 4 v n cells) : ∃ A c, v = .slice A n c ∧ Lies w (fun _ => True) 4 A n cells := by
  have h1 := h.1
  rcases h.2 with ⟨rfl, rfl⟩ | ⟨g, cap, cur, rfl, hB, hg, _⟩
  · have : cells = [] := List.eq_nil_of_length_eq_zero (by simpa using h1)
    subst this
    exact ⟨none, 0, rfl, Lies.none_⟩
  · exact ⟨_, _, rfl, h1, fun _ => ⟨_, rfl, trivial, fun j u hu => h.cells (g := g) rfl j u hu⟩⟩
theorem parse_len {cmd : ByteArray} {m : List Stp} {k : Nat} (h : parse (tl cmd) = (m, k)) : m.length ≤ cmd.size ∧ weight m ≤ cmd.size ∧ wide m ≤ cmd.size := by
  have h1 := parse_size h
  have h2 := len_weight m
  rw [tl_len] at h1
  omega
set_option maxHeartbeats 1000000 in
theorem lines_walk (a b : ByteArray) (w : World) (hE : Env w) : Calls Tryd.prog 4 #[.string a, .string b] w fun e w' => e = .returned (.bool true) ∧ Below w.heap.size w w' := by
  have AW := Lib.hid awake_any
  have EV := Lib.hid (fun W (h : Below w.heap.size w W) => hE.below h)
  clear hE
  by_cases ha : 4000 < a.size
  · have haI : (4000 : Int) < (a.size : Int) := by omega
    go_enter Tryd.func4, Tryd.ntmps4
    go_wp2_with (go_at_call 7; (with_reducible refine (AW.out _ (EV.out _ (Below.refl _ _))).mono ?_); rintro e w1 ⟨rfl, b1⟩)
    go_ret
    exact ⟨rfl, b1⟩
  have haI : ¬ (4000 : Int) < (a.size : Int) := by omega
  by_cases hb : 4000 < b.size
  · have hbI : (4000 : Int) < (b.size : Int) := by omega
    go_enter Tryd.func4, Tryd.ntmps4
    go_wp2_with (go_at_call 7; (with_reducible refine (AW.out _ (EV.out _ (Below.refl _ _))).mono ?_); rintro e w1 ⟨rfl, b1⟩)
    go_ret
    exact ⟨rfl, b1⟩
  have hbI : ¬ (4000 : Int) < (b.size : Int) := by omega
  have hsz : (a ++ b).size = a.size + b.size := by simp
  rcases pa : parse (tl a) with ⟨x, ea⟩
  rcases pb : parse (tl b) with ⟨y, eb⟩
  rcases pc : parse (tl (a ++ b)) with ⟨z, ec⟩
  have PA := Lib.hid (parse_of pa (by omega))
  have PB := Lib.hid (parse_of pb (by omega))
  have PC := Lib.hid (parse_of pc (by omega))
  have TW : Hid (ea = 0 → eb = 0 → (z = x ++ y ∧ ec = 0) ∨ (z = [] ∧ ec = 15)) := Lib.hid (by
    rintro rfl rfl
    rw [tl_app] at pc
    rcases parse_two pa pb with h | h
    · rw [h] at pc; cases pc; exact .inl ⟨rfl, rfl⟩
    · rw [h] at pc; cases pc; exact .inr ⟨rfl, rfl⟩)
  have LA := Lib.hid (parse_len pa)
  have LB := Lib.hid (parse_len pb)
  have LC := Lib.hid (parse_len pc)
  have hab : a.size + b.size ≤ 9223372036854775807 := by omega
  have HS : Hid (a.size ≤ 4000 ∧ b.size ≤ 4000 ∧ (a ++ b).size ≤ 8000) := Lib.hid (by omega)
  clear pa pb pc ha hb hsz
  by_cases h1 : ea = 0
  · subst h1
    by_cases h2 : eb = 0
    · subst h2
      rcases TW.out rfl rfl with ⟨rfl, rfl⟩ | ⟨rfl, rfl⟩
      · obtain ⟨i0, hi, hz0, hz1, hz2⟩ := info_parts infoT
        go_enter Tryd.func4, Tryd.ntmps4
        go_wp2_with (fail)
        refine (PA.out w (EV.out _ (Below.refl _ _))).mono ?_
        rintro e w1 ⟨⟨A1, n1, c1, rfl, _, s1⟩, b1⟩
        go_wp2_with (fail)
        refine (PB.out w1 (EV.out _ b1)).mono ?_
        rintro e w2 ⟨⟨A2, n2, c2, rfl, _, s2⟩, b2⟩
        have b02 := b1.trans (b2.mono b1.size)
        go_wp2_with (fail)
        refine (PC.out w2 (EV.out _ b02)).mono ?_
        rintro e w3 ⟨⟨A3, n3, c3, rfl, _, s3⟩, b3⟩
        have b03 := b02.trans (b3.mono b02.size)
        obtain ⟨e1, cx, lx, rx⟩ := s1.below (b2.trans (b3.mono b2.size))
        obtain ⟨e2, cy, ly, ry⟩ := s2.below b3
        have hxl : x.length ≤ 4000 := by have := LA.out.1; have := HS.out; omega
        have hyl : y.length ≤ 4000 := by have := LB.out.1; have := HS.out; omega
        have rdx := lx.reads (by omega)
        have rdy := ly.reads (by omega)
        have S3 := Lib.hid s3
        have RX := Lib.hid rx
        have RY := Lib.hid ry
        have E1 := Lib.hid e1
        have E2 := Lib.hid e2
        have hn1 : n1 ≤ 4000 := by omega
        have hn2 : n2 ≤ 4000 := by omega
        have O0 := World.ownsRow_nil w3 w3.heap.size 37 4
        have o1 : ∀ u ∈ cx, u.oneCell' = true := rx.one
        have o2 : ∀ u ∈ cy, u.oneCell' = true := ry.one
        have O1 := Lib.hid o1
        have O2 := Lib.hid o2
        clear s1 s2 s3 rx ry lx ly e1 e2 o1 o2 TW LA LB
        go_wp2_with (first
          | (at_builtin; refine wpList_append_any _ rfl (.tmp 52) (.tmp 53) _ rfl w3.heap.size 37 i0 _ 4 64 Tryd.underlying23 hi hz0 hz1 hz2 rfl (by omega) (.slice none 0 0) 0 [] rfl O0 _ A1 n1 c1 cx rfl rdx O1.out (by simp only [maxLen]; omega) (by omega) (Nat.le_refl _) ?_; intro v4 w4 hown4 hg4 hat4; have b34 : Below w3.heap.size w3 w4 := (Below.refl _ _).grown hg4 (Nat.le_refl _) (fun k hk => by cases hk); have rdy4 := rdy.below b34)
          | (at_builtin; refine wpList_append_any _ rfl (.tmp 55) (.tmp 56) _ rfl w3.heap.size 37 i0 _ 4 64 Tryd.underlying23 hi hz0 hz1 hz2 rfl (by omega) v4 (0 + n1) ([] ++ cx) rfl hown4 _ A2 n2 c2 cy rfl rdy4 O2.out (by simp only [maxLen]; omega) (by omega) b34.size ?_; intro v5 w5 hown5 hg5 hat5; have b35 : Below w3.heap.size w3 w5 := b34.grown hg5 b34.size (fun k hk => (own_block hown4 hk).1); rw [Nat.zero_add] at hown5; obtain ⟨A5, c5, rfl, l5⟩ := own_lies hown5; have SE := Lib.hid (sameE (x ++ y) (by have := LC.out.2.1; have := HS.out; omega) (by have := LC.out.2.2; have := HS.out; omega) A5 A3 (n1 + n2) n3 c5 c3 w5 (fun _ => True) _ ⟨by rw [E1.out, E2.out, List.length_append], _, l5, by rw [List.nil_append]; exact (RX.out.mono (fun b _ hs => ⟨trivial, b35.block b hs⟩)).append (RY.out.mono (fun b _ hs => ⟨trivial, b35.block b hs⟩))⟩ (S3.out.below b35)); have b05 := b03.trans (b35.mono b03.size))
          | (go_at_call 10; (with_reducible refine (SE.out).mono ?_); rintro e w6 ⟨rfl, b6⟩; have b06 := b05.trans (b6.mono b05.size))
          | (go_at_call 7; (with_reducible refine (AW.out _ (EV.out _ b06)).mono ?_); rintro e w7 ⟨rfl, b7⟩))
        go_ret
        exact ⟨rfl, b06.trans (b7.mono b06.size)⟩
      · go_enter Tryd.func4, Tryd.ntmps4
        go_wp2_with (fail)
        refine (PA.out w (EV.out _ (Below.refl _ _))).mono ?_
        rintro e w1 ⟨⟨A1, n1, c1, rfl, _, s1⟩, b1⟩
        go_wp2_with (fail)
        refine (PB.out w1 (EV.out _ b1)).mono ?_
        rintro e w2 ⟨⟨A2, n2, c2, rfl, _, s2⟩, b2⟩
        have b02 := b1.trans (b2.mono b1.size)
        go_wp2_with (fail)
        refine (PC.out w2 (EV.out _ b02)).mono ?_
        rintro e w3 ⟨⟨A3, n3, c3, rfl, _, s3⟩, b3⟩
        have b03 := b02.trans (b3.mono b02.size)
        go_wp2_with (go_at_call 7; (with_reducible refine (AW.out _ (EV.out _ b03)).mono ?_); rintro e w4 ⟨rfl, b4⟩)
        go_ret
        exact ⟨rfl, b03.trans (b4.mono b03.size)⟩
    · have g2 : ((eb : Int) != 0) = true := by simp; omega
      clear h2
      go_enter Tryd.func4, Tryd.ntmps4
      go_wp2_with (fail)
      refine (PA.out w (EV.out _ (Below.refl _ _))).mono ?_
      rintro e w1 ⟨⟨A1, n1, c1, rfl, _, s1⟩, b1⟩
      go_wp2_with (fail)
      refine (PB.out w1 (EV.out _ b1)).mono ?_
      rintro e w2 ⟨⟨A2, n2, c2, rfl, _, s2⟩, b2⟩
      have b02 := b1.trans (b2.mono b1.size)
      go_wp2_with (fail)
      refine (PC.out w2 (EV.out _ b02)).mono ?_
      rintro e w3 ⟨⟨A3, n3, c3, rfl, _, s3⟩, b3⟩
      have b03 := b02.trans (b3.mono b02.size)
      go_wp2_with (go_at_call 7; (with_reducible refine (AW.out _ (EV.out _ b03)).mono ?_); rintro e w4 ⟨rfl, b4⟩)
      go_ret
      exact ⟨rfl, b03.trans (b4.mono b03.size)⟩
  · have g1 : ((ea : Int) != 0) = true := by simp; omega
    clear h1
    go_enter Tryd.func4, Tryd.ntmps4
    go_wp2_with (fail)
    refine (PA.out w (EV.out _ (Below.refl _ _))).mono ?_
    rintro e w1 ⟨⟨A1, n1, c1, rfl, _, s1⟩, b1⟩
    go_wp2_with (fail)
    refine (PB.out w1 (EV.out _ b1)).mono ?_
    rintro e w2 ⟨⟨A2, n2, c2, rfl, _, s2⟩, b2⟩
    have b02 := b1.trans (b2.mono b1.size)
    go_wp2_with (fail)
    refine (PC.out w2 (EV.out _ b02)).mono ?_
    rintro e w3 ⟨⟨A3, n3, c3, rfl, _, s3⟩, b3⟩
    have b03 := b02.trans (b3.mono b02.size)
    go_wp2_with (go_at_call 7; (with_reducible refine (AW.out _ (EV.out _ b03)).mono ?_); rintro e w4 ⟨rfl, b4⟩)
    go_ret
    exact ⟨rfl, b03.trans (b4.mono b03.size)⟩
theorem lines_law {p q : Prop} (a : ByteArray) (_ : p) (b : ByteArray) (_ : q) (w : World) (hE : Env w) : Calls Tryd.prog 4 #[.string a, .string b] w fun e w' => e = .returned (.bool true) ∧ Below w.heap.size w w' := lines_walk a b w hE
end Go.Proofs.YtimfljncibbdoaaDoor.Lg
