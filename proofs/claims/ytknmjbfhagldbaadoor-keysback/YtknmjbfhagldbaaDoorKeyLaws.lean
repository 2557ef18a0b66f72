/- The walks of KeysGraph, KeysFile and KeysWrites. -/
import Derived.Test.YtknmjbfhagldbaaDoorKeyAwake
import Derived.Test.YtknmjbfhagldbaaDoorRgGraph
import Derived.Test.YtknmjbfhagldbaaDoorFew
namespace Go.Proofs.YtknmjbfhagldbaaDoor
open Go.RowKit
set_option linter.unusedVariables false
set_option maxRecDepth 100000
def Tg.Fit (t : Tg) : Prop := t.n.size ≤ maxLen ∧ t.c.size ≤ maxLen ∧ t.ds.length ≤ maxLen ∧ t.ss.length ≤ maxLen
def Fl.Fit (f : Fl) : Prop := f.p.size ≤ maxLen ∧ f.d.size ≤ maxLen
theorem Tgs.more {w : World} {B B' : Nat} {A : Option Addr} {l : List Tg} (h : Tgs w B A l) (hB : B ≤ B') : Tgs w B' A l := fun hl => by
  obtain ⟨ad, e, h1, h2⟩ := h hl
  refine ⟨ad, e, by omega, fun k hk => ?_⟩
  obtain ⟨Ad, cd, As, cs, c0, c1, c2, c3, c4, c5⟩ := h2 k hk
  exact ⟨Ad, cd, As, cs, c0, c1, c2, c3, c4.more hB, c5.more hB⟩
theorem Fls.none_ (w : World) (B : Nat) (A : Option Addr) : Fls w B A [] := fun h => absurd h (by simp)
theorem Tgs.none_ (w : World) (B : Nat) (A : Option Addr) : Tgs w B A [] := fun h => absurd h (by simp)
set_option maxHeartbeats 2000000 in
theorem graphlaw_walk (A : Option Addr) (l : List Tg) (c : Nat) (hl : l.length ≤ 9223372036854775807) (hz : ∀ t ∈ l, t.Fit) (w : World) (ht : Tab w) (hr : Tgs w w.heap.size A l) :
    Calls Tryd.prog 5 #[.slice A l.length c] w fun e w' => e = .returned (.bool true) ∧ Below w.heap.size w w' := by
  have FW : Hid (Calls Tryd.prog 10 #[.slice A l.length c, .slice none 0 0] w (FewSays l [] w)) := Lib.hid (few_any A none l [] c 0 w hl (by decide) hr (Fls.none_ _ _ _) hz (fun f h => by cases h))
  go_enter Tryd.func5, Tryd.ntmps5
  go_wp2_with (fail)
  refine (FW.out).mono ?_
  rintro e w' ⟨b, rfl, rfl, hb⟩
  cases b
  · clear hb
    go_wp2_with (go_at_call 11; ((with_reducible refine (awake_any _ ht).mono ?_); rintro e w4 ⟨rfl, hb4⟩))
    go_ret
    exact ⟨rfl, hb4⟩
  · obtain ⟨h1, h2, _, _⟩ := hb rfl
    have KG := Lib.hid (kgraph_any A l c h1 h2 w ht hr)
    have RG : Hid (∀ W, Below w.heap.size w W → Calls Tryd.prog 13 #[.slice A l.length c] W fun e w' => e = .returned (.string (bs (Pk.list (l.map Tg.b)))) ∧ Below W.heap.size W w') := Lib.hid (fun W hW => rgraph_any A l c h1 h2 W ((hr.below hW).more hW.size))
    clear hb h2
    generalize bs (Pk.list (l.map Tg.b)) = X at *
    go_wp2_with (first | (go_at_call 12; ((with_reducible refine (KG.out).mono ?_); rintro e w1 ⟨rfl, hb1⟩)) | (go_at_call 13; ((with_reducible refine (RG.out _ hb1).mono ?_); rintro e w2 ⟨rfl, hb2⟩; have hb12 := hb1.trans (hb2.mono hb1.size); have ht2 := ht.on hb12)) | (go_at_call 11; ((with_reducible refine (awake_any _ ht2).mono ?_); rintro e w4 ⟨rfl, hb4⟩)))
    go_ret
    exact ⟨rfl, hb12.trans (hb4.mono hb12.size)⟩
set_option maxHeartbeats 2000000 in
theorem filelaw_walk (F : Option Addr) (fs : List Fl) (d : Nat) (hl : fs.length ≤ 9223372036854775807) (hz : ∀ f ∈ fs, f.Fit) (w : World) (ht : Tab w) (hr : Fls w w.heap.size F fs) :
    Calls Tryd.prog 6 #[.slice F fs.length d] w fun e w' => e = .returned (.bool true) ∧ Below w.heap.size w w' := by
  have FW : Hid (Calls Tryd.prog 10 #[.slice none 0 0, .slice F fs.length d] w (FewSays [] fs w)) := Lib.hid (few_any none F [] fs 0 d w (by decide) hl (Tgs.none_ _ _ _) hr (fun f h => by cases h) hz)
  go_enter Tryd.func6, Tryd.ntmps6
  go_wp2_with (fail)
  refine (FW.out).mono ?_
  rintro e w' ⟨b, rfl, rfl, hb⟩
  cases b
  · clear hb
    go_wp2_with (go_at_call 11; ((with_reducible refine (awake_any _ ht).mono ?_); rintro e w4 ⟨rfl, hb4⟩))
    go_ret
    exact ⟨rfl, hb4⟩
  · obtain ⟨_, _, h1, h2⟩ := hb rfl
    have KG := Lib.hid (kfiles_any F fs d h1 h2 w ht hr)
    have RG : Hid (∀ W, Below w.heap.size w W → Calls Tryd.prog 15 #[.slice F fs.length d] W fun e w' => e = .returned (.string (bs (Pk.list (fs.map Fl.b)))) ∧ Below W.heap.size W w') := Lib.hid (fun W hW => rfiles_any F fs d h1 h2 W ((hr.below hW).more hW.size))
    clear hb h2
    generalize bs (Pk.list (fs.map Fl.b)) = X at *
    go_wp2_with (first | (go_at_call 14; ((with_reducible refine (KG.out).mono ?_); rintro e w1 ⟨rfl, hb1⟩)) | (go_at_call 15; ((with_reducible refine (RG.out _ hb1).mono ?_); rintro e w2 ⟨rfl, hb2⟩; have hb12 := hb1.trans (hb2.mono hb1.size); have ht2 := ht.on hb12)) | (go_at_call 11; ((with_reducible refine (awake_any _ ht2).mono ?_); rintro e w4 ⟨rfl, hb4⟩)))
    go_ret
    exact ⟨rfl, hb12.trans (hb4.mono hb12.size)⟩
set_option maxHeartbeats 2000000 in
theorem writeslaw_walk (A F : Option Addr) (l : List Tg) (fs : List Fl) (c d : Nat) (hl : l.length ≤ 9223372036854775807) (hz : ∀ t ∈ l, t.Fit) (hlf : fs.length ≤ 9223372036854775807) (hzf : ∀ f ∈ fs, f.Fit) (w : World) (ht : Tab w) (hr : Tgs w w.heap.size A l) (hq : Fls w w.heap.size F fs) :
    Calls Tryd.prog 3 #[.slice A l.length c, .slice F fs.length d] w fun e w' => e = .returned (.bool true) ∧ Below w.heap.size w w' := by
  have FW : Hid (Calls Tryd.prog 10 #[.slice A l.length c, .slice F fs.length d] w (FewSays l fs w)) := Lib.hid (few_any A F l fs c d w hl hlf hr hq hz hzf)
  go_enter Tryd.func3, Tryd.ntmps3
  go_wp2_with (fail)
  refine (FW.out).mono ?_
  rintro e w' ⟨b, rfl, rfl, hb⟩
  cases b
  · clear hb
    go_wp2_with (go_at_call 11; ((with_reducible refine (awake_any _ ht).mono ?_); rintro e w4 ⟨rfl, hb4⟩))
    go_ret
    exact ⟨rfl, hb4⟩
  · obtain ⟨h1, h2, h3, h4⟩ := hb rfl
    have KG := Lib.hid (kgraph_any A l c h1 h2 w ht hr)
    have RG : Hid (∀ W, Below w.heap.size w W → Calls Tryd.prog 13 #[.slice A l.length c] W fun e w' => e = .returned (.string (bs (Pk.list (l.map Tg.b)))) ∧ Below W.heap.size W w') := Lib.hid (fun W hW => rgraph_any A l c h1 h2 W ((hr.below hW).more hW.size))
    have KF : Hid (∀ W, Below w.heap.size w W → Calls Tryd.prog 14 #[.slice F fs.length d] W fun e w' => e = .returned (.string (bs (Pk.list (fs.map Fl.b)))) ∧ Below W.heap.size W w') := Lib.hid (fun W hW => kfiles_any F fs d h3 h4 W (ht.on hW) ((hq.below hW).more hW.size))
    have RF : Hid (∀ W, Below w.heap.size w W → Calls Tryd.prog 15 #[.slice F fs.length d] W fun e w' => e = .returned (.string (bs (Pk.list (fs.map Fl.b)))) ∧ Below W.heap.size W w') := Lib.hid (fun W hW => rfiles_any F fs d h3 h4 W ((hq.below hW).more hW.size))
    clear hb h2 h4
    generalize bs (Pk.list (l.map Tg.b)) = X at *
    generalize bs (Pk.list (fs.map Fl.b)) = Y at *
    go_wp2_with (first | (go_at_call 12; ((with_reducible refine (KG.out).mono ?_); rintro e w1 ⟨rfl, hb1⟩)) | (go_at_call 13; ((with_reducible refine (RG.out _ hb1).mono ?_); rintro e w2 ⟨rfl, hb2⟩; have hb12 := hb1.trans (hb2.mono hb1.size))) | (go_at_call 14; ((with_reducible refine (KF.out _ hb12).mono ?_); rintro e w3 ⟨rfl, hb3⟩; have hb13 := hb12.trans (hb3.mono hb12.size))) | (go_at_call 15; ((with_reducible refine (RF.out _ hb13).mono ?_); rintro e w5 ⟨rfl, hb5⟩; have hb15 := hb13.trans (hb5.mono hb13.size); have ht2 := ht.on hb15)) | (go_at_call 11; ((with_reducible refine (awake_any _ ht2).mono ?_); rintro e w4 ⟨rfl, hb4⟩)))
    go_ret
    exact ⟨rfl, hb15.trans (hb4.mono hb15.size)⟩
end Go.Proofs.YtknmjbfhagldbaaDoor
