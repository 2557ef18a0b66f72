/- Joined by mkmerged.py: GrAlone, GrTurn, GrCame, GrOpen. -/
import Derived.Test.YtdidnlkilleljaaGreatDoorMf14
import Derived.Test.YtdidnlkilleljaaGreatDoorMf03
import Derived.Test.YtdidnlkilleljaaGreatDoorMf10
import Derived.Deep.RegionHeld3
import Derived.Deep.CutRange
import Derived.IntWalk
import Derived.Test.YtdidnlkilleljaaGreatDoorMf13
import Derived.Test.YtdidnlkilleljaaGreatDoorMf02
/- GrAlone, what a claim needs of it (prune.py). -/
namespace Go.Proofs.YtdidnlkilleljaaGreatDoor.Gr
open Go.RowKit
open Lg (Strs tl)
set_option linter.unusedVariables false
set_option maxRecDepth 100000
def nameF (s : ByteArray) : Int := Lg.nameE (tl s)
def pathF (s : ByteArray) : Int := Lg.pathE (tl s)
def parseF (s : ByteArray) : Int := ((Lg.parse (tl s)).2 : Int)
theorem path_ne (s : ByteArray) : (pathF s != 0) = decide (pathF s ≠ 0) := by
  by_cases h : pathF s = 0 <;> simp [h]
theorem alone1_any (s : ByteArray) (W : World) (hE : Lg.Env W) (hs : s.size ≤ 1000000) :
    Calls Tryz.prog 76 #[.string s] W fun e w' => e = .returned (.bool (decide (pathF s ≠ 0))) ∧ Below W.heap.size W w' := by
  obtain ⟨⟨m, hm⟩, _⟩ := hE
  have PP : Hid (Calls Tryz.prog 47 #[.string s] W fun e w' => e = .returned (.int .i64 (pathF s)) ∧ Below W.heap.size W w') := Lib.hid (Lg.ppath_any s m W (by omega) hm)
  have NE := Lib.hid (path_ne s)
  generalize pathF s = p at *
  clear hm
  go_enter Tryz.func76, Tryz.ntmps76
  go_wp2_with (go_at_call 47; ((with_reducible refine (PP.out).mono ?_); rintro e w1 ⟨rfl, hb⟩))
  go_ret
  exact ⟨Lg.ret_bool NE.out.symm, hb⟩
theorem alone_parse {t : Tg} (h : parseF t.c ≠ 0) : alone pathF parseF t = parseF t.c := if_pos h
theorem alone_big {t : Tg} (h : parseF t.c = 0) (h2 : 12 < t.ds.length ∨ 32 < t.ss.length) : alone pathF parseF t = 15 := by
  rw [alone, if_neg (fun e => e h), if_pos h2]
theorem alone_dup {t : Tg} (h : parseF t.c = 0) (h2 : ¬ (12 < t.ds.length ∨ 32 < t.ss.length)) (h3 : dup t.ds = true ∨ dup t.ss = true) : alone pathF parseF t = 16 := by
  rw [alone, if_neg (fun e => e h), if_neg h2, if_pos h3]
theorem alone_last {t : Tg} (h : parseF t.c = 0) (h2 : ¬ (12 < t.ds.length ∨ 32 < t.ss.length)) (h3 : ¬ (dup t.ds = true ∨ dup t.ss = true)) :
    alone pathF parseF t = if (t.ss.any fun s => decide (pathF s ≠ 0)) = true then 13 else 0 := by
  have : (t.ss.any fun s => decide (pathF s ≠ 0)) = true ↔ ∃ s ∈ t.ss, pathF s ≠ 0 := by simp
  rw [alone, if_neg (fun e => e h), if_neg h2, if_neg h3]
  simp only [this]
theorem parse_err (c : ByteArray) (W : World) (hE : Lg.Env W) (hs : c.size ≤ 1000000) :
    Calls Tryz.prog 44 #[.string c] W fun e w' => (∃ A n k, e = .returned (.tuple #[.slice A n k, .int .i64 (parseF c)])) ∧ Below W.heap.size W w' := by
  refine (Lg.parse_any c W hE hs).mono ?_
  rintro e w' ⟨⟨A, n, k, h1, _, _⟩, hb⟩
  exact ⟨⟨A, n, k, h1⟩, hb⟩
set_option maxHeartbeats 1000000 in
theorem alone_any (t : Tg) (Ad As : Option Addr) (cd cs : Nat) (W : World) (hE : Lg.Env W) (hf : Fits t) (hd : Strs W Ad t.ds) (hs : Strs W As t.ss) :
    Calls Tryz.prog 38 #[.agg #[.string t.n, .string t.c, .slice Ad t.ds.length cd, .slice As t.ss.length cs]] W fun e w' => e = .returned (.int .i64 (alone pathF parseF t)) ∧ Below W.heap.size W w' := by
  obtain ⟨W1, eW⟩ : ∃ W1, W1 = W.alloc (.cells #[.string t.n, .string t.c, .slice Ad t.ds.length cd, .slice As t.ss.length cs] 47) := ⟨_, rfl⟩
  have hb1 : Below W.heap.size W W1 := by rw [eW]; exact (Below.refl _ _).alloc (Nat.le_refl _) _
  have hblk : W1.heap[W.heap.size]? = some (.cells #[.string t.n, .string t.c, .slice Ad t.ds.length cd, .slice As t.ss.length cs] 47 (0, 0)) := by rw [eW]; exact heap_alloc_new W _
  have BX : Hid (∀ V, Below W1.heap.size W1 V → V.cell? ⟨W.heap.size, 2, none⟩ = some (.slice Ad t.ds.length cd) ∧ V.cell? ⟨W.heap.size, 3, none⟩ = some (.slice As t.ss.length cs)) := Lib.hid fun V hV => by
    obtain ⟨_, _, c2, c3, _⟩ := Lg.four ((hV.block _ (Lg.lt_heap hblk)).trans hblk)
    exact ⟨c2, c3⟩
  have HE1 := hE.below hb1
  have PE : Hid (Calls Tryz.prog 44 #[.string t.c] W1 fun e w' => (∃ A n k, e = .returned (.tuple #[.slice A n k, .int .i64 (parseF t.c)])) ∧ Below W1.heap.size W1 w') := Lib.hid (parse_err t.c W1 HE1 hf.c)
  have TD : Hid (∀ V, Below W1.heap.size W1 V → Calls Tryz.prog 74 #[.slice Ad t.ds.length cd] V fun e w' => e = .returned (.bool (dup t.ds)) ∧ Below V.heap.size V w') := Lib.hid fun V hV => twice_any Ad t.ds cd V ((hd.below hb1).below hV) (by have := hf.dl; omega) (fun x hx => by have := hf.d x hx; unfold maxLen; omega)
  have TS : Hid (∀ V, Below W1.heap.size W1 V → Calls Tryz.prog 74 #[.slice As t.ss.length cs] V fun e w' => e = .returned (.bool (dup t.ss)) ∧ Below V.heap.size V w') := Lib.hid fun V hV => twice_any As t.ss cs V ((hs.below hb1).below hV) (by have := hf.sl; omega) (fun x hx => by have := hf.s x hx; unfold maxLen; omega)
  have CF : Hid (∀ V, Below W1.heap.size W1 V → Calls Tryz.prog 75 #[.slice As t.ss.length cs, .func (.func 76) #[] #[]] V fun e w' => e = .returned (.bool (t.ss.any fun s => decide (pathF s ≠ 0))) ∧ Below V.heap.size V w') := Lib.hid fun V hV =>
    containsS_any 76 #[] (enters_of Tryz.func76 (by kernel_rfl) rfl) _ As t.ss cs V ((hs.below hb1).below hV) (by have := hf.sl; omega) (fun s hs2 U hU => alone1_any s U (HE1.below (hV.trans (hU.mono hV.size))) (by have := hf.s s hs2; omega))
  have F1 := Lib.hid (alone_parse (t := t))
  have F2 := Lib.hid (alone_big (t := t))
  have F3 := Lib.hid (alone_dup (t := t))
  have F4 := Lib.hid (alone_last (t := t))
  have hdl := hf.dl
  have hsl := hf.sl
  have HB1 := Lib.hid hb1
  clear hE HE1 hf hd hs hblk hb1
  generalize (t.ss.any fun s => decide (pathF s ≠ 0)) = q3 at *
  generalize hq1 : dup t.ds = q1 at *
  generalize hq2 : dup t.ss = q2 at *
  generalize hp : parseF t.c = p at *
  clear hq1 hq2 hp
  generalize alone pathF parseF t = R at *
  by_cases h1 : p = 0
  · subst h1
    by_cases h2 : 12 < t.ds.length ∨ 32 < t.ss.length
    · have F := Lib.hid (F2.out rfl h2)
      clear F1 F2 F3 F4 TD TS CF
      rcases (show 12 < t.ds.length ∨ (¬ 12 < t.ds.length ∧ 32 < t.ss.length) by omega) with h3 | ⟨h3, h4⟩
      · have g1 : (12 : Int) < (t.ds.length : Int) := by omega
        clear h2
        go_enter Tryz.func38, Tryz.ntmps38
        go_wp2_with (go_at_call 44; rw [← eW]; (with_reducible refine (PE.out).mono ?_); rintro e w2 ⟨⟨A, n, k, rfl⟩, hb2⟩; clear eW; obtain ⟨b2, b3⟩ := BX.out _ hb2)
        go_ret
        exact ⟨Lg.ret_int F.out, HB1.out.trans (hb2.mono HB1.out.size)⟩
      · have g1 : ¬ (12 : Int) < (t.ds.length : Int) := by omega
        have g2 : (32 : Int) < (t.ss.length : Int) := by omega
        clear h2
        go_enter Tryz.func38, Tryz.ntmps38
        go_wp2_with (go_at_call 44; rw [← eW]; (with_reducible refine (PE.out).mono ?_); rintro e w2 ⟨⟨A, n, k, rfl⟩, hb2⟩; clear eW; obtain ⟨b2, b3⟩ := BX.out _ hb2)
        go_ret
        exact ⟨Lg.ret_int F.out, HB1.out.trans (hb2.mono HB1.out.size)⟩
    · have g1 : ¬ (12 : Int) < (t.ds.length : Int) := by omega
      have g2 : ¬ (32 : Int) < (t.ss.length : Int) := by omega
      cases q1
      · cases q2
        · have F := Lib.hid (F4.out rfl h2 (by simp))
          clear F1 F2 F3 F4 h2
          cases q3
          all_goals
            go_enter Tryz.func38, Tryz.ntmps38
            go_wp2_with (first
              | (go_at_call 44; rw [← eW]; (with_reducible refine (PE.out).mono ?_); rintro e w2 ⟨⟨A, n, k, rfl⟩, hb2⟩; clear eW; obtain ⟨b2, b3⟩ := BX.out _ hb2; have T2 := Lib.hid (TD.out _ hb2))
              | (go_at_call 74; (with_reducible refine (T2.out).mono ?_); rintro e w3 ⟨rfl, hb3'⟩; have hb3 := hb2.trans (hb3'.mono hb2.size); obtain ⟨b4, b5⟩ := BX.out _ hb3; have T3 := Lib.hid (TS.out _ hb3); clear T2)
              | (go_at_call 74; (with_reducible refine (T3.out).mono ?_); rintro e w4 ⟨rfl, hb4'⟩; have hb4 := hb3.trans (hb4'.mono hb3.size); obtain ⟨b6, b7⟩ := BX.out _ hb4; have C4 := Lib.hid (CF.out _ hb4))
              | (go_at_call 75; (with_reducible refine (C4.out).mono ?_); rintro e w5 ⟨rfl, hb5'⟩; have hb5 := hb4.trans (hb5'.mono hb4.size)))
            go_ret
            exact ⟨Lg.ret_int F.out, HB1.out.trans (hb5.mono HB1.out.size)⟩
        · have F := Lib.hid (F3.out rfl h2 (.inr rfl))
          clear F1 F2 F3 F4 h2 CF
          go_enter Tryz.func38, Tryz.ntmps38
          go_wp2_with (first
            | (go_at_call 44; rw [← eW]; (with_reducible refine (PE.out).mono ?_); rintro e w2 ⟨⟨A, n, k, rfl⟩, hb2⟩; clear eW; obtain ⟨b2, b3⟩ := BX.out _ hb2; have T2 := Lib.hid (TD.out _ hb2))
            | (go_at_call 74; (with_reducible refine (T2.out).mono ?_); rintro e w3 ⟨rfl, hb3'⟩; have hb3 := hb2.trans (hb3'.mono hb2.size); obtain ⟨b4, b5⟩ := BX.out _ hb3; have T3 := Lib.hid (TS.out _ hb3); clear T2)
            | (go_at_call 74; (with_reducible refine (T3.out).mono ?_); rintro e w4 ⟨rfl, hb4'⟩; have hb4 := hb3.trans (hb4'.mono hb3.size)))
          go_ret
          exact ⟨Lg.ret_int F.out, HB1.out.trans (hb4.mono HB1.out.size)⟩
      · have F := Lib.hid (F3.out rfl h2 (.inl rfl))
        clear F1 F2 F3 F4 h2 CF TS
        go_enter Tryz.func38, Tryz.ntmps38
        go_wp2_with (first
          | (go_at_call 44; rw [← eW]; (with_reducible refine (PE.out).mono ?_); rintro e w2 ⟨⟨A, n, k, rfl⟩, hb2⟩; clear eW; obtain ⟨b2, b3⟩ := BX.out _ hb2; have T2 := Lib.hid (TD.out _ hb2))
          | (go_at_call 74; (with_reducible refine (T2.out).mono ?_); rintro e w3 ⟨rfl, hb3'⟩; have hb3 := hb2.trans (hb3'.mono hb2.size)))
        go_ret
        exact ⟨Lg.ret_int F.out, HB1.out.trans (hb3.mono HB1.out.size)⟩
  · have F := Lib.hid (F1.out h1)
    have g1 : (p != 0) = true := by simpa using h1
    clear F1 F2 F3 F4 h1 CF TD TS
    go_enter Tryz.func38, Tryz.ntmps38
    go_wp2_with (go_at_call 44; rw [← eW]; (with_reducible refine (PE.out).mono ?_); rintro e w2 ⟨⟨A, n, k, rfl⟩, hb2⟩; clear eW)
    go_ret
    exact ⟨Lg.ret_int F.out, HB1.out.trans (hb2.mono HB1.out.size)⟩
end Go.Proofs.YtdidnlkilleljaaGreatDoor.Gr
namespace Go.Proofs.YtdidnlkilleljaaGreatDoor.Gr
open Go.RowKit
open Lg (Strs tl)
set_option linter.unusedVariables false
set_option maxRecDepth 100000
abbrev checkF (l : List Tg) : Int := check nameF pathF parseF l
abbrev errF (l : List Tg) (k : Nat) : Int := errAt nameF pathF parseF l k
theorem check_hit {l : List Tg} {k : Nat} (h12 : ¬ 12 < l.length) (hk : k < l.length) (h : ∀ j, j < k → errF l j = 0) (he : errF l k ≠ 0) : checkF l = errF l k := by
  have := firstE_hit h he hk
  unfold checkF check
  rw [if_neg h12, if_pos (by rw [this]; exact he), this]
theorem err_name {l : List Tg} {k : Nat} (hk : k < l.length) (h : nameF l[k].n ≠ 0) : errF l k = nameF l[k].n := by
  unfold errF; rw [errAt_at hk, if_pos h]
theorem err_twice {l : List Tg} {k : Nat} (hk : k < l.length) (h : nameF l[k].n = 0) (h2 : isT (l.take k) l[k].n = true) : errF l k = 16 := by
  unfold errF; rw [errAt_at hk, if_neg (fun e => e h), if_pos h2]
theorem err_alone {l : List Tg} {k : Nat} (hk : k < l.length) (h : nameF l[k].n = 0) (h2 : isT (l.take k) l[k].n = false) : errF l k = alone pathF parseF l[k] := by
  unfold errF; rw [errAt_at hk, if_neg (fun e => e h), if_neg (by rw [h2]; simp)]
theorem upto_err {l : List Tg} {k : Nat} (h : ∀ j, j < k → errF l j = 0) (he : errF l k = 0) : ∀ j, j < k + 1 → errF l j = 0 := fun j hj => by
  rcases Nat.lt_or_ge j k with h1 | h1
  · exact h j h1
  · obtain rfl : j = k := by omega
    exact he
theorem check_dep {l : List Tg} (h12 : ¬ 12 < l.length) (hz : ∀ j, j < l.length → errF l j = 0) {t : Tg} (ht : t ∈ l) {d : ByteArray} (hd : d ∈ t.ds) (h : isT l d = false) : checkF l = 30 := by
  unfold checkF check
  have := firstE_none hz
  rw [if_neg h12, if_neg (by rw [this]; simp), if_pos ⟨t, ht, d, hd, h⟩]
theorem check_end {l : List Tg} (h12 : ¬ 12 < l.length) (hz : ∀ j, j < l.length → errF l j = 0) (hd : ∀ t ∈ l, ∀ d ∈ t.ds, isT l d = true) : checkF l = if (order l).length < l.length then 31 else 0 := by
  unfold checkF check
  have := firstE_none hz
  rw [if_neg h12, if_neg (by rw [this]; simp), if_neg]
  rintro ⟨t, ht, d, hd2, h⟩
  rw [hd t ht d hd2] at h; cases h
def DepsTo (l : List Tg) (k : Nat) : Prop := ∀ j (hj : j < l.length), j < k → ∀ d ∈ l[j].ds, isT l d = true
theorem DepsTo.zero (l : List Tg) : DepsTo l 0 := fun j _ h => by omega
theorem DepsTo.next {l : List Tg} {k : Nat} (h : DepsTo l k) (hk : k < l.length) (hd : ∀ d ∈ l[k].ds, isT l d = true) : DepsTo l (k + 1) := fun j hj h1 => by
  rcases Nat.lt_or_ge j k with h2 | h2
  · exact h j hj h2
  · obtain rfl : j = k := by omega
    exact hd
theorem DepsTo.all {l : List Tg} (h : DepsTo l l.length) : ∀ t ∈ l, ∀ d ∈ t.ds, isT l d = true := fun t ht => by
  obtain ⟨j, hj, rfl⟩ := List.mem_iff_getElem.1 ht
  exact h j hj hj
theorem take_mem {l ds : List ByteArray} {P : ByteArray → Prop} {q : Nat} (h : ∀ d ∈ ds.take q, P d) (hq : q < ds.length) (hp : P ds[q]) : ∀ d ∈ ds.take (q + 1), P d := fun d hd => by
  rw [List.take_succ_eq_append_getElem hq] at hd
  rcases List.mem_append.1 hd with hd | hd
  · exact h d hd
  · obtain rfl := List.mem_singleton.1 hd
    exact hp
set_option maxHeartbeats 4000000 in
theorem pcheck_any (A : Option Addr) (l : List Tg) (c : Nat) (w : World) (hE : Lg.Env w) (hr : Tgs w A l) (hl : l.length ≤ 1000) (hlc : l.length ≤ c) (hf : ∀ t ∈ l, Fits t) :
    Calls Tryz.prog 18 #[.slice A l.length c] w fun e w' => e = .returned (.int .i64 (checkF l)) ∧ Below w.heap.size w w' := by
  have HE := Lib.hid hE
  have HR := Lib.hid hr
  have FT := Lib.hid hf
  by_cases h12 : 12 < l.length
  · have g : (12 : Int) < (l.length : Int) := by omega
    have F : Hid (checkF l = 15) := Lib.hid (if_pos h12)
    clear hE hr hf h12
    go_enter Tryz.func18, Tryz.ntmps18
    go_wp2_with (fail)
    go_ret
    exact ⟨Lg.ret_int F.out, Below.refl _ _⟩
  have g12 : ¬ (12 : Int) < (l.length : Int) := by omega
  have HIT : Hid (∀ k, k < l.length → (∀ j, j < k → errF l j = 0) → errF l k ≠ 0 → checkF l = errF l k) := Lib.hid fun k hk h he => check_hit h12 hk h he
  clear hE hr hf
  go_enter Tryz.func18, Tryz.ntmps18
  go_wp2_with (fail)
  go_loopw [20] (fun i wx => ∃ k : Nat, i = .int .i64 k ∧ k ≤ l.length ∧ (∀ j, j < k → errF l j = 0) ∧ Below w.heap.size w wx) (fun i _ => l.length - (intOf i).toNat)
  case atStart => exact ⟨0, rfl, by omega, fun j hj => by omega, Below.refl _ _⟩
  case round =>
    obtain ⟨k, rfl, hk, hz, hb⟩ := hrel
    have HZ := Lib.hid hz
    clear hz
    by_cases hlt : k < l.length
    · have hkI : (k : Int) < (l.length : Int) := by omega
      have hk0 : (0 : Int) ≤ (k : Int) := by omega
      have hkc : (k : Int) ≤ (c : Int) := by omega
      obtain ⟨ad, rfl, had, hcs⟩ := HR.out.below hb (by omega)
      obtain ⟨Ad, cd, As, cs, c0, c1, c2, c3, hd, hs⟩ := hcs k hlt
      have e1 : wr.cell? ⟨(ad.add (k * 4)).block, (ad.add (k * 4)).off + 1, none⟩ = some (.string l[k].c) := c1
      have e2 : wr.cell? ⟨(ad.add (k * 4)).block, (ad.add (k * 4)).off + 2, none⟩ = some (.slice Ad l[k].ds.length cd) := c2
      have e3 : wr.cell? ⟨(ad.add (k * 4)).block, (ad.add (k * 4)).off + 3, none⟩ = some (.slice As l[k].ss.length cs) := c3
      obtain ⟨wb, eW⟩ : ∃ wb, wb = wr.alloc (.cells #[.string l[k].n, .string l[k].c, .slice Ad l[k].ds.length cd, .slice As l[k].ss.length cs] 47) := ⟨_, rfl⟩
      have hbb : Below wr.heap.size wr wb := by rw [eW]; exact (Below.refl _ _).alloc (Nat.le_refl _) _
      have hbw : Below w.heap.size w wb := hb.trans (hbb.mono hb.size)
      have hblk : wb.heap[wr.heap.size]? = some (.cells #[.string l[k].n, .string l[k].c, .slice Ad l[k].ds.length cd, .slice As l[k].ss.length cs] 47 (0, 0)) := by rw [eW]; exact heap_alloc_new wr _
      have FK := FT.out _ (List.getElem_mem hlt)
      have PN : Hid (∀ V, Calls Tryz.prog 37 #[.string l[k].n] V fun e w' => e = .returned (.int .i64 (nameF l[k].n)) ∧ V = w') := Lib.hid fun V => Lg.pname_any l[k].n (by have := FK.n; omega) V
      have AL : Hid (∀ V, Below wb.heap.size wb V → Calls Tryz.prog 38 #[.agg #[.string l[k].n, .string l[k].c, .slice Ad l[k].ds.length cd, .slice As l[k].ss.length cs]] V fun e w' => e = .returned (.int .i64 (alone pathF parseF l[k])) ∧ Below V.heap.size V w') := Lib.hid fun V hV =>
        alone_any l[k] Ad As cd cs V (HE.out.below (hbw.trans (hV.mono hbw.size))) FK ((hd.below hbb).below hV) ((hs.below hbb).below hV)
      have FB : Hid (∀ b, isT (l.take k) l[k].n = b → ∀ V, Below wb.heap.size wb V → Calls Tryz.prog 21 #[.slice (some ad) k c, .string l[k].n] V (FindB (l.take k) l[k].n b w V)) := Lib.hid fun b hb2 V hV => by
        have := findB_any (some ad) (l.take k) c l[k].n w V (HR.out.take k) (hbw.trans (hV.mono hbw.size)) (by simp; omega) hb2
        rw [List.length_take, Nat.min_eq_left (by omega)] at this
        exact this
      have B4 : Hid (∀ V, Below wb.heap.size wb V → V.heap[wr.heap.size]? = some (.cells #[.string l[k].n, .string l[k].c, .slice Ad l[k].ds.length cd, .slice As l[k].ss.length cs] 47 (0, 0))) := Lib.hid fun V hV => (hV.block _ (Lg.lt_heap hblk)).trans hblk
      have EN := Lib.hid (err_name hlt)
      have ET := Lib.hid (err_twice hlt)
      have EA := Lib.hid (err_alone hlt)
      have HK := Lib.hid (HIT.out k hlt HZ.out)
      have NX := Lib.hid (upto_err HZ.out)
      have HBW := Lib.hid hbw
      have hltb := Lg.lt_heap hblk
      clear hcs c1 c2 c3 hd hs hbb hbw hblk FK
      generalize errF l k = E at *
      generalize hT : isT (l.take k) l[k].n = T at *
      generalize l[k] = t at *
      generalize hN : nameF t.n = N at *
      generalize hA : alone pathF parseF t = a at *
      clear hN hA
      by_cases hn : N = 0
      · subst hn
        have FT2 := Lib.hid (FB.out T rfl)
        have EA2 : Hid (T = false → E = a) := Lib.hid (EA.out rfl)
        have ET2 : Hid (T = true → E = 16) := Lib.hid (ET.out rfl)
        clear EA ET EN
        have b0 := Lg.cell_at (B4.out wb (Below.refl _ _)) 0
        have hneb : wr.heap.size ≠ wb.heap.size := by omega
        have hneb' : wb.heap.size ≠ wr.heap.size := by omega
        go_upto_region 9 with (go_at_call 37; (with_reducible refine (PN.out _).mono ?_); rintro e w' ⟨rfl, rfl⟩)
        rw [← eW]
        clear eW
        go_cut [6, 7, 20] from 20 to 46 (fun v6 v7 v20 wx => v7 = .bool T ∧ v20 = .int .i64 k ∧ Below wb.heap.size wb wx)
        case first =>
          go_region_held3 (fun W => W.cell? ⟨wr.heap.size, 0, none⟩ = some (.string t.n)) (go_keep) (first
            | (go_at_call 21; (with_reducible refine (FT2.out _ (Below.refl _ _).drew).mono ?_); rintro e W2 ⟨⟨t2, Ad2, As2, cd2, cs2, rfl, ht2, hd2, hs2⟩, hb2⟩; clear ht2 hd2 hs2; have q2 := Lg.cell_at (B4.out W2 ((Below.refl _ _).drew.trans hb2)) 0; have hz2 : wb.heap.size ≤ W2.heap.size := hb2.size; have hne2 : wr.heap.size ≠ W2.heap.size := by omega)
            | (go_at_call 21; (with_reducible refine (FT2.out _ ((Below.refl _ _).alloc (Nat.le_refl _) _).drew).mono ?_); rintro e W2 ⟨⟨t2, Ad2, As2, cd2, cs2, rfl, ht2, hd2, hs2⟩, hb2⟩; clear ht2 hd2 hs2; have hbA : Below wb.heap.size wb W2 := ((Below.refl _ _).alloc (Nat.le_refl _) _).drew.trans (hb2.mono (by simp)); have q2 := Lg.cell_at (B4.out W2 hbA) 0; have hzz : W2.heap[wb.heap.size]? = some (.cells #[.string ⟨#[]⟩, .string ⟨#[]⟩, .slice none 0 0, .slice none 0 0] 47 (0, 0)) := (hb2.block _ (by simp)).trans (heap_alloc_new wb _); obtain ⟨z0, z1, z2, z3, y0, y1, y2, y3⟩ := Lg.four hzz; clear hzz))
          all_goals
            (try go_wp2_with (fail))
            go_meet
            first
              | exact ⟨rfl, rfl, (((Below.refl _ _).drew.trans hb2).alloc hz2 _)⟩
              | exact ⟨rfl, rfl, Lg.set4_below hbA (Nat.le_refl _) _ _ _ _⟩
        case rest =>
          obtain ⟨rfl, rfl, hbc⟩ := hcut
          obtain ⟨x0, x1, x2, x3, _, _, _, _⟩ := Lg.four (B4.out wc hbc)
          have HBC := Lib.hid (HBW.out.trans (hbc.mono HBW.out.size))
          have AC := Lib.hid (AL.out wc hbc)
          clear b0 hneb hneb' e1 e2 e3 c0
          cases T
          · have F1 := Lib.hid (EA2.out rfl)
            by_cases ha : a = 0
            · subst ha
              have F := Lib.hid (NX.out F1.out)
              clear NX HK
              go_wp2_with (go_at_call 38; (with_reducible refine (AC.out).mono ?_); rintro e w4 ⟨rfl, hb4⟩)
              go_roundw
              case rel => exact ⟨k + 1, by go_num, by omega, F.out, HBC.out.trans (hb4.mono HBC.out.size)⟩
              case measure => simp [intOf]; omega
            · have g : (a != 0) = true := by simpa using ha
              have F := Lib.hid (HK.out (by rw [F1.out]; exact ha))
              clear ha NX HK
              go_wp2_with (go_at_call 38; (with_reducible refine (AC.out).mono ?_); rintro e w4 ⟨rfl, hb4⟩)
              go_ret
              exact ⟨Lg.ret_int (by rw [F.out, F1.out]), HBC.out.trans (hb4.mono HBC.out.size)⟩
          · have F1 := Lib.hid (ET2.out rfl)
            have F := Lib.hid (HK.out (by rw [F1.out]; decide))
            clear NX HK
            go_wp2_with (fail)
            go_ret
            exact ⟨Lg.ret_int (by rw [F.out, F1.out]), HBC.out⟩
      · have g : (N != 0) = true := by simpa using hn
        have F1 := Lib.hid (EN.out hn)
        have F := Lib.hid (HK.out (by rw [F1.out]; exact hn))
        clear hn
        go_wp2_with (go_at_call 37; (with_reducible refine (PN.out _).mono ?_); rintro e w' ⟨rfl, rfl⟩)
        go_ret
        exact ⟨Lg.ret_int (by rw [F.out, F1.out]), by rw [← eW]; exact HBW.out⟩
    · obtain rfl : k = l.length := by omega
      have DEP : Hid (∀ t ∈ l, ∀ d ∈ t.ds, isT l d = false → checkF l = 30) := Lib.hid fun t ht d hd h => check_dep h12 HZ.out ht hd h
      have CE : Hid (DepsTo l l.length → checkF l = if (order l).length < l.length then 31 else 0) := Lib.hid fun h => check_end h12 HZ.out h.all
      clear HIT HZ hk
      go_wp2_with (fail)
      go_loopw [49] (fun i wx => ∃ k : Nat, i = .int .i64 k ∧ k ≤ l.length ∧ DepsTo l k ∧ Below w.heap.size w wx) (fun i _ => l.length - (intOf i).toNat)
      case atStart => exact ⟨0, rfl, by omega, DepsTo.zero _, hb⟩
      case round =>
        obtain ⟨k, rfl, hk, hdt, hb⟩ := hrel
        have HD := Lib.hid hdt
        clear hdt
        by_cases hlt : k < l.length
        · have hkI : (k : Int) < (l.length : Int) := by omega
          obtain ⟨ad, rfl, had, hcs⟩ := HR.out.below hb (by omega)
          obtain ⟨Ad, cd, As, cs, c0, c1, c2, c3, hd, hs⟩ := hcs k hlt
          have e1 : wr.cell? ⟨(ad.add (k * 4)).block, (ad.add (k * 4)).off + 1, none⟩ = some (.string l[k].c) := c1
          have e2 : wr.cell? ⟨(ad.add (k * 4)).block, (ad.add (k * 4)).off + 2, none⟩ = some (.slice Ad l[k].ds.length cd) := c2
          have e3 : wr.cell? ⟨(ad.add (k * 4)).block, (ad.add (k * 4)).off + 3, none⟩ = some (.slice As l[k].ss.length cs) := c3
          have SD : Hid (∀ V, Below wr.heap.size wr V → Strs V Ad l[k].ds) := Lib.hid fun V hV => hd.below hV
          have NX := Lib.hid (HD.out.next hlt)
          have DM : Hid (∀ d ∈ l[k].ds, isT l d = false → checkF l = 30) := Lib.hid (DEP.out l[k] (List.getElem_mem hlt))
          have hdl := (FT.out _ (List.getElem_mem hlt)).dl
          clear hcs c1 c2 c3 hd hs
          generalize l[k] = t at *
          obtain ⟨wo, rfl⟩ : ∃ wo : World, wo = wr := ⟨_, rfl⟩
          go_wp2_with (fail)
          go_loopw [56] (fun i wx => ∃ q : Nat, i = .int .i64 q ∧ q ≤ t.ds.length ∧ (∀ d ∈ t.ds.take q, isT l d = true) ∧ Below wo.heap.size wo wx) (fun i _ => t.ds.length - (intOf i).toNat)
          case atStart => exact ⟨0, rfl, by omega, by simp, (Below.refl _ _).alloc (Nat.le_refl _) _⟩
          case round =>
            obtain ⟨q, rfl, hq, htq, hbq⟩ := hrel
            have HQ := Lib.hid htq
            clear htq
            by_cases hqt : q < t.ds.length
            · have hqI : (q : Int) < (t.ds.length : Int) := by omega
              obtain ⟨bd, rfl, _, hc⟩ := (SD.out _ hbq).at_ hqt
              have DQ := Lib.hid (DM.out t.ds[q] (List.getElem_mem hqt))
              have TN := Lib.hid (take_mem (l := []) HQ.out hqt)
              have hbw := hb.trans (hbq.mono hb.size)
              generalize t.ds[q] = d at *
              cases hT : isT l d
              · have F2 := Lib.hid (findB_any (some ad) l c d w wr HR.out hbw (by omega) hT)
                have F := Lib.hid (DQ.out hT)
                clear hT
                go_wp2_with (go_at_call 21; (with_reducible refine (F2.out).mono ?_); rintro e w2 ⟨⟨t2, Ad2, As2, cd2, cs2, rfl, ht2, hd2, hs2⟩, hb2⟩; clear ht2 hd2 hs2)
                go_ret
                exact ⟨Lg.ret_int F.out, (hbw.trans (hb2.mono hbw.size)).alloc (by have := hb2.size; have := hbw.size; omega) _⟩
              · have F2 := Lib.hid (findB_any (some ad) l c d w wr HR.out hbw (by omega) hT)
                have F := Lib.hid (TN.out hT)
                clear hT
                go_wp2_with (go_at_call 21; (with_reducible refine (F2.out).mono ?_); rintro e w2 ⟨⟨t2, Ad2, As2, cd2, cs2, rfl, ht2, hd2, hs2⟩, hb2⟩; clear ht2 hd2 hs2)
                go_roundw
                case rel => exact ⟨q + 1, by go_num, by omega, F.out, (hbq.trans (hb2.mono hbq.size)).alloc (by have := hb2.size; have := hbq.size; omega) _⟩
                case measure => simp [intOf]; omega
            · obtain rfl : q = t.ds.length := by omega
              have F := Lib.hid (NX.out (by have := HQ.out; rwa [List.take_length] at this))
              go_wp2_with (fail)
              go_roundw
              case rel => exact ⟨k + 1, by go_num, by omega, F.out, hb.trans (hbq.mono hb.size)⟩
              case measure => simp [intOf]; omega
        · obtain rfl : k = l.length := by omega
          have SO := Lib.hid (sorted_any A l c wr (HR.out.below hb) hl FT.out)
          by_cases ho : (order l).length < l.length
          · have g : ((order l).length : Int) < (l.length : Int) := by omega
            have F : Hid (checkF l = 31) := Lib.hid (by rw [CE.out HD.out, if_pos ho])
            clear ho CE
            go_wp2_with (go_at_call 39; (with_reducible refine (SO.out).mono ?_); rintro e w4 ⟨⟨A4, c4, rfl, _, _⟩, hb4⟩)
            go_ret
            exact ⟨Lg.ret_int F.out, hb.trans (hb4.mono hb.size)⟩
          · have g : ¬ ((order l).length : Int) < (l.length : Int) := by omega
            have F : Hid (checkF l = 0) := Lib.hid (by rw [CE.out HD.out, if_neg ho])
            clear ho CE
            go_wp2_with (go_at_call 39; (with_reducible refine (SO.out).mono ?_); rintro e w4 ⟨⟨A4, c4, rfl, _, _⟩, hb4⟩)
            go_ret
            exact ⟨Lg.ret_int F.out, hb.trans (hb4.mono hb.size)⟩
end Go.Proofs.YtdidnlkilleljaaGreatDoor.Gr
/- GrTurn, what a claim needs of it (prune.py). -/
namespace Go.Proofs.YtdidnlkilleljaaGreatDoor.Gr
open Go.RowKit
open Lg (Strs tl)
set_option linter.unusedVariables false
set_option maxRecDepth 100000
inductive TRow (w : World) : List Value → List Tg → Prop
  | nil : TRow w [] []
  | cons {t : Tg} {Ad As : Option Addr} {cd cs : Nat} {cells : List Value} {l : List Tg} : Strs w Ad t.ds → Strs w As t.ss → TRow w cells l →
      TRow w (.string t.n :: .string t.c :: .slice Ad t.ds.length cd :: .slice As t.ss.length cs :: cells) (t :: l)
theorem TRow.later {w w' : World} {cells : List Value} {l : List Tg} (h : TRow w cells l) (hb : Below w.heap.size w w') : TRow w' cells l := by
  induction h with
  | nil => exact .nil
  | cons h1 h2 _ ih => exact .cons (h1.below hb) (h2.below hb) ih
theorem TRow.append {w : World} {c1 c2 : List Value} {l1 l2 : List Tg} (h1 : TRow w c1 l1) (h2 : TRow w c2 l2) : TRow w (c1 ++ c2) (l1 ++ l2) := by
  induction h1 with
  | nil => exact h2
  | cons a1 a2 _ ih => exact .cons a1 a2 ih
theorem TRow.len {w : World} {c : List Value} {l : List Tg} (h : TRow w c l) : c.length = l.length * 4 := by
  induction h with
  | nil => rfl
  | cons a1 a2 _ ih => simp only [List.length_cons, ih]; omega
theorem TRow.one {w : World} {c : List Value} {l : List Tg} (h : TRow w c l) : ∀ u ∈ c, u.oneCell' = true := by
  induction h with
  | nil => simp
  | cons a1 a2 _ ih =>
    intro u hu
    simp only [List.mem_cons] at hu
    rcases hu with rfl | rfl | rfl | rfl | hu
    · rfl
    · rfl
    · rfl
    · rfl
    · exact ih u hu
theorem TRow.at_ {w : World} {cells : List Value} {l : List Tg} (h : TRow w cells l) : ∀ {k : Nat} (hk : k < l.length),
    ∃ Ad cd As cs, cells[k * 4]? = some (.string l[k].n) ∧ cells[k * 4 + 1]? = some (.string l[k].c) ∧ cells[k * 4 + 2]? = some (.slice Ad l[k].ds.length cd) ∧ cells[k * 4 + 3]? = some (.slice As l[k].ss.length cs) ∧ Strs w Ad l[k].ds ∧ Strs w As l[k].ss := by
  induction h with
  | nil => intro k hk; simp at hk
  | @cons t Ad As cd cs cells l a1 a2 _ ih =>
    intro k hk
    cases k with
    | zero => exact ⟨Ad, cd, As, cs, rfl, rfl, rfl, rfl, a1, a2⟩
    | succ k =>
      obtain ⟨Ad', cd', As', cs', h1, h2, h3, h4, h5⟩ := ih (k := k) (by simpa using hk)
      refine ⟨Ad', cd', As', cs', ?_, ?_, ?_, ?_, h5⟩
      · rw [show (k + 1) * 4 = k * 4 + 4 by omega]; exact h1
      · rw [show (k + 1) * 4 + 1 = k * 4 + 1 + 4 by omega]; exact h2
      · rw [show (k + 1) * 4 + 2 = k * 4 + 2 + 4 by omega]; exact h3
      · rw [show (k + 1) * 4 + 3 = k * 4 + 3 + 4 by omega]; exact h4
theorem rows_of {w : World} {ad : Addr} : ∀ (l : List Tg) (i : Nat), (∀ k (hk : k < l.length), TgAt w (ad.add ((i + k) * 4)) l[k]) → ∃ cells, TRow w cells l ∧ ∀ j u, cells[j]? = some u → w.cell? (ad.add (i * 4 + j)) = some u
  | [], i, _ => ⟨[], .nil, by simp⟩
  | t :: l, i, h => by
    obtain ⟨cells, h1, h2⟩ := rows_of l (i + 1) (fun k hk => by
      have := h (k + 1) (by simp; omega)
      rw [show i + 1 + k = i + (k + 1) by omega]
      exact this)
    obtain ⟨Ad, cd, As, cs, c0, c1, c2, c3, hd, hs⟩ := h 0 (by simp)
    simp only [Nat.add_zero, List.getElem_cons_zero] at c0 c1 c2 c3 hd hs
    rw [add_of_add] at c1 c2 c3
    refine ⟨_, .cons (Ad := Ad) (As := As) (cd := cd) (cs := cs) hd hs h1, fun j u hu => ?_⟩
    match j, hu with
    | 0, hu => simp at hu; rw [← hu]; exact c0
    | 1, hu => simp at hu; rw [← hu]; exact c1
    | 2, hu => simp at hu; rw [← hu]; exact c2
    | 3, hu => simp at hu; rw [← hu]; exact c3
    | j + 4, hu =>
      simp at hu
      have := h2 j u hu
      rw [show i * 4 + (j + 4) = (i + 1) * 4 + j by omega]; exact this
theorem add0 (ad : Addr) : ad.add 0 = ad := by cases ad; simp [Addr.add]
theorem part_row {w : World} {ad a' : Addr} {l m : List Tg} {i : Nat} (hb : ad.block < w.heap.size) (hc : ∀ k (hk : k < l.length), TgAt w (ad.add (k * 4)) l[k]) (hi : i + m.length ≤ l.length) (hm : ∀ k (hk : k < m.length), m[k] = l[i + k]'(by omega)) (ha : a' = ad.add (i * 4)) :
    ∃ cells, TRow w cells m ∧ Reads w w.heap.size 4 (some a') m.length cells := by
  obtain ⟨cells, h1, h2⟩ := rows_of (w := w) (ad := ad) m i (fun k hk => by rw [hm k hk]; exact hc (i + k) (by omega))
  refine ⟨cells, h1, h1.len, fun _ => ⟨_, rfl, by rw [ha, block_of_add]; exact hb, fun j u hu => ?_⟩⟩
  rw [ha, add_of_add]
  exact h2 j u hu
theorem tgs_of_own {w : World} {B : Nat} {v : Value} {l : List Tg} {cells : List Value} (ho : w.ownsRow B 47 4 v l.length cells) (h : TRow w cells l) : ∃ A c, v = .slice A l.length c ∧ l.length ≤ c ∧ Tgs w A l := by
  have hv : ∃ A c, v = .slice A l.length c ∧ l.length ≤ c := by
    rcases ho.2 with ⟨rfl, h0⟩ | ⟨g, cap, cur, rfl, hB, hg, h1, _⟩
    · exact ⟨none, 0, by rw [h0], by omega⟩
    · exact ⟨_, _, rfl, h1⟩
  obtain ⟨A, c, rfl, hc⟩ := hv
  refine ⟨A, c, rfl, hc, fun hn => ?_⟩
  obtain ⟨ad, rfl, hb, hr⟩ := (Reads.of_own ho).2 hn
  refine ⟨ad, rfl, hb, fun k hk => ?_⟩
  obtain ⟨Ad, cd, As, cs, h0, h1, h2, h3, hd, hs⟩ := h.at_ hk
  refine ⟨Ad, cd, As, cs, hr _ _ h0, ?_, ?_, ?_, hd, hs⟩
  · rw [add_of_add]; exact hr _ _ h1
  · rw [add_of_add]; exact hr _ _ h2
  · rw [add_of_add]; exact hr _ _ h3
theorem infoT : ∃ z, (Tryz.prog.info? 47).map (fun i => (i.zero, i.size, i.bytes)) = some (some z, 4, 80) ∧ z.cells.size = 4 := ⟨.agg #[.string ⟨#[]⟩, .string ⟨#[]⟩, .slice none 0 0, .slice none 0 0], by kernel_rfl, rfl⟩
end Go.Proofs.YtdidnlkilleljaaGreatDoor.Gr
/- GrCame, what a claim needs of it (prune.py). -/
namespace Go.Proofs.YtdidnlkilleljaaGreatDoor.Gr
open Go.RowKit
open Lg (Strs tl)
set_option linter.unusedVariables false
set_option maxRecDepth 100000
def TgCap (w : World) (A : Option Addr) (l : List Tg) : Prop := ∀ ad, A = some ad → ∀ k, k < l.length →
  (∀ A' n c, w.cell? ((ad.add (k * 4)).add 2) = some (.slice A' n c) → n ≤ c) ∧ (∀ A' n c, w.cell? ((ad.add (k * 4)).add 3) = some (.slice A' n c) → n ≤ c)
structure Came (w : World) (A : Option Addr) (l : List Tg) (c : Nat) : Prop where
  at_ : Tgs w A l
  cap : TgCap w A l
  len : l.length ≤ c
  big : l.length ≤ 9223372036854775807
  fit : ∀ t ∈ l, t.n.size ≤ maxLen ∧ t.c.size ≤ maxLen ∧ t.ds.length ≤ maxLen ∧ t.ss.length ≤ maxLen
theorem TgCap.below {w w' : World} {A : Option Addr} {l : List Tg} (h : TgCap w A l) (hr : Tgs w A l) (hb : Below w.heap.size w w') : TgCap w' A l := fun ad e k hk => by
  obtain ⟨ad', e', had, _⟩ := hr (by omega)
  rw [e] at e'; injection e' with e'; subst e'
  have hc : ∀ j, w'.cell? ((ad.add (k * 4)).add j) = w.cell? ((ad.add (k * 4)).add j) := fun j => hb.cell (by rw [block_of_add, block_of_add]; exact had)
  obtain ⟨g2, g3⟩ := h ad e k hk
  exact ⟨fun A' n c h => g2 A' n c ((hc 2).symm.trans h), fun A' n c h => g3 A' n c ((hc 3).symm.trans h)⟩
end Go.Proofs.YtdidnlkilleljaaGreatDoor.Gr
/- GrOpen, what a claim needs of it (prune.py). -/
namespace Go.Proofs.YtdidnlkilleljaaGreatDoor.Gr
open Go.ChangeShapes Go.WideShapes Go.Deep Go.RowKit Go.ChangeMaps
open Lg (Strs tl)
set_option linter.unusedVariables false
set_option maxRecDepth 100000
section
variable {H : Type} {enc : TypeId × Value → H} {W : World}
theorem open_strs {n : Nat} {v : Value} {y : DataW H × List MemPlace} (h : DataW.trod enc Tryz.prog W 0 (fun _ => true) true n 24 [v] = some y) :
    ∃ A ss c, v = .slice A (List.length ss) c ∧ Strs W A ss ∧ ss.length ≤ maxLen ∧ (∀ s ∈ ss, s.size ≤ maxLen) ∧ ss.length ≤ c := by
  rcases open_strings Tryz.underlying24 Tryz.underlying9 (by kernel_rfl) h with ⟨h0, _⟩ | ⟨a, len, cap, ss, hcs, hb, hl, hm, hlen, hx, hc, hs⟩
  · refine ⟨none, [], 0, by injection h0, Reads.none_, by simp, (fun s hs => by cases hs), by simp⟩
  · have hlen' : ss.length = cap := by simpa using hlen
    have hvv : v = .slice (some a) len cap := by injection hcs
    refine ⟨some a, ss.take len, cap, ?_, ⟨by simp, fun h0 => ⟨a, rfl, ?_, fun j u hu => ?_⟩⟩, by simp; omega, fun s h => hs s (List.mem_of_mem_take h), by simp; omega⟩
    · rw [List.length_take, Nat.min_eq_left (by omega)]; exact hvv
    · have hh := lt_of_cell (hc 0 (by simp at h0; omega))
      rw [block_of_add] at hh
      exact hh
    · simp only [List.getElem?_map, Option.map_eq_some_iff] at hu
      obtain ⟨x, hx1, rfl⟩ := hu
      rw [List.getElem?_take] at hx1
      split at hx1
      · obtain ⟨hj, he⟩ := List.getElem?_eq_some_iff.1 hx1
        rw [hc j hj, List.getD_eq_getElem?_getD, hx1]
        rfl
      · cases hx1
def OneAt (W : World) (ad : Addr) (t : Tg) : Prop :=
  TgAt W ad t ∧ (t.n.size ≤ maxLen ∧ t.c.size ≤ maxLen ∧ t.ds.length ≤ maxLen ∧ t.ss.length ≤ maxLen) ∧ (∀ A' n c, W.cell? (ad.add 2) = some (.slice A' n c) → n ≤ c) ∧ (∀ A' n c, W.cell? (ad.add 3) = some (.slice A' n c) → n ≤ c)
theorem open_targets {r : Go.Reach} {b0 : Nat} {v : Value} {d : DataW H} {p : List MemPlace} (hv : Value.okWide Tryz.prog W r b0 39 v) (h : DataW.Trod enc Tryz.prog W 0 (fun _ => true) true 39 v d p) :
    ∃ A l c, v = .slice A (List.length l) c ∧ Came W A l c := by
  obtain ⟨a0, len0, cap0, rfl⟩ := okWide_slice Tryz.underlying39 hv
  obtain ⟨fuel, hf⟩ := h
  rcases open_slice_fields Tryz.underlying39 Tryz.underlying47 (by kernel_rfl) (by kernel_rfl) hf with ⟨h0, _⟩ | ⟨a, len, cap, m, D, Pl, hcs, hb, hl, hm, hmm, hx, hi⟩
  · simp only [Value.cells] at h0
    refine ⟨none, [], 0, by injection h0, Tgs.none_ _ _, fun ad e k hk => absurd hk (by simp), by simp, by decide, (fun t ht => by cases ht)⟩
  · simp only [Value.cells] at hcs
    have hvv : Value.slice a0 len0 cap0 = .slice (some a) len cap := by injection hcs
    have hmc : m = cap := by simpa using hmm
    subst hmc
    have key : ∀ i, i < len → ∃ t : Tg, OneAt W (a.add (i * 4)) t := fun i hil => by
      obtain ⟨ys, n, _, _, _, hj⟩ := hi i (by omega)
      obtain ⟨v0, y0, c0, _, t0⟩ := hj 0 _ rfl
      obtain ⟨v1, y1, c1, _, t1⟩ := hj 1 _ rfl
      obtain ⟨v2, y2, c2, _, t2⟩ := hj 2 _ rfl
      obtain ⟨v3, y3, c3, _, t3⟩ := hj 3 _ rfl
      obtain ⟨s0, e0, _, z0⟩ := DataW.trod_string Tryz.underlying9 t0
      obtain ⟨s1, e1, _, z1⟩ := DataW.trod_string Tryz.underlying9 t1
      obtain ⟨A2, l2, k2, rfl, r2, q2, _, b2⟩ := open_strs t2
      obtain ⟨A3, l3, k3, rfl, r3, q3, _, b3⟩ := open_strs t3
      have g2 : W.cell? ((a.add (i * 4)).add 2) = some (.slice A2 l2.length k2) := by rw [Go.Deep.add_add]; exact c2
      have g3 : W.cell? ((a.add (i * 4)).add 3) = some (.slice A3 l3.length k3) := by rw [Go.Deep.add_add]; exact c3
      refine ⟨⟨s0, s1, l2, l3⟩, ⟨A2, k2, A3, k3, ?_, ?_, g2, g3, r2, r3⟩, ⟨z0, z1, q2, q3⟩, fun A' n c h => ?_, fun A' n c h => ?_⟩
      · have : v0 = .string s0 := by injection e0
        rw [← this]; exact c0
      · have : v1 = .string s1 := by injection e1
        rw [Go.Deep.add_add, ← this]; exact c1
      · rw [g2] at h; injection h with h; injection h with _ h1 h2; omega
      · rw [g3] at h; injection h with h; injection h with _ h1 h2; omega
    obtain ⟨l, hll, hq⟩ := list_of (Q := fun i f => OneAt W (a.add (i * 4)) f) len key
    refine ⟨some a, l, m, by rw [hll]; exact hvv, fun h0 => ⟨a, rfl, ?_, fun k hk => (hq k hk).1⟩, fun ad e k hk => ?_, by rw [hll]; exact hl, by rw [hll]; unfold maxLen at hm; omega, fun f hf => ?_⟩
    · obtain ⟨_, _, _, _, g0, _⟩ := (hq 0 h0).1
      have := lt_of_cell g0
      rw [block_of_add] at this
      exact this
    · injection e with e; subst e
      exact ⟨(hq k hk).2.2.1, (hq k hk).2.2.2⟩
    · obtain ⟨j, hj, rfl⟩ := List.mem_iff_getElem.1 hf
      exact (hq j hj).2.1
end
end Go.Proofs.YtdidnlkilleljaaGreatDoor.Gr
