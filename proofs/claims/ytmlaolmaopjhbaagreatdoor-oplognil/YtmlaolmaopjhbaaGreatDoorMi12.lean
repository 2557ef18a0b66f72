/- Joined by mkmerged.py: GrAlone. -/
import Derived.Test.YtmlaolmaopjhbaaGreatDoorMi11
import Derived.Test.YtmlaolmaopjhbaaGreatDoorMi03
import Derived.Test.YtmlaolmaopjhbaaGreatDoorMi08
import Derived.Deep.RegionHeld3
import Derived.Deep.CutRange
/- GrAlone, what a claim needs of it (prune.py). -/
namespace Go.Proofs.YtmlaolmaopjhbaaGreatDoor.Gr
open Go.RowKit
open Lg (Strs tl)
set_option linter.unusedVariables false
set_option maxRecDepth 100000
def nameF (s : ByteArray) : Int := Lg.nameE (tl s)
def pathF (s : ByteArray) : Int := Lg.pathE (tl s)
def parseF (s : ByteArray) : Int := ((Lg.parse (tl s)).2 : Int)
theorem path_ne (s : ByteArray) : (pathF s != 0) = decide (pathF s ≠ 0) := by
  by_cases h : pathF s = 0 <;> simp [h]
theorem alone1_any (s : ByteArray) (W : World) (hE : Lg.Env W) (hs : s.size ≤ 1000000) :
    Calls Tryz.prog 258 #[.string s] W fun e w' => e = .returned (.bool (decide (pathF s ≠ 0))) ∧ Below W.heap.size W w' := by
  obtain ⟨⟨m, hm⟩, _⟩ := hE
  have PP : Hid (Calls Tryz.prog 220 #[.string s] W fun e w' => e = .returned (.int .i64 (pathF s)) ∧ Below W.heap.size W w') := Lib.hid (Lg.ppath_any s m W (by omega) hm)
  have NE := Lib.hid (path_ne s)
  generalize pathF s = p at *
  clear hm
  go_enter Tryz.func258, Tryz.ntmps258
  go_wp2_with (go_at_call 220; ((with_reducible refine (PP.out).mono ?_); rintro e w1 ⟨rfl, hb⟩))
  go_ret
  exact ⟨Lg.ret_bool NE.out.symm, hb⟩
theorem alone_parse {t : Tg} (h : parseF t.c ≠ 0) : alone pathF parseF t = parseF t.c := if_pos h
theorem alone_big {t : Tg} (h : parseF t.c = 0) (h2 : 12 < t.ds.length ∨ 32 < t.ss.length) : alone pathF parseF t = 15 := by
  rw [alone, if_neg (fun e => e h), if_pos h2]
theorem alone_dup {t : Tg} (h : parseF t.c = 0) (h2 : ¬ (12 < t.ds.length ∨ 32 < t.ss.length)) (h3 : dup t.ds = true ∨ dup t.ss = true) : alone pathF parseF t = 16 := by
  rw [alone, if_neg (fun e => e h), if_neg h2, if_pos h3]
theorem alone_last {t : Tg} (h : parseF t.c = 0) (h2 : ¬ (12 < t.ds.length ∨ 32 < t.ss.length)) (h3 : ¬ (dup t.ds = true ∨ dup t.ss = true)) :
    alone pathF parseF t = if (t.ss.any fun s => decide (pathF s ≠ 0)) = true then 13 else 0 := by
  have : (t.ss.any fun s => decide (pathF s ≠ 0)) = true ↔ ∃ s ∈ t.ss, pathF s ≠ 0 := by simp
  rw [alone, if_neg (fun e => e h), if_neg h2, if_neg h3]
  simp only [this]
theorem parse_err (c : ByteArray) (W : World) (hE : Lg.Env W) (hs : c.size ≤ 1000000) :
    Calls Tryz.prog 256 #[.string c] W fun e w' => (∃ A n k, e = .returned (.tuple #[.slice A n k, .int .i64 (parseF c)])) ∧ Below W.heap.size W w' := by
  refine (Lg.parse_any c W hE hs).mono ?_
  rintro e w' ⟨⟨A, n, k, h1, _, _⟩, hb⟩
  exact ⟨⟨A, n, k, h1⟩, hb⟩
set_option maxHeartbeats 1000000 in
theorem alone_any (t : Tg) (Ad As : Option Addr) (cd cs : Nat) (W : World) (hE : Lg.Env W) (hf : Fits t) (hd : Strs W Ad t.ds) (hs : Strs W As t.ss) :
    Calls Tryz.prog 218 #[.agg #[.string t.n, .string t.c, .slice Ad t.ds.length cd, .slice As t.ss.length cs]] W fun e w' => e = .returned (.int .i64 (alone pathF parseF t)) ∧ Below W.heap.size W w' := by
  obtain ⟨W1, eW⟩ : ∃ W1, W1 = W.alloc (.cells #[.string t.n, .string t.c, .slice Ad t.ds.length cd, .slice As t.ss.length cs] 154) := ⟨_, rfl⟩
  have hb1 : Below W.heap.size W W1 := by rw [eW]; exact (Below.refl _ _).alloc (Nat.le_refl _) _
  have hblk : W1.heap[W.heap.size]? = some (.cells #[.string t.n, .string t.c, .slice Ad t.ds.length cd, .slice As t.ss.length cs] 154 (0, 0)) := by rw [eW]; exact heap_alloc_new W _
  have BX : Hid (∀ V, Below W1.heap.size W1 V → V.cell? ⟨W.heap.size, 2, none⟩ = some (.slice Ad t.ds.length cd) ∧ V.cell? ⟨W.heap.size, 3, none⟩ = some (.slice As t.ss.length cs)) := Lib.hid fun V hV => by
    obtain ⟨_, _, c2, c3, _⟩ := Lg.four ((hV.block _ (Lg.lt_heap hblk)).trans hblk)
    exact ⟨c2, c3⟩
  have HE1 := hE.below hb1
  have PE : Hid (Calls Tryz.prog 256 #[.string t.c] W1 fun e w' => (∃ A n k, e = .returned (.tuple #[.slice A n k, .int .i64 (parseF t.c)])) ∧ Below W1.heap.size W1 w') := Lib.hid (parse_err t.c W1 HE1 hf.c)
  have TD : Hid (∀ V, Below W1.heap.size W1 V → Calls Tryz.prog 257 #[.slice Ad t.ds.length cd] V fun e w' => e = .returned (.bool (dup t.ds)) ∧ Below V.heap.size V w') := Lib.hid fun V hV => twice_any Ad t.ds cd V ((hd.below hb1).below hV) (by have := hf.dl; omega) (fun x hx => by have := hf.d x hx; unfold maxLen; omega)
  have TS : Hid (∀ V, Below W1.heap.size W1 V → Calls Tryz.prog 257 #[.slice As t.ss.length cs] V fun e w' => e = .returned (.bool (dup t.ss)) ∧ Below V.heap.size V w') := Lib.hid fun V hV => twice_any As t.ss cs V ((hs.below hb1).below hV) (by have := hf.sl; omega) (fun x hx => by have := hf.s x hx; unfold maxLen; omega)
  have CF : Hid (∀ V, Below W1.heap.size W1 V → Calls Tryz.prog 98 #[.slice As t.ss.length cs, .func (.func 258) #[] #[]] V fun e w' => e = .returned (.bool (t.ss.any fun s => decide (pathF s ≠ 0))) ∧ Below V.heap.size V w') := Lib.hid fun V hV =>
    containsS_any 258 #[] (enters_of Tryz.func258 (by kernel_rfl) rfl) _ As t.ss cs V ((hs.below hb1).below hV) (by have := hf.sl; omega) (fun s hs2 U hU => alone1_any s U (HE1.below (hV.trans (hU.mono hV.size))) (by have := hf.s s hs2; omega))
  have F1 := Lib.hid (alone_parse (t := t))
  have F2 := Lib.hid (alone_big (t := t))
  have F3 := Lib.hid (alone_dup (t := t))
  have F4 := Lib.hid (alone_last (t := t))
  have hdl := hf.dl
  have hsl := hf.sl
  have HB1 := Lib.hid hb1
  clear hE HE1 hf hd hs hblk hb1
  generalize (t.ss.any fun s => decide (pathF s ≠ 0)) = q3 at *
  generalize hq1 : dup t.ds = q1 at *
  generalize hq2 : dup t.ss = q2 at *
  generalize hp : parseF t.c = p at *
  clear hq1 hq2 hp
  generalize alone pathF parseF t = R at *
  by_cases h1 : p = 0
  · subst h1
    by_cases h2 : 12 < t.ds.length ∨ 32 < t.ss.length
    · have F := Lib.hid (F2.out rfl h2)
      clear F1 F2 F3 F4 TD TS CF
      rcases (show 12 < t.ds.length ∨ (¬ 12 < t.ds.length ∧ 32 < t.ss.length) by omega) with h3 | ⟨h3, h4⟩
      · have g1 : (12 : Int) < (t.ds.length : Int) := by omega
        clear h2
        go_enter Tryz.func218, Tryz.ntmps218
        go_wp2_with (go_at_call 256; rw [← eW]; (with_reducible refine (PE.out).mono ?_); rintro e w2 ⟨⟨A, n, k, rfl⟩, hb2⟩; clear eW; obtain ⟨b2, b3⟩ := BX.out _ hb2)
        go_ret
        exact ⟨Lg.ret_int F.out, HB1.out.trans (hb2.mono HB1.out.size)⟩
      · have g1 : ¬ (12 : Int) < (t.ds.length : Int) := by omega
        have g2 : (32 : Int) < (t.ss.length : Int) := by omega
        clear h2
        go_enter Tryz.func218, Tryz.ntmps218
        go_wp2_with (go_at_call 256; rw [← eW]; (with_reducible refine (PE.out).mono ?_); rintro e w2 ⟨⟨A, n, k, rfl⟩, hb2⟩; clear eW; obtain ⟨b2, b3⟩ := BX.out _ hb2)
        go_ret
        exact ⟨Lg.ret_int F.out, HB1.out.trans (hb2.mono HB1.out.size)⟩
    · have g1 : ¬ (12 : Int) < (t.ds.length : Int) := by omega
      have g2 : ¬ (32 : Int) < (t.ss.length : Int) := by omega
      cases q1
      · cases q2
        · have F := Lib.hid (F4.out rfl h2 (by simp))
          clear F1 F2 F3 F4 h2
          cases q3
          all_goals
            go_enter Tryz.func218, Tryz.ntmps218
            go_wp2_with (first
              | (go_at_call 256; rw [← eW]; (with_reducible refine (PE.out).mono ?_); rintro e w2 ⟨⟨A, n, k, rfl⟩, hb2⟩; clear eW; obtain ⟨b2, b3⟩ := BX.out _ hb2; have T2 := Lib.hid (TD.out _ hb2))
              | (go_at_call 257; (with_reducible refine (T2.out).mono ?_); rintro e w3 ⟨rfl, hb3'⟩; have hb3 := hb2.trans (hb3'.mono hb2.size); obtain ⟨b4, b5⟩ := BX.out _ hb3; have T3 := Lib.hid (TS.out _ hb3); clear T2)
              | (go_at_call 257; (with_reducible refine (T3.out).mono ?_); rintro e w4 ⟨rfl, hb4'⟩; have hb4 := hb3.trans (hb4'.mono hb3.size); obtain ⟨b6, b7⟩ := BX.out _ hb4; have C4 := Lib.hid (CF.out _ hb4))
              | (go_at_call 98; (with_reducible refine (C4.out).mono ?_); rintro e w5 ⟨rfl, hb5'⟩; have hb5 := hb4.trans (hb5'.mono hb4.size)))
            go_ret
            exact ⟨Lg.ret_int F.out, HB1.out.trans (hb5.mono HB1.out.size)⟩
        · have F := Lib.hid (F3.out rfl h2 (.inr rfl))
          clear F1 F2 F3 F4 h2 CF
          go_enter Tryz.func218, Tryz.ntmps218
          go_wp2_with (first
            | (go_at_call 256; rw [← eW]; (with_reducible refine (PE.out).mono ?_); rintro e w2 ⟨⟨A, n, k, rfl⟩, hb2⟩; clear eW; obtain ⟨b2, b3⟩ := BX.out _ hb2; have T2 := Lib.hid (TD.out _ hb2))
            | (go_at_call 257; (with_reducible refine (T2.out).mono ?_); rintro e w3 ⟨rfl, hb3'⟩; have hb3 := hb2.trans (hb3'.mono hb2.size); obtain ⟨b4, b5⟩ := BX.out _ hb3; have T3 := Lib.hid (TS.out _ hb3); clear T2)
            | (go_at_call 257; (with_reducible refine (T3.out).mono ?_); rintro e w4 ⟨rfl, hb4'⟩; have hb4 := hb3.trans (hb4'.mono hb3.size)))
          go_ret
          exact ⟨Lg.ret_int F.out, HB1.out.trans (hb4.mono HB1.out.size)⟩
      · have F := Lib.hid (F3.out rfl h2 (.inl rfl))
        clear F1 F2 F3 F4 h2 CF TS
        go_enter Tryz.func218, Tryz.ntmps218
        go_wp2_with (first
          | (go_at_call 256; rw [← eW]; (with_reducible refine (PE.out).mono ?_); rintro e w2 ⟨⟨A, n, k, rfl⟩, hb2⟩; clear eW; obtain ⟨b2, b3⟩ := BX.out _ hb2; have T2 := Lib.hid (TD.out _ hb2))
          | (go_at_call 257; (with_reducible refine (T2.out).mono ?_); rintro e w3 ⟨rfl, hb3'⟩; have hb3 := hb2.trans (hb3'.mono hb2.size)))
        go_ret
        exact ⟨Lg.ret_int F.out, HB1.out.trans (hb3.mono HB1.out.size)⟩
  · have F := Lib.hid (F1.out h1)
    have g1 : (p != 0) = true := by simpa using h1
    clear F1 F2 F3 F4 h1 CF TD TS
    go_enter Tryz.func218, Tryz.ntmps218
    go_wp2_with (go_at_call 256; rw [← eW]; (with_reducible refine (PE.out).mono ?_); rintro e w2 ⟨⟨A, n, k, rfl⟩, hb2⟩; clear eW)
    go_ret
    exact ⟨Lg.ret_int F.out, HB1.out.trans (hb2.mono HB1.out.size)⟩
end Go.Proofs.YtmlaolmaopjhbaaGreatDoor.Gr
namespace Go.Proofs.YtmlaolmaopjhbaaGreatDoor.Gr
open Go.RowKit
open Lg (Strs tl)
set_option linter.unusedVariables false
set_option maxRecDepth 100000
abbrev checkF (l : List Tg) : Int := check nameF pathF parseF l
abbrev errF (l : List Tg) (k : Nat) : Int := errAt nameF pathF parseF l k
theorem check_hit {l : List Tg} {k : Nat} (h12 : ¬ 12 < l.length) (hk : k < l.length) (h : ∀ j, j < k → errF l j = 0) (he : errF l k ≠ 0) : checkF l = errF l k := by
  have := firstE_hit h he hk
  unfold checkF check
  rw [if_neg h12, if_pos (by rw [this]; exact he), this]
theorem err_name {l : List Tg} {k : Nat} (hk : k < l.length) (h : nameF l[k].n ≠ 0) : errF l k = nameF l[k].n := by
  unfold errF; rw [errAt_at hk, if_pos h]
theorem err_twice {l : List Tg} {k : Nat} (hk : k < l.length) (h : nameF l[k].n = 0) (h2 : isT (l.take k) l[k].n = true) : errF l k = 16 := by
  unfold errF; rw [errAt_at hk, if_neg (fun e => e h), if_pos h2]
theorem err_alone {l : List Tg} {k : Nat} (hk : k < l.length) (h : nameF l[k].n = 0) (h2 : isT (l.take k) l[k].n = false) : errF l k = alone pathF parseF l[k] := by
  unfold errF; rw [errAt_at hk, if_neg (fun e => e h), if_neg (by rw [h2]; simp)]
theorem upto_err {l : List Tg} {k : Nat} (h : ∀ j, j < k → errF l j = 0) (he : errF l k = 0) : ∀ j, j < k + 1 → errF l j = 0 := fun j hj => by
  rcases Nat.lt_or_ge j k with h1 | h1
  · exact h j h1
  · obtain rfl : j = k := by omega
    exact he
theorem check_dep {l : List Tg} (h12 : ¬ 12 < l.length) (hz : ∀ j, j < l.length → errF l j = 0) {t : Tg} (ht : t ∈ l) {d : ByteArray} (hd : d ∈ t.ds) (h : isT l d = false) : checkF l = 30 := by
  unfold checkF check
  have := firstE_none hz
  rw [if_neg h12, if_neg (by rw [this]; simp), if_pos ⟨t, ht, d, hd, h⟩]
theorem check_end {l : List Tg} (h12 : ¬ 12 < l.length) (hz : ∀ j, j < l.length → errF l j = 0) (hd : ∀ t ∈ l, ∀ d ∈ t.ds, isT l d = true) : checkF l = if (order l).length < l.length then 31 else 0 := by
  unfold checkF check
  have := firstE_none hz
  rw [if_neg h12, if_neg (by rw [this]; simp), if_neg]
  rintro ⟨t, ht, d, hd2, h⟩
  rw [hd t ht d hd2] at h; cases h
def DepsTo (l : List Tg) (k : Nat) : Prop := ∀ j (hj : j < l.length), j < k → ∀ d ∈ l[j].ds, isT l d = true
theorem DepsTo.zero (l : List Tg) : DepsTo l 0 := fun j _ h => by omega
theorem DepsTo.next {l : List Tg} {k : Nat} (h : DepsTo l k) (hk : k < l.length) (hd : ∀ d ∈ l[k].ds, isT l d = true) : DepsTo l (k + 1) := fun j hj h1 => by
  rcases Nat.lt_or_ge j k with h2 | h2
  · exact h j hj h2
  · obtain rfl : j = k := by omega
    exact hd
theorem DepsTo.all {l : List Tg} (h : DepsTo l l.length) : ∀ t ∈ l, ∀ d ∈ t.ds, isT l d = true := fun t ht => by
  obtain ⟨j, hj, rfl⟩ := List.mem_iff_getElem.1 ht
  exact h j hj hj
theorem take_mem {l ds : List ByteArray} {P : ByteArray → Prop} {q : Nat} (h : ∀ d ∈ ds.take q, P d) (hq : q < ds.length) (hp : P ds[q]) : ∀ d ∈ ds.take (q + 1), P d := fun d hd => by
  rw [List.take_succ_eq_append_getElem hq] at hd
  rcases List.mem_append.1 hd with hd | hd
  · exact h d hd
  · obtain rfl := List.mem_singleton.1 hd
    exact hp
set_option maxHeartbeats 4000000 in
theorem pcheck_any (A : Option Addr) (l : List Tg) (c : Nat) (w : World) (hE : Lg.Env w) (hr : Tgs w A l) (hl : l.length ≤ 1000) (hlc : l.length ≤ c) (hf : ∀ t ∈ l, Fits t) :
    Calls Tryz.prog 188 #[.slice A l.length c] w fun e w' => e = .returned (.int .i64 (checkF l)) ∧ Below w.heap.size w w' := by
  have HE := Lib.hid hE
  have HR := Lib.hid hr
  have FT := Lib.hid hf
  by_cases h12 : 12 < l.length
  · have g : (12 : Int) < (l.length : Int) := by omega
    have F : Hid (checkF l = 15) := Lib.hid (if_pos h12)
    clear hE hr hf h12
    go_enter Tryz.func188, Tryz.ntmps188
    go_wp2_with (fail)
    go_ret
    exact ⟨Lg.ret_int F.out, Below.refl _ _⟩
  have g12 : ¬ (12 : Int) < (l.length : Int) := by omega
  have HIT : Hid (∀ k, k < l.length → (∀ j, j < k → errF l j = 0) → errF l k ≠ 0 → checkF l = errF l k) := Lib.hid fun k hk h he => check_hit h12 hk h he
  clear hE hr hf
  go_enter Tryz.func188, Tryz.ntmps188
  go_wp2_with (fail)
  go_loopw [20] (fun i wx => ∃ k : Nat, i = .int .i64 k ∧ k ≤ l.length ∧ (∀ j, j < k → errF l j = 0) ∧ Below w.heap.size w wx) (fun i _ => l.length - (intOf i).toNat)
  case atStart => exact ⟨0, rfl, by omega, fun j hj => by omega, Below.refl _ _⟩
  case round =>
    obtain ⟨k, rfl, hk, hz, hb⟩ := hrel
    have HZ := Lib.hid hz
    clear hz
    by_cases hlt : k < l.length
    · have hkI : (k : Int) < (l.length : Int) := by omega
      have hk0 : (0 : Int) ≤ (k : Int) := by omega
      have hkc : (k : Int) ≤ (c : Int) := by omega
      obtain ⟨ad, rfl, had, hcs⟩ := HR.out.below hb (by omega)
      obtain ⟨Ad, cd, As, cs, c0, c1, c2, c3, hd, hs⟩ := hcs k hlt
      have e1 : wr.cell? ⟨(ad.add (k * 4)).block, (ad.add (k * 4)).off + 1, none⟩ = some (.string l[k].c) := c1
      have e2 : wr.cell? ⟨(ad.add (k * 4)).block, (ad.add (k * 4)).off + 2, none⟩ = some (.slice Ad l[k].ds.length cd) := c2
      have e3 : wr.cell? ⟨(ad.add (k * 4)).block, (ad.add (k * 4)).off + 3, none⟩ = some (.slice As l[k].ss.length cs) := c3
      obtain ⟨wb, eW⟩ : ∃ wb, wb = wr.alloc (.cells #[.string l[k].n, .string l[k].c, .slice Ad l[k].ds.length cd, .slice As l[k].ss.length cs] 154) := ⟨_, rfl⟩
      have hbb : Below wr.heap.size wr wb := by rw [eW]; exact (Below.refl _ _).alloc (Nat.le_refl _) _
      have hbw : Below w.heap.size w wb := hb.trans (hbb.mono hb.size)
      have hblk : wb.heap[wr.heap.size]? = some (.cells #[.string l[k].n, .string l[k].c, .slice Ad l[k].ds.length cd, .slice As l[k].ss.length cs] 154 (0, 0)) := by rw [eW]; exact heap_alloc_new wr _
      have FK := FT.out _ (List.getElem_mem hlt)
      have PN : Hid (∀ V, Calls Tryz.prog 187 #[.string l[k].n] V fun e w' => e = .returned (.int .i64 (nameF l[k].n)) ∧ V = w') := Lib.hid fun V => Lg.pname_any l[k].n (by have := FK.n; omega) V
      have AL : Hid (∀ V, Below wb.heap.size wb V → Calls Tryz.prog 218 #[.agg #[.string l[k].n, .string l[k].c, .slice Ad l[k].ds.length cd, .slice As l[k].ss.length cs]] V fun e w' => e = .returned (.int .i64 (alone pathF parseF l[k])) ∧ Below V.heap.size V w') := Lib.hid fun V hV =>
        alone_any l[k] Ad As cd cs V (HE.out.below (hbw.trans (hV.mono hbw.size))) FK ((hd.below hbb).below hV) ((hs.below hbb).below hV)
      have FB : Hid (∀ b, isT (l.take k) l[k].n = b → ∀ V, Below wb.heap.size wb V → Calls Tryz.prog 190 #[.slice (some ad) k c, .string l[k].n] V (FindB (l.take k) l[k].n b w V)) := Lib.hid fun b hb2 V hV => by
        have := findB_any (some ad) (l.take k) c l[k].n w V (HR.out.take k) (hbw.trans (hV.mono hbw.size)) (by simp; omega) hb2
        rw [List.length_take, Nat.min_eq_left (by omega)] at this
        exact this
      have B4 : Hid (∀ V, Below wb.heap.size wb V → V.heap[wr.heap.size]? = some (.cells #[.string l[k].n, .string l[k].c, .slice Ad l[k].ds.length cd, .slice As l[k].ss.length cs] 154 (0, 0))) := Lib.hid fun V hV => (hV.block _ (Lg.lt_heap hblk)).trans hblk
      have EN := Lib.hid (err_name hlt)
      have ET := Lib.hid (err_twice hlt)
      have EA := Lib.hid (err_alone hlt)
      have HK := Lib.hid (HIT.out k hlt HZ.out)
      have NX := Lib.hid (upto_err HZ.out)
      have HBW := Lib.hid hbw
      have hltb := Lg.lt_heap hblk
      clear hcs c1 c2 c3 hd hs hbb hbw hblk FK
      generalize errF l k = E at *
      generalize hT : isT (l.take k) l[k].n = T at *
      generalize l[k] = t at *
      generalize hN : nameF t.n = N at *
      generalize hA : alone pathF parseF t = a at *
      clear hN hA
      by_cases hn : N = 0
      · subst hn
        have FT2 := Lib.hid (FB.out T rfl)
        have EA2 : Hid (T = false → E = a) := Lib.hid (EA.out rfl)
        have ET2 : Hid (T = true → E = 16) := Lib.hid (ET.out rfl)
        clear EA ET EN
        have b0 := Lg.cell_at (B4.out wb (Below.refl _ _)) 0
        have hneb : wr.heap.size ≠ wb.heap.size := by omega
        have hneb' : wb.heap.size ≠ wr.heap.size := by omega
        go_upto_region 9 with (go_at_call 187; (with_reducible refine (PN.out _).mono ?_); rintro e w' ⟨rfl, rfl⟩)
        rw [← eW]
        clear eW
        go_cut [6, 7, 20] from 20 to 46 (fun v6 v7 v20 wx => v7 = .bool T ∧ v20 = .int .i64 k ∧ Below wb.heap.size wb wx)
        case first =>
          go_region_held3 (fun W => W.cell? ⟨wr.heap.size, 0, none⟩ = some (.string t.n)) (go_keep) (first
            | (go_at_call 190; (with_reducible refine (FT2.out _ (Below.refl _ _).drew).mono ?_); rintro e W2 ⟨⟨t2, Ad2, As2, cd2, cs2, rfl, ht2, hd2, hs2⟩, hb2⟩; clear ht2 hd2 hs2; have q2 := Lg.cell_at (B4.out W2 ((Below.refl _ _).drew.trans hb2)) 0; have hz2 : wb.heap.size ≤ W2.heap.size := hb2.size; have hne2 : wr.heap.size ≠ W2.heap.size := by omega)
            | (go_at_call 190; (with_reducible refine (FT2.out _ ((Below.refl _ _).alloc (Nat.le_refl _) _).drew).mono ?_); rintro e W2 ⟨⟨t2, Ad2, As2, cd2, cs2, rfl, ht2, hd2, hs2⟩, hb2⟩; clear ht2 hd2 hs2; have hbA : Below wb.heap.size wb W2 := ((Below.refl _ _).alloc (Nat.le_refl _) _).drew.trans (hb2.mono (by simp)); have q2 := Lg.cell_at (B4.out W2 hbA) 0; have hzz : W2.heap[wb.heap.size]? = some (.cells #[.string ⟨#[]⟩, .string ⟨#[]⟩, .slice none 0 0, .slice none 0 0] 154 (0, 0)) := (hb2.block _ (by simp)).trans (heap_alloc_new wb _); obtain ⟨z0, z1, z2, z3, y0, y1, y2, y3⟩ := Lg.four hzz; clear hzz))
          all_goals
            (try go_wp2_with (fail))
            go_meet
            first
              | exact ⟨rfl, rfl, (((Below.refl _ _).drew.trans hb2).alloc hz2 _)⟩
              | exact ⟨rfl, rfl, Lg.set4_below hbA (Nat.le_refl _) _ _ _ _⟩
        case rest =>
          obtain ⟨rfl, rfl, hbc⟩ := hcut
          obtain ⟨x0, x1, x2, x3, _, _, _, _⟩ := Lg.four (B4.out wc hbc)
          have HBC := Lib.hid (HBW.out.trans (hbc.mono HBW.out.size))
          have AC := Lib.hid (AL.out wc hbc)
          clear b0 hneb hneb' e1 e2 e3 c0
          cases T
          · have F1 := Lib.hid (EA2.out rfl)
            by_cases ha : a = 0
            · subst ha
              have F := Lib.hid (NX.out F1.out)
              clear NX HK
              go_wp2_with (go_at_call 218; (with_reducible refine (AC.out).mono ?_); rintro e w4 ⟨rfl, hb4⟩)
              go_roundw
              case rel => exact ⟨k + 1, by go_num, by omega, F.out, HBC.out.trans (hb4.mono HBC.out.size)⟩
              case measure => simp [intOf]; omega
            · have g : (a != 0) = true := by simpa using ha
              have F := Lib.hid (HK.out (by rw [F1.out]; exact ha))
              clear ha NX HK
              go_wp2_with (go_at_call 218; (with_reducible refine (AC.out).mono ?_); rintro e w4 ⟨rfl, hb4⟩)
              go_ret
              exact ⟨Lg.ret_int (by rw [F.out, F1.out]), HBC.out.trans (hb4.mono HBC.out.size)⟩
          · have F1 := Lib.hid (ET2.out rfl)
            have F := Lib.hid (HK.out (by rw [F1.out]; decide))
            clear NX HK
            go_wp2_with (fail)
            go_ret
            exact ⟨Lg.ret_int (by rw [F.out, F1.out]), HBC.out⟩
      · have g : (N != 0) = true := by simpa using hn
        have F1 := Lib.hid (EN.out hn)
        have F := Lib.hid (HK.out (by rw [F1.out]; exact hn))
        clear hn
        go_wp2_with (go_at_call 187; (with_reducible refine (PN.out _).mono ?_); rintro e w' ⟨rfl, rfl⟩)
        go_ret
        exact ⟨Lg.ret_int (by rw [F.out, F1.out]), by rw [← eW]; exact HBW.out⟩
    · obtain rfl : k = l.length := by omega
      have DEP : Hid (∀ t ∈ l, ∀ d ∈ t.ds, isT l d = false → checkF l = 30) := Lib.hid fun t ht d hd h => check_dep h12 HZ.out ht hd h
      have CE : Hid (DepsTo l l.length → checkF l = if (order l).length < l.length then 31 else 0) := Lib.hid fun h => check_end h12 HZ.out h.all
      clear HIT HZ hk
      go_wp2_with (fail)
      go_loopw [49] (fun i wx => ∃ k : Nat, i = .int .i64 k ∧ k ≤ l.length ∧ DepsTo l k ∧ Below w.heap.size w wx) (fun i _ => l.length - (intOf i).toNat)
      case atStart => exact ⟨0, rfl, by omega, DepsTo.zero _, hb⟩
      case round =>
        obtain ⟨k, rfl, hk, hdt, hb⟩ := hrel
        have HD := Lib.hid hdt
        clear hdt
        by_cases hlt : k < l.length
        · have hkI : (k : Int) < (l.length : Int) := by omega
          obtain ⟨ad, rfl, had, hcs⟩ := HR.out.below hb (by omega)
          obtain ⟨Ad, cd, As, cs, c0, c1, c2, c3, hd, hs⟩ := hcs k hlt
          have e1 : wr.cell? ⟨(ad.add (k * 4)).block, (ad.add (k * 4)).off + 1, none⟩ = some (.string l[k].c) := c1
          have e2 : wr.cell? ⟨(ad.add (k * 4)).block, (ad.add (k * 4)).off + 2, none⟩ = some (.slice Ad l[k].ds.length cd) := c2
          have e3 : wr.cell? ⟨(ad.add (k * 4)).block, (ad.add (k * 4)).off + 3, none⟩ = some (.slice As l[k].ss.length cs) := c3
          have SD : Hid (∀ V, Below wr.heap.size wr V → Strs V Ad l[k].ds) := Lib.hid fun V hV => hd.below hV
          have NX := Lib.hid (HD.out.next hlt)
          have DM : Hid (∀ d ∈ l[k].ds, isT l d = false → checkF l = 30) := Lib.hid (DEP.out l[k] (List.getElem_mem hlt))
          have hdl := (FT.out _ (List.getElem_mem hlt)).dl
          clear hcs c1 c2 c3 hd hs
          generalize l[k] = t at *
          obtain ⟨wo, rfl⟩ : ∃ wo : World, wo = wr := ⟨_, rfl⟩
          go_wp2_with (fail)
          go_loopw [56] (fun i wx => ∃ q : Nat, i = .int .i64 q ∧ q ≤ t.ds.length ∧ (∀ d ∈ t.ds.take q, isT l d = true) ∧ Below wo.heap.size wo wx) (fun i _ => t.ds.length - (intOf i).toNat)
          case atStart => exact ⟨0, rfl, by omega, by simp, (Below.refl _ _).alloc (Nat.le_refl _) _⟩
          case round =>
            obtain ⟨q, rfl, hq, htq, hbq⟩ := hrel
            have HQ := Lib.hid htq
            clear htq
            by_cases hqt : q < t.ds.length
            · have hqI : (q : Int) < (t.ds.length : Int) := by omega
              obtain ⟨bd, rfl, _, hc⟩ := (SD.out _ hbq).at_ hqt
              have DQ := Lib.hid (DM.out t.ds[q] (List.getElem_mem hqt))
              have TN := Lib.hid (take_mem (l := []) HQ.out hqt)
              have hbw := hb.trans (hbq.mono hb.size)
              generalize t.ds[q] = d at *
              cases hT : isT l d
              · have F2 := Lib.hid (findB_any (some ad) l c d w wr HR.out hbw (by omega) hT)
                have F := Lib.hid (DQ.out hT)
                clear hT
                go_wp2_with (go_at_call 190; (with_reducible refine (F2.out).mono ?_); rintro e w2 ⟨⟨t2, Ad2, As2, cd2, cs2, rfl, ht2, hd2, hs2⟩, hb2⟩; clear ht2 hd2 hs2)
                go_ret
                exact ⟨Lg.ret_int F.out, (hbw.trans (hb2.mono hbw.size)).alloc (by have := hb2.size; have := hbw.size; omega) _⟩
              · have F2 := Lib.hid (findB_any (some ad) l c d w wr HR.out hbw (by omega) hT)
                have F := Lib.hid (TN.out hT)
                clear hT
                go_wp2_with (go_at_call 190; (with_reducible refine (F2.out).mono ?_); rintro e w2 ⟨⟨t2, Ad2, As2, cd2, cs2, rfl, ht2, hd2, hs2⟩, hb2⟩; clear ht2 hd2 hs2)
                go_roundw
                case rel => exact ⟨q + 1, by go_num, by omega, F.out, (hbq.trans (hb2.mono hbq.size)).alloc (by have := hb2.size; have := hbq.size; omega) _⟩
                case measure => simp [intOf]; omega
            · obtain rfl : q = t.ds.length := by omega
              have F := Lib.hid (NX.out (by have := HQ.out; rwa [List.take_length] at this))
              go_wp2_with (fail)
              go_roundw
              case rel => exact ⟨k + 1, by go_num, by omega, F.out, hb.trans (hbq.mono hb.size)⟩
              case measure => simp [intOf]; omega
        · obtain rfl : k = l.length := by omega
          have SO := Lib.hid (sorted_any A l c wr (HR.out.below hb) hl FT.out)
          by_cases ho : (order l).length < l.length
          · have g : ((order l).length : Int) < (l.length : Int) := by omega
            have F : Hid (checkF l = 31) := Lib.hid (by rw [CE.out HD.out, if_pos ho])
            clear ho CE
            go_wp2_with (go_at_call 219; (with_reducible refine (SO.out).mono ?_); rintro e w4 ⟨⟨A4, c4, rfl, _, _⟩, hb4⟩)
            go_ret
            exact ⟨Lg.ret_int F.out, hb.trans (hb4.mono hb.size)⟩
          · have g : ¬ ((order l).length : Int) < (l.length : Int) := by omega
            have F : Hid (checkF l = 0) := Lib.hid (by rw [CE.out HD.out, if_neg ho])
            clear ho CE
            go_wp2_with (go_at_call 219; (with_reducible refine (SO.out).mono ?_); rintro e w4 ⟨⟨A4, c4, rfl, _, _⟩, hb4⟩)
            go_ret
            exact ⟨Lg.ret_int F.out, hb.trans (hb4.mono hb.size)⟩
end Go.Proofs.YtmlaolmaopjhbaaGreatDoor.Gr
