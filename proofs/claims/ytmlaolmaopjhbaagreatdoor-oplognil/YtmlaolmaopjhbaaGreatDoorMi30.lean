/- Joined by mkmerged.py: CdLays, CdNum, CdSpec, CdScan, CdSheet. -/
import Derived.Shelf.Strconv.ParseIntPublic10
import Derived.Test.YtmlaolmaopjhbaaGreatDoorProg
import Derived.Test.YtmlaolmaopjhbaaGreatDoorMi16
import Derived.Test.YtmlaolmaopjhbaaGreatDoorMi04
import Derived.Test.YtmlaolmaopjhbaaGreatDoorMi23
import Derived.Test.YtmlaolmaopjhbaaGreatDoorMi24
import Derived.Test.YtmlaolmaopjhbaaGreatDoorMi28
/- CdLays, what a claim needs of it (prune.py). -/
namespace Go.Proofs
open Go.Shelf
def Tryz.l181_ren : Go.Shelf.Ren := ⟨fun | 174 => 181 | 247 => 210 | 245 => 211 | 287 => 246 | 279 => 247 | 280 => 248 | 281 => 249 | 282 => 250 | 321 => 279 | 322 => 280 | 316 => 281 | 171 => 153 | 205 => 282 | 243 => 193 | 246 => 212 | 283 => 251 | 284 => 252 | 285 => 253 | 286 => 254 | 129 => 245 | 317 => 283 | 318 => 284 | 319 => 285 | 320 => 286 | 337 => 299 | 338 => 300 | n => n, fun | 9 => 9 | 3 => 3 | 2 => 2 | 75 => 148 | 85 => 214 | 4 => 4 | 167 => 277 | 5 => 5 | 53 => 276 | 175 => 278 | 46 => 239 | 168 => 280 | 37 => 137 | 0 => 0 | 210 => 309 | 21 => 21 | 127 => 200 | 145 => 329 | 143 => 327 | 171 => 283 | 173 => 285 | 212 => 313 | 51 => 251 | 20 => 20 | 213 => 314 | 232 => 334 | 233 => 335 | 80 => 143 | n => n, fun | 15 => 0 | 16 => 1 | 17 => 2 | 18 => 3 | 19 => 4 | n => n⟩
theorem Tryz.l181 : Go.Proofs.LaysC.n174 Tryz.prog Tryz.l181_ren := {
  mixed := by kernel_rfl
  f129 := Tryz.func245.trans (congrArg some (by kernel_rfl))
  f171 := Tryz.func153.trans (congrArg some (by kernel_rfl))
  f174 := Tryz.func181.trans (congrArg some (by kernel_rfl))
  f205 := Tryz.func282.trans (congrArg some (by kernel_rfl))
  f243 := Tryz.func193.trans (congrArg some (by kernel_rfl))
  f245 := Tryz.func211.trans (congrArg some (by kernel_rfl))
  f246 := Tryz.func212.trans (congrArg some (by kernel_rfl))
  f247 := Tryz.func210.trans (congrArg some (by kernel_rfl))
  f279 := Tryz.func247.trans (congrArg some (by kernel_rfl))
  f280 := Tryz.func248.trans (congrArg some (by kernel_rfl))
  f281 := Tryz.func249.trans (congrArg some (by kernel_rfl))
  f282 := Tryz.func250.trans (congrArg some (by kernel_rfl))
  f283 := Tryz.func251.trans (congrArg some (by kernel_rfl))
  f284 := Tryz.func252.trans (congrArg some (by kernel_rfl))
  f285 := Tryz.func253.trans (congrArg some (by kernel_rfl))
  f286 := Tryz.func254.trans (congrArg some (by kernel_rfl))
  f287 := Tryz.func246.trans (congrArg some (by kernel_rfl))
  f316 := Tryz.func281.trans (congrArg some (by kernel_rfl))
  f317 := Tryz.func283.trans (congrArg some (by kernel_rfl))
  f318 := Tryz.func284.trans (congrArg some (by kernel_rfl))
  f319 := Tryz.func285.trans (congrArg some (by kernel_rfl))
  f320 := Tryz.func286.trans (congrArg some (by kernel_rfl))
  f321 := Tryz.func279.trans (congrArg some (by kernel_rfl))
  f322 := Tryz.func280.trans (congrArg some (by kernel_rfl))
  f337 := Tryz.func299.trans (congrArg some (by kernel_rfl))
  f338 := Tryz.func300.trans (congrArg some (by kernel_rfl))
  t0 := Tryz.underlying0
  a0 := Tryz.isAgg0
  z0 := Tryz.sizeOf0
  v0 := Tryz.zeroValue0
  t2 := Tryz.underlying2
  a2 := Tryz.isAgg2
  z2 := Tryz.sizeOf2
  v2 := Tryz.zeroValue2
  t3 := Tryz.underlying3
  a3 := Tryz.isAgg3
  z3 := Tryz.sizeOf3
  v3 := Tryz.zeroValue3
  t4 := Tryz.underlying4
  a4 := Tryz.isAgg4
  z4 := Tryz.sizeOf4
  v4 := Tryz.zeroValue4
  t5 := Tryz.underlying5
  a5 := Tryz.isAgg5
  z5 := Tryz.sizeOf5
  v5 := Tryz.zeroValue5
  t9 := Tryz.underlying9
  a9 := Tryz.isAgg9
  z9 := Tryz.sizeOf9
  v9 := Tryz.zeroValue9
  t20 := Tryz.underlying20
  a20 := Tryz.isAgg20
  z20 := Tryz.sizeOf20
  v20 := Tryz.zeroValue20
  t21 := Tryz.underlying21
  a21 := Tryz.isAgg21
  z21 := Tryz.sizeOf21
  v21 := Tryz.zeroValue21
  t37 := Tryz.underlying137
  a37 := Tryz.isAgg137
  z37 := Tryz.sizeOf137
  v37 := Tryz.zeroValue137
  t46 := Tryz.underlying239
  a46 := Tryz.isAgg239
  z46 := Tryz.sizeOf239
  v46 := Tryz.zeroValue239
  t51 := Tryz.underlying251
  a51 := Tryz.isAgg251
  z51 := Tryz.sizeOf251
  v51 := Tryz.zeroValue251
  t53 := Tryz.underlying276
  a53 := Tryz.isAgg276
  z53 := Tryz.sizeOf276
  v53 := Tryz.zeroValue276
  t75 := Tryz.underlying148
  a75 := Tryz.isAgg148
  z75 := Tryz.sizeOf148
  v75 := Tryz.zeroValue148
  t85 := Tryz.underlying214
  a85 := Tryz.isAgg214
  z85 := Tryz.sizeOf214
  v85 := Tryz.zeroValue214
  t127 := Tryz.underlying200
  a127 := Tryz.isAgg200
  z127 := Tryz.sizeOf200
  v127 := Tryz.zeroValue200
  t143 := Tryz.underlying327
  a143 := Tryz.isAgg327
  z143 := Tryz.sizeOf327
  v143 := Tryz.zeroValue327
  t145 := Tryz.underlying329
  a145 := Tryz.isAgg329
  z145 := Tryz.sizeOf329
  v145 := Tryz.zeroValue329
  t167 := Tryz.underlying277
  a167 := Tryz.isAgg277
  z167 := Tryz.sizeOf277
  v167 := Tryz.zeroValue277
  t168 := Tryz.underlying280
  a168 := Tryz.isAgg280
  z168 := Tryz.sizeOf280
  v168 := Tryz.zeroValue280
  t171 := Tryz.underlying283
  a171 := Tryz.isAgg283
  z171 := Tryz.sizeOf283
  v171 := Tryz.zeroValue283
  t173 := Tryz.underlying285
  a173 := Tryz.isAgg285
  z173 := Tryz.sizeOf285
  v173 := Tryz.zeroValue285
  t175 := Tryz.underlying278
  a175 := Tryz.isAgg278
  z175 := Tryz.sizeOf278
  v175 := Tryz.zeroValue278
  t210 := Tryz.underlying309
  a210 := Tryz.isAgg309
  z210 := Tryz.sizeOf309
  v210 := Tryz.zeroValue309
  t212 := Tryz.underlying313
  a212 := Tryz.isAgg313
  z212 := Tryz.sizeOf313
  v212 := Tryz.zeroValue313
  t213 := Tryz.underlying314
  a213 := Tryz.isAgg314
  z213 := Tryz.sizeOf314
  t232 := Tryz.underlying334
  a232 := Tryz.isAgg334
  z232 := Tryz.sizeOf334
  v232 := Tryz.zeroValue334
  t233 := Tryz.underlying335
  a233 := Tryz.isAgg335
  z233 := Tryz.sizeOf335
  v233 := Tryz.zeroValue335
  g15 := by kernel_rfl
  g16 := by kernel_rfl
  g17 := by kernel_rfl
  g18 := by kernel_rfl
  g19 := by kernel_rfl
  t80 := Tryz.underlying143
  a80 := Tryz.isAgg143
  z80 := Tryz.sizeOf143
  v80 := Tryz.zeroValue143
  i0 := by kernel_rfl
  i2 := by kernel_rfl
  i3 := by kernel_rfl
  i4 := by kernel_rfl
  i5 := by kernel_rfl
  i9 := by kernel_rfl
  i20 := by kernel_rfl
  i21 := by kernel_rfl
  i37 := by kernel_rfl
  i46 := by kernel_rfl
  i51 := by kernel_rfl
  i53 := by kernel_rfl
  i75 := by kernel_rfl
  i80 := by kernel_rfl
  i85 := by kernel_rfl
  i127 := by kernel_rfl
  i143 := by kernel_rfl
  i145 := by kernel_rfl
  i167 := by kernel_rfl
  i168 := by kernel_rfl
  i171 := by kernel_rfl
  i173 := by kernel_rfl
  i175 := by kernel_rfl
  i210 := by kernel_rfl
  i212 := by kernel_rfl
  i232 := by kernel_rfl
  i233 := by kernel_rfl
  m15 := by kernel_rfl
  m16 := by kernel_rfl
  m17 := by kernel_rfl
  m18 := by kernel_rfl
  m19 := by kernel_rfl
  c0 := by kernel_rfl
  c2 := by kernel_rfl
  c3 := by kernel_rfl
  c4 := by kernel_rfl
  c5 := by kernel_rfl
  c9 := by kernel_rfl
  c20 := by kernel_rfl
  c21 := by kernel_rfl
  c37 := by kernel_rfl
  c46 := by kernel_rfl
  c51 := by kernel_rfl
  c53 := by kernel_rfl
  c75 := by kernel_rfl
  c80 := by kernel_rfl
  c85 := by kernel_rfl
  c127 := by kernel_rfl
  c143 := by kernel_rfl
  c145 := by kernel_rfl
  c167 := by kernel_rfl
  c168 := by kernel_rfl
  c171 := by kernel_rfl
  c173 := by kernel_rfl
  c175 := by kernel_rfl
  c210 := by kernel_rfl
  c212 := by kernel_rfl
  c213 := by kernel_rfl
  c232 := by kernel_rfl
  c233 := by kernel_rfl }
end Go.Proofs
/- CdNum, what a claim needs of it (prune.py). -/
namespace Go.Proofs.YtmlaolmaopjhbaaGreatDoor.Cd
open Go.RowKit
open Pk (Rd)
abbrev B := List UInt8
set_option linter.unusedVariables false
set_option maxRecDepth 100000
def numOf (s : B) : Option Int := match Lib.parseIntB 64 s with
  | .ok v => if Lib.itoa v = s then some v else none
  | _ => none
def num (r : Rd) : Int × Rd :=
  if r.text.2.bad ≠ 0 then (0, r.text.2) else match numOf r.text.1 with
  | some v => (v, r.text.2)
  | none => (0, ⟨r.text.2.rest, 11⟩)
theorem grown_of_below {w w' : World} (h : Below w.heap.size w w') (r : Option Nat) : w.grownBy w' r := ⟨h.os, h.tape, h.output, h.size, fun k hk _ => h.block k hk⟩
theorem grown_set {w w' : World} {p : Addr} {b : Nat} (h : w.grownBy w' (some b)) (hp : p.block = b) (v : Value) : w.grownBy (w'.setCell p v) (some b) :=
  ⟨(show _ = w'.os by simp [World.setCell]).trans h.os, (show _ = w'.tape by simp [World.setCell]).trans h.tape, (show _ = w'.output by simp [World.setCell]).trans h.output, by simpa using h.size, fun k hk hne => (Below.heap_setCell _ _ _ _ (fun e => hne (by rw [e, hp]))).trans (h.block k hk hne)⟩
theorem parse_any (s : ByteArray) (hs : s.size ≤ 1000000000) (w : World) (hE : Lg.Env w) :
    Calls Tryz.prog 181 #[.string s, .int .i64 10, .int .i64 64] w fun e w' => (∃ n ev, e = .returned (.tuple #[.int .i64 n, ev]) ∧ ((Lib.parseIntB 64 s.data.toList = .ok n ∧ ev = .nilIface) ∨ ((∀ v, Lib.parseIntB 64 s.data.toList ≠ .ok v) ∧ ∃ T p, ev = .iface T p))) ∧ Below w.heap.size w w' := by
  obtain ⟨_, _, _, ⟨t, p, h4⟩, ⟨t', p', h5⟩⟩ := hE
  cases h : Lib.parseIntB 64 s.data.toList with
  | ok v =>
    refine (Any.strconv_ParseInt_10_at64_ok Tryz.l181 s (by omega) v h w).mono ?_
    rintro e w' ⟨he, hw⟩
    refine ⟨⟨v, _, he, .inl ⟨rfl, rfl⟩⟩, ?_⟩
    rcases hw with rfl | ⟨t, rfl⟩
    · exact Below.refl _ _
    · exact Lib.bytesWorld_below _ _ _
  | range =>
    refine (Any.strconv_ParseInt_10_at64_range Tryz.l181 s (by omega) h _ w h5 (.inr ⟨t', p', rfl⟩)).mono ?_
    rintro e w' ⟨N, he, _, _, hb⟩
    exact ⟨⟨_, _, he, .inr ⟨(fun v e => by cases e), _, _, rfl⟩⟩, hb⟩
  | _ =>
    refine (Any.strconv_ParseInt_10_at64_syntax Tryz.l181 s (by omega) h _ w h4 (.inr ⟨t, p, rfl⟩)).mono ?_
    rintro e w' ⟨N, he, _, _, hb⟩
    exact ⟨⟨_, _, he, .inr ⟨(fun v e => by cases e), _, _, rfl⟩⟩, hb⟩
theorem pi_bad {w : World} {b : Nat} {s : B} (EV : Hid (∀ w1, w.grownBy w1 (some b) → Lg.Env w1)) (hsz : (bs s).size ≤ 1000000000) (hp : ∀ v, Lib.parseIntB 64 s ≠ .ok v) :
    Hid (∀ w1, w.grownBy w1 (some b) → Calls Tryz.prog 181 #[.string (bs s), .int .i64 10, .int .i64 64] w1 fun e w' => (∃ n T p, e = .returned (.tuple #[.int .i64 n, .iface T p])) ∧ Below w1.heap.size w1 w') := Lib.hid fun w1 hg => (parse_any (bs s) hsz w1 (EV.out w1 hg)).mono (by
  rintro e w' ⟨⟨n, ev, rfl, h1⟩, hb⟩
  rcases h1 with ⟨h1, rfl⟩ | ⟨h1, T, p, rfl⟩
  · exact absurd h1 (hp n)
  · exact ⟨⟨n, T, p, rfl⟩, hb⟩)
def NumSays (b : Nat) (r : Rd) (w : World) (e : Ending) (w' : World) : Prop := e = .returned (.int .i64 (num r).1) ∧ RdAt w' b (num r).2 ∧ w.grownBy w' (some b)
set_option maxHeartbeats 2000000 in
theorem rnum_any (b : Nat) (r : Rd) (hs : r.rest.length ≤ 1000000000) (w0 w : World) (hE : Lg.Env w0) (h0 : Below w0.heap.size w0 w) (hb : w0.heap.size ≤ b) (h : RdAt w b r) :
    Calls Tryz.prog 136 #[.pointer (some ⟨b, 0, none⟩)] w (NumSays b r w) := by
  have T := Lib.hid (rtext_any b r hs w h)
  have hlt := rtext_lt r
  obtain ⟨s, hsq⟩ : ∃ s, s = r.text.1 := ⟨_, rfl⟩
  obtain ⟨q, hq⟩ : ∃ q, q = r.text.2 := ⟨_, rfl⟩
  rw [← hsq] at hlt
  have F : Hid (num r = if q.bad ≠ 0 then (0, q) else match numOf s with
    | some v => (v, q)
    | none => (0, ⟨q.rest, 11⟩)) := Lib.hid (by rw [hsq, hq]; rfl)
  have hsz : (bs s).size ≤ 1000000000 := by show s.length ≤ _ <;> omega
  rw [← hsq, ← hq] at T
  have EV : Hid (∀ w1, w.grownBy w1 (some b) → Lg.Env w1) := Lib.hid fun w1 hg => hE.below (h0.grown hg h0.size (fun k e => by injection e with e; omega))
  have CE : Hid (∀ w1, RdAt w1 b q → w1.cell? ⟨b, 1, none⟩ = some (.int .i64 q.bad)) := Lib.hid fun w1 h1 => (cell_heap h1 1).trans rfl
  by_cases hbad : q.bad = 0
  · rw [if_neg (by simp [hbad])] at F
    have EV2 : Hid (∀ w1 w2, w.grownBy w1 (some b) → Below w1.heap.size w1 w2 → Lib.TabIs Tryz.prog w2 "internal/strconv.uint64pow10" .u64 Lib.pow10Tab) := Lib.hid fun w1 w2 hg hb2 => ((EV.out w1 hg).below hb2).2.1
    have EN : Hid (∀ w1 w2, RdAt w1 b q → w.grownBy w1 (some b) → Below w1.heap.size w1 w2 → ∀ v, numOf s = some v → NumSays b r w (.returned (.int .i64 v)) w2) := Lib.hid fun w1 w2 h1 h2 h3 v hv => by
      unfold NumSays
      rw [F.out, hv]
      exact ⟨rfl, heap_below h3 (lt_heap h1) h1, h2.trans (grown_of_below h3 _)⟩
    have ER : Hid (∀ w1 w2, RdAt w1 b q → w.grownBy w1 (some b) → Below w1.heap.size w1 w2 → numOf s = none → w2.cell? ⟨b, 1, none⟩ = some (.int .i64 0) ∧ w2.frozen? ⟨b, 1, none⟩ = false ∧ NumSays b r w (.returned (.int .i64 0)) (w2.setCell ⟨b, 1, none⟩ (.int .i64 11))) := Lib.hid fun w1 w2 h1 h2 h3 hv => by
      have h4 : w2.heap[b]? = _ := heap_below h3 (lt_heap h1) h1
      refine ⟨by rw [(cell_heap h4 1)]; simp [hbad], frozen_heap h4 1, ?_⟩
      unfold NumSays
      rw [F.out, hv]
      exact ⟨rfl, (heap_set h4).trans rfl, grown_set (h2.trans (grown_of_below h3 _)) rfl _⟩
    have CE0 : Hid (∀ w1, RdAt w1 b q → w1.cell? ⟨b, 1, none⟩ = some (.int .i64 0)) := Lib.hid fun w1 h1 => by rw [CE.out w1 h1]; simp [hbad]
    cases hp : Lib.parseIntB 64 s with
    | ok v =>
      have hv1 := Lib.parseIntB_bounds hp
      have PI : Hid (∀ w1, w.grownBy w1 (some b) → Calls Tryz.prog 181 #[.string (bs s), .int .i64 10, .int .i64 64] w1 fun e w' => e = .returned (.tuple #[.int .i64 v, .nilIface]) ∧ Below w1.heap.size w1 w') := Lib.hid fun w1 hg => (parse_any (bs s) hsz w1 (EV.out w1 hg)).mono (by
        rintro e w' ⟨⟨n, ev, rfl, h1⟩, hb⟩
        rcases h1 with ⟨h1, rfl⟩ | ⟨h1, _⟩
        · have : v = n := by
            have h2 := hp.symm.trans h1
            injection h2
          subst this
          exact ⟨rfl, hb⟩
        · exact absurd hp (h1 v))
      have FI : Hid (∀ w1 w2, w.grownBy w1 (some b) → Below w1.heap.size w1 w2 → Calls Tryz.prog 182 #[.int .i64 v, .int .i64 10] w2 fun e w' => e = .returned (.string (bs (Lib.itoa v))) ∧ Below w2.heap.size w2 w') := Lib.hid fun w1 w2 hg hb2 => (Tryz.strconv_FormatInt_10 v (by have := hv1.1; omega) (by have := hv1.2; omega) w2 (EV2.out w1 w2 hg hb2)).mono (by
        rintro e w' ⟨rfl, k, os, rfl⟩
        exact ⟨rfl, Lib.below_grow _ _ (Nat.le_refl _) _ _⟩)
      by_cases hi : Lib.itoa v = s
      · have hn : numOf s = some v := by unfold numOf; rw [hp]; simp [hi]
        have EE := Lib.hid (fun w1 w2 h1 h2 h3 => EN.out w1 w2 h1 h2 h3 v hn)
        rw [hi] at FI
        clear F EV h hE h0 hlt hsz hs hbad hsq hq EV2 EN ER CE hp hv1 hi hn
        generalize NumSays b r w = Q at *
        go_enter Tryz.func136, Tryz.ntmps136
        go_wp2_with (first
          | (go_at_call 137; (with_reducible refine (T.out).mono ?_); rintro e w1 ⟨rfl, h1, hg1⟩; have cc := CE0.out w1 h1)
          | (go_at_call 181; (with_reducible refine (PI.out _ hg1).mono ?_); rintro e w2 ⟨rfl, hb2⟩)
          | (go_at_call 182; (with_reducible refine (FI.out _ _ hg1 hb2).mono ?_); rintro e w3 ⟨rfl, hb3⟩))
        exact EE.out w1 w3 h1 hg1 (hb2.trans (hb3.mono hb2.size))
      · have hn : numOf s = none := by unfold numOf; rw [hp]; simp [hi]
        have EE := Lib.hid (fun w1 w2 h1 h2 h3 => ER.out w1 w2 h1 h2 h3 hn)
        have hne : ¬ bs (Lib.itoa v) = bs s := fun e => hi (by have := congrArg tl e; simpa [bs, tl] using this)
        clear F EV h hE h0 hlt hsz hs hbad hsq hq EV2 EN ER CE hp hv1 hi hn
        generalize NumSays b r w = Q at *
        generalize bs (Lib.itoa v) = ss at *
        have hne2 : (ss.toList == (bs s).toList) = false := Lg.s_ne hne
        clear hne
        go_enter Tryz.func136, Tryz.ntmps136
        go_wp2_with (first
          | (go_at_call 137; (with_reducible refine (T.out).mono ?_); rintro e w1 ⟨rfl, h1, hg1⟩; have cc := CE0.out w1 h1)
          | (go_at_call 181; (with_reducible refine (PI.out _ hg1).mono ?_); rintro e w2 ⟨rfl, hb2⟩)
          | (go_at_call 182; (with_reducible refine (FI.out _ _ hg1 hb2).mono ?_); rintro e w3 ⟨rfl, hb3⟩; obtain ⟨x1, x2, x3⟩ := EE.out w1 w3 h1 hg1 (hb2.trans (hb3.mono hb2.size)); have X3 := Lib.hid x3; clear x3))
        exact X3.out
    | range =>
      have hn : numOf s = none := by unfold numOf; rw [hp]
      have PI := pi_bad EV hsz (fun v e => by rw [hp] at e; cases e)
      have EE := Lib.hid (fun w1 w2 h1 h2 h3 => ER.out w1 w2 h1 h2 h3 hn)
      clear F EV h hE h0 hlt hsz hs hbad hsq hq EV2 EN ER CE hp hn
      generalize NumSays b r w = Q at *
      go_enter Tryz.func136, Tryz.ntmps136
      go_wp2_with (first
        | (go_at_call 137; (with_reducible refine (T.out).mono ?_); rintro e w1 ⟨rfl, h1, hg1⟩; have cc := CE0.out w1 h1)
        | (go_at_call 181; (with_reducible refine (PI.out _ hg1).mono ?_); rintro e w2 ⟨⟨n, T1, p1, rfl⟩, hb2⟩; obtain ⟨x1, x2, x3⟩ := EE.out w1 w2 h1 hg1 hb2; have X3 := Lib.hid x3; clear x3))
      exact X3.out
    | _ =>
      have hn : numOf s = none := by unfold numOf; rw [hp]
      have PI := pi_bad EV hsz (fun v e => by rw [hp] at e; cases e)
      have EE := Lib.hid (fun w1 w2 h1 h2 h3 => ER.out w1 w2 h1 h2 h3 hn)
      clear F EV h hE h0 hlt hsz hs hbad hsq hq EV2 EN ER CE hp hn
      generalize NumSays b r w = Q at *
      go_enter Tryz.func136, Tryz.ntmps136
      go_wp2_with (first
        | (go_at_call 137; (with_reducible refine (T.out).mono ?_); rintro e w1 ⟨rfl, h1, hg1⟩; have cc := CE0.out w1 h1)
        | (go_at_call 181; (with_reducible refine (PI.out _ hg1).mono ?_); rintro e w2 ⟨⟨n, T1, p1, rfl⟩, hb2⟩; obtain ⟨x1, x2, x3⟩ := EE.out w1 w2 h1 hg1 hb2; have X3 := Lib.hid x3; clear x3))
      exact X3.out
  · rw [if_pos hbad] at F
    have EN : Hid (∀ w1, RdAt w1 b q → w.grownBy w1 (some b) → NumSays b r w (.returned (.int .i64 0)) w1) := Lib.hid fun w1 h1 h2 => by
      unfold NumSays
      rw [F.out]
      exact ⟨rfl, h1, h2⟩
    have qb : ¬ (q.bad : Int) = 0 := by omega
    clear F EV h hE h0 hlt hsz hs hbad hsq hq
    generalize NumSays b r w = Q at *
    generalize (q.bad : Int) = x at *
    go_enter Tryz.func136, Tryz.ntmps136
    go_wp2_with (go_at_call 137; (with_reducible refine (T.out).mono ?_); rintro e w1 ⟨rfl, h1, hg1⟩; have cc := CE.out w1 h1)
    exact EN.out w1 h1 hg1
end Go.Proofs.YtmlaolmaopjhbaaGreatDoor.Cd
/- CdSpec, what a claim needs of it (prune.py). -/
namespace Go.Proofs.YtmlaolmaopjhbaaGreatDoor.Cd
open Go.RowKit
open Pk (Rd)
open Ops (Rs Ev OkO)
set_option linter.unusedVariables false
set_option maxRecDepth 100000
abbrev Op := Ops.Op
def resB (r : Rs) : B := Pk.text (Lib.itoa r.e) ++ (Pk.text (tl r.at_) ++ Pk.text (tl r.tx)) ++ Pk.text (Pk.list (r.fs.map Fl.b))
def opB (x : Op) : B := Pk.text (tl x.n) ++ Pk.text (Pk.list (x.gr.map Tg.b)) ++ Pk.text (Pk.list (x.sn.map Fl.b)) ++ Pk.text (tl x.go) ++ Pk.text (Lib.itoa x.st) ++ resB x.r
def evB (e : Ev) : B := Pk.text (Lib.itoa e.k) ++ opB e.x
structure Sc where
  rd : Rd
  odd : Bool
def Sc.text (s : Sc) : B × Sc := (s.rd.text.1, ⟨s.rd.text.2, s.odd⟩)
def Sc.num (s : Sc) : Int × Sc := ((Cd.num s.rd).1, ⟨(Cd.num s.rd).2, s.odd⟩)
def Sc.files (s : Sc) : List Fl × Sc := ((Pk.all takesF s.text.1).1.map mkFl, ⟨s.text.2.rd, s.odd || decide ((Pk.all takesF s.text.1).2 ≠ 0)⟩)
def Sc.graph (s : Sc) : List Tg × Sc := ((Pk.all takesT s.text.1).1.map mkTg, ⟨s.text.2.rd, s.odd || decide ((Pk.all takesT s.text.1).2 ≠ 0)⟩)
def Sc.res (s : Sc) : Rs × Sc :=
  (⟨s.num.1, bs s.num.2.text.1, bs s.num.2.text.2.text.1, s.num.2.text.2.text.2.files.1⟩, s.num.2.text.2.text.2.files.2)
def Sc.op (s : Sc) : Op × Sc :=
  (⟨bs s.text.1, s.text.2.graph.1, s.text.2.graph.2.files.1, bs s.text.2.graph.2.files.2.text.1, s.text.2.graph.2.files.2.text.2.num.1, s.text.2.graph.2.files.2.text.2.num.2.res.1⟩, s.text.2.graph.2.files.2.text.2.num.2.res.2)
def Sc.ev (s : Sc) : Ev × Sc := (⟨s.num.1, s.num.2.op.1⟩, s.num.2.op.2)
def zeroE : Ev := ⟨0, Ops.zeroO⟩
def Sc.fin (s : Sc) : Nat := if s.rd.fin ≠ 0 then s.rd.fin else if s.odd = true then 11 else 0
def readEv (data : B) : Ev × Nat := if (Sc.ev ⟨⟨data, 0⟩, false⟩).2.fin ≠ 0 then (zeroE, (Sc.ev ⟨⟨data, 0⟩, false⟩).2.fin) else ((Sc.ev ⟨⟨data, 0⟩, false⟩).1, 0)
theorem numOf_small {v : Int} (h0 : 0 ≤ v) (h1 : v < 10) : numOf (Lib.itoa v) = some v := by
  obtain ⟨n, rfl⟩ := Int.eq_ofNat_of_zero_le h0
  have hn : n < 10 := by omega
  have hi : Lib.itoa (n : Int) = [UInt8.ofNat (48 + n)] := by
    unfold Lib.itoa
    rw [if_neg (by omega), show ((n : Int).toNat) = n from rfl, Pk.dec_small hn]
  unfold numOf
  rw [hi]
  have : n = 0 ∨ n = 1 ∨ n = 2 ∨ n = 3 ∨ n = 4 ∨ n = 5 ∨ n = 6 ∨ n = 7 ∨ n = 8 ∨ n = 9 := by omega
  have hp : Lib.parseIntB 64 [UInt8.ofNat (48 + n)] = .ok (n : Int) := by
    rcases this with rfl | rfl | rfl | rfl | rfl | rfl | rfl | rfl | rfl | rfl <;> kernel_rfl
  rw [hp]
  simp [hi]
theorem itoa_short {v : Int} (h0 : 0 ≤ v) (h1 : v < 10) : (Lib.itoa v).length = 1 := by
  obtain ⟨n, rfl⟩ := Int.eq_ofNat_of_zero_le h0
  unfold Lib.itoa
  rw [if_neg (by omega), show ((n : Int).toNat) = n from rfl, Pk.dec_small (by omega)]
  rfl
theorem num_back {v : Int} (h0 : 0 ≤ v) (h1 : v < 10) (r : B) (o : Bool) : Sc.num ⟨⟨Pk.text (Lib.itoa v) ++ r, 0⟩, o⟩ = (v, ⟨⟨r, 0⟩, o⟩) := by
  have ht := Pk.text_read (s := Lib.itoa v) (by rw [itoa_short h0 h1]; decide) r
  unfold Sc.num Cd.num
  rw [ht]
  simp only [ne_eq, not_true_eq_false, if_false, numOf_small h0 h1]
theorem text_back {s : B} (hs : s.length < 10000000) (r : B) (o : Bool) : Sc.text ⟨⟨Pk.text s ++ r, 0⟩, o⟩ = (s, ⟨⟨r, 0⟩, o⟩) := by
  unfold Sc.text
  rw [Pk.text_read hs r]
theorem filesS_back {l : List Fl} (h1 : l.length ≤ 60) (h2 : ∀ f ∈ l, f.Ok) (hz : (Pk.list (l.map Fl.b)).length < 10000000) (r : B) (o : Bool) : Sc.files ⟨⟨Pk.text (Pk.list (l.map Fl.b)) ++ r, 0⟩, o⟩ = (l, ⟨⟨r, 0⟩, o⟩) := by
  unfold Sc.files
  rw [text_back hz r o, files_back l h1 h2]
  simp only [map_unF]
  simp
theorem graphS_back {l : List Tg} (h1 : l.length ≤ 20) (h2 : ∀ t ∈ l, t.Ok) (hz : (Pk.list (l.map Tg.b)).length < 10000000) (r : B) (o : Bool) : Sc.graph ⟨⟨Pk.text (Pk.list (l.map Tg.b)) ++ r, 0⟩, o⟩ = (l, ⟨⟨r, 0⟩, o⟩) := by
  unfold Sc.graph
  rw [text_back hz r o, graph_back l h1 h2]
  simp only [map_un]
  simp
theorem bs_tl (s : ByteArray) : bs (tl s) = s := rfl
structure OkE (e : Ev) : Prop where
  k : 0 ≤ e.k ∧ e.k < 10
  st : 0 ≤ e.x.st ∧ e.x.st < 10
  re : 0 ≤ e.x.r.e ∧ e.x.r.e < 10
  at_ : e.x.r.at_.size ≤ 100000
  tx : e.x.r.tx.size ≤ 100000
theorem list_lt {l : List B} {n : Nat} (h : (l.flatMap Pk.text).length ≤ n) (hn : n ≤ 9000000) : (Pk.list l).length < 10000000 := by
  show (Pk.text (l.flatMap Pk.text)).length < _
  generalize l.flatMap Pk.text = f at *
  have := Pk.dec_len_le 7 f.length (by omega)
  unfold Pk.text
  simp only [List.length_append, List.length_cons, List.length_nil]
  omega
theorem ev_back {e : Ev} (hx : OkO e.x) (h : OkE e) : readEv (evB e) = (e, 0) := by
  have g1 : (Pk.list (e.x.gr.map Tg.b)).length < 10000000 := list_lt (Tg.flat_ok hx.gl hx.g) (by decide)
  have f1 : (Pk.list (e.x.sn.map Fl.b)).length < 10000000 := list_lt (Fl.flat_ok hx.fl hx.f) (by decide)
  have f2 : (Pk.list (e.x.r.fs.map Fl.b)).length < 10000000 := list_lt (Fl.flat_ok hx.rl hx.r) (by decide)
  have sz : ∀ (s : ByteArray) (n : Nat), s.size ≤ n → n < 10000000 → (tl s).length < 10000000 := fun s n h1 h2 => by
    have := Lib.size_eq s
    show s.data.toList.length < _
    omega
  have e0 : evB e = Pk.text (Lib.itoa e.k) ++ (Pk.text (tl e.x.n) ++ (Pk.text (Pk.list (e.x.gr.map Tg.b)) ++ (Pk.text (Pk.list (e.x.sn.map Fl.b)) ++ (Pk.text (tl e.x.go) ++ (Pk.text (Lib.itoa e.x.st) ++ (Pk.text (Lib.itoa e.x.r.e) ++ (Pk.text (tl e.x.r.at_) ++ (Pk.text (tl e.x.r.tx) ++ (Pk.text (Pk.list (e.x.r.fs.map Fl.b)) ++ []))))))))) := by
    simp [evB, opB, resB]
  have hev : Sc.ev ⟨⟨evB e, 0⟩, false⟩ = (e, ⟨⟨[], 0⟩, false⟩) := by
    rw [e0]
    simp only [Sc.ev, Sc.op, Sc.res, num_back h.k.1 h.k.2, text_back (sz _ _ hx.n (by decide)), graphS_back hx.gl hx.g g1, filesS_back hx.fl hx.f f1, text_back (sz _ _ hx.go (by decide)), num_back h.st.1 h.st.2, num_back h.re.1 h.re.2, text_back (sz _ _ h.at_ (by decide)), text_back (sz _ _ h.tx (by decide)), filesS_back hx.rl hx.r f2, bs_tl]
  unfold readEv
  rw [hev]
  simp [Sc.fin, Rd.fin]
end Go.Proofs.YtmlaolmaopjhbaaGreatDoor.Cd
/- CdScan, what a claim needs of it (prune.py). -/
namespace Go.Proofs.YtmlaolmaopjhbaaGreatDoor.Cd
open Go.RowKit
open Pk (Rd)
open Dk (Kp)
set_option linter.unusedVariables false
set_option maxRecDepth 100000
def SS (b c : Nat) : Nat → Prop := fun k => k = b ∨ k = c
structure ScAt (w : World) (b c : Nat) (s : Sc) : Prop where
  rd : RdAt w b s.rd
  sc : w.heap[c]? = some (.cells #[.pointer (some ⟨b, 0, none⟩), .bool s.odd] 186 (0, 0))
theorem ScAt.ne {w : World} {b c : Nat} {s : Sc} (h : ScAt w b c s) : b ≠ c := fun e => by
  have h1 := h.rd
  unfold RdAt at h1
  rw [e, h.sc] at h1
  injection h1 with h1
  injection h1 with _ h1 _
  exact absurd h1 (by decide)
theorem ScAt.below {w w' : World} {b c : Nat} {s : Sc} (h : ScAt w b c s) (k : Below w.heap.size w w') : ScAt w' b c s := ⟨h.rd.later k, heap_below k (lt_heap h.sc) h.sc⟩
theorem ScAt.grown {w w' : World} {b c : Nat} {s : Sc} {r : Rd} (h : ScAt w b c s) (hr : RdAt w' b r) (hg : w.grownBy w' (some b)) : ScAt w' b c ⟨r, s.odd⟩ := ⟨hr, (hg.block c (lt_heap h.sc) (fun e => h.ne (Option.some.inj e).symm)).trans h.sc⟩
theorem kp_grown {w w' : World} {b c : Nat} (hg : w.grownBy w' (some b)) : Kp (SS b c) w w' := (Kp.refl _ _).grown hg (fun k e => .inl (.inl (Option.some.inj e).symm))
theorem own_kp {S : Nat → Prop} {w w' : World} {B : Nat} {e : TypeId} {size : Nat} {v : Value} {n : Nat} {xs : List Value} (h : w.ownsRow B e size v n xs) (k : Kp S w w') (hS : ∀ i, S i → i < B) : w'.ownsRow B e size v n xs := by
  refine ⟨h.1, ?_⟩
  rcases h.2 with h0 | ⟨g, cap, cur, hv, hg, hc, h1, h2, h3, h4⟩
  · exact .inl h0
  · exact .inr ⟨g, cap, cur, hv, hg, (k.block g (lt_heap hc) (fun e => by have := hS g e; omega)).trans hc, h1, h2, h3, h4⟩
def FRow (w : World) (B : Nat) (v : Value) (l : List Fl) : Prop := ∃ l0, l = l0.map mkFl ∧ w.ownsRow B 131 2 v l0.length (filesC l0)
def GRow (w : World) (B : Nat) (v : Value) (l : List Tg) : Prop := ∃ l0 xs, l = l0.map mkTg ∧ w.ownsRow B 154 4 v l0.length xs ∧ TCells w B l0 xs
theorem FRow.kp {S : Nat → Prop} {w w' : World} {B : Nat} {v : Value} {l : List Fl} (h : FRow w B v l) (k : Kp S w w') (hS : ∀ i, S i → i < B) : FRow w' B v l := by
  obtain ⟨l0, e, h⟩ := h
  exact ⟨l0, e, own_kp h k hS⟩
theorem GRow.kp {S : Nat → Prop} {w w' : World} {B : Nat} {v : Value} {l : List Tg} (h : GRow w B v l) (k : Kp S w w') (hS : ∀ i, S i → i < B) : GRow w' B v l := by
  obtain ⟨l0, xs, e, h, h2⟩ := h
  exact ⟨l0, xs, e, own_kp h k hS, h2.keep (fun v l h => own_kp h k hS)⟩
theorem FRow.base {w : World} {B B' : Nat} {v : Value} {l : List Fl} (h : FRow w B v l) (hB : B' ≤ B) : FRow w B' v l := by
  obtain ⟨l0, e, h⟩ := h
  exact ⟨l0, e, own_base h hB⟩
theorem GRow.base {w : World} {B B' : Nat} {v : Value} {l : List Tg} (h : GRow w B v l) (hB : B' ≤ B) : GRow w B' v l := by
  obtain ⟨l0, xs, e, h, h2⟩ := h
  exact ⟨l0, xs, e, own_base h hB, h2.keep (fun v l h => own_base h hB)⟩
theorem fc_mk : ∀ l : List (List UInt8 × List UInt8), Fs.fc (l.map mkFl) = filesC l
  | [] => rfl
  | a :: l => by
    have := fc_mk l
    unfold Fs.fc filesC at *
    rw [List.map_cons, List.flatMap_cons, List.flatMap_cons, this]
    rfl
theorem FRow.form {w : World} {B : Nat} {v : Value} {l : List Fl} (h : FRow w B v l) : ∃ A c, v = .slice A l.length c ∧ l.length ≤ c ∧ Fs.Fls w A l := by
  obtain ⟨l0, rfl, h⟩ := h
  obtain ⟨A, m, c, rfl⟩ := own_form h
  obtain ⟨rfl, _⟩ := fls_of_own h
  have hf : Fs.Fls w A (l0.map mkFl) := by
    have := Reads.of_own h
    show Reads w w.heap.size 2 A (l0.map mkFl).length (Fs.fc (l0.map mkFl))
    rw [List.length_map, fc_mk]
    exact this
  refine ⟨A, c, by rw [List.length_map], ?_, hf⟩
  rw [List.length_map]
  rcases h.2 with ⟨h1, h2⟩ | ⟨g, cap, cur, h1, _, _, h2, _⟩
  · omega
  · injection h1 with _ _ h1; subst h1; exact h2
theorem GRow.form {w : World} {B : Nat} {v : Value} {l : List Tg} (h : GRow w B v l) : ∃ A c, v = .slice A l.length c ∧ l.length ≤ c ∧ Tgs w w.heap.size A l := by
  obtain ⟨l0, xs, rfl, h, ht⟩ := h
  obtain ⟨A, m, c, rfl⟩ := own_form h
  obtain ⟨rfl, hf⟩ := tgs_of_own h ht
  refine ⟨A, c, by rw [List.length_map], ?_, hf⟩
  rw [List.length_map]
  rcases h.2 with ⟨h1, h2⟩ | ⟨g, cap, cur, h1, _, _, h2, _⟩
  · omega
  · injection h1 with _ _ h1; subst h1; exact h2
structure Cx (w0 w : World) (b c : Nat) (s : Sc) : Prop where
  env : Lg.Env w0
  hb : w0.heap.size ≤ b
  hc : w0.heap.size ≤ c
  hw : Below w0.heap.size w0 w
  at_ : ScAt w b c s
  le : s.rd.rest.length ≤ 100000000
theorem Cx.kp {w0 w w' : World} {b c : Nat} {s s' : Sc} (h : Cx w0 w b c s) (k : Kp (SS b c) w w') (ha : ScAt w' b c s') (hl : s'.rd.rest.length ≤ s.rd.rest.length) : Cx w0 w' b c s' :=
  ⟨h.env, h.hb, h.hc, h.hw.trans (k.below (fun i hi => by rcases hi with rfl | rfl; exact h.hb; exact h.hc) h.hw.size), ha, Nat.le_trans hl h.le⟩
theorem text_le (r : Rd) : r.text.2.rest.length ≤ r.rest.length := rtext_rest r
theorem num_le (r : Rd) : (num r).2.rest.length ≤ r.rest.length := by
  unfold num
  have := rtext_rest r
  split
  · exact this
  · split
    · exact this
    · exact this
def Goes (w0 w : World) (b c : Nat) (s' : Sc) (w' : World) : Prop := Cx w0 w' b c s' ∧ Kp (SS b c) w w'
theorem sctext_any (w0 w : World) (b c : Nat) (s : Sc) (h : Cx w0 w b c s) :
    Calls Tryz.prog 137 #[.pointer (some ⟨b, 0, none⟩)] w fun e w' => e = .returned (.string (bs s.text.1)) ∧ Goes w0 w b c s.text.2 w' :=
  (rtext_any b s.rd (by have := h.le; omega) w h.at_.rd).mono (by
    rintro e w' ⟨rfl, hr, hg⟩
    exact ⟨rfl, h.kp (kp_grown hg) (h.at_.grown hr hg) (text_le _), kp_grown hg⟩)
theorem scnum_any (w0 w : World) (b c : Nat) (s : Sc) (h : Cx w0 w b c s) :
    Calls Tryz.prog 136 #[.pointer (some ⟨b, 0, none⟩)] w fun e w' => e = .returned (.int .i64 s.num.1) ∧ Goes w0 w b c s.num.2 w' :=
  (rnum_any b s.rd (by have := h.le; omega) w0 w h.env h.hw h.hb h.at_.rd).mono (by
    rintro e w' ⟨rfl, hr, hg⟩
    exact ⟨rfl, h.kp (kp_grown hg) (h.at_.grown hr hg) (num_le _), kp_grown hg⟩)
end Go.Proofs.YtmlaolmaopjhbaaGreatDoor.Cd
/- CdSheet, what a claim needs of it (prune.py). -/
namespace Go.Proofs.YtmlaolmaopjhbaaGreatDoor.Cd
open Go.RowKit
set_option linter.unusedVariables false
set_option maxRecDepth 100000
theorem liesSheet : liesAt Tryz.prog Tryz.prog.depth 141 (2 / Tryz.prog.cellsOf 141) 0 139 1 = true := by kernel_rfl
set_option maxHeartbeats 1000000 in
theorem scheck_fresh (b : Nat) (w : World) (h0 : w.cell? ⟨b, 0, none⟩ = some (.pointer none)) (hsh : w.shape? b = some (141, 2)) (hfz : w.frozen? ⟨b, 0, none⟩ = false) :
    Calls Tryz.prog 158 #[.pointer (some ⟨b, 0, none⟩)] w fun e w' => e = .returned (.tuple #[]) ∧ w' = w.setCell ⟨b, 0, none⟩ (.pointer (some ⟨b, 0, none⟩)) := by
  obtain ⟨j, hj, hjs⟩ := Option.map_eq_some_iff.1 sizeBuilder
  go_enter Tryz.func158, Tryz.ntmps158
  go_wp2
  rw [Lib.run_to_unsafe w ⟨b, 0, none⟩ Tryz.underlying136 Tryz.underlying227 hj (by rw [hjs]; decide) hsh (Nat.zero_lt_succ 1)]
  simp only [Result.andThen]
  rw [Oper.upon_value]
  go_wp2
  rw [run_callFunc_extern Tryz.func195 (by kernel_rfl) (by kernel_rfl) (by kernel_rfl) (e := Extern.AbiNoEscape.same) (by kernel_rfl)]
  rw [Lib.run_noEscape]
  simp only [Result.andThen]
  rw [Oper.upon_value]
  go_wp2
  rw [Lib.run_from_unsafe w ⟨b, 0, none⟩ Tryz.underlying227 Tryz.underlying136 hj hsh liesSheet]
  simp only [Result.andThen]
  rw [Oper.upon_value]
  go_wp2
  go_end0
  exact ⟨rfl, rfl⟩
abbrev ShAt (B b : Nat) (l : List UInt8) (w : World) : Prop := Lib.IsBuilder 141 5 B b (Lib.byteCells l) w
def KU (b : Nat) (w w' : World) : Prop := ∀ k, k < w.heap.size → k ≠ b → (∀ cs fr, w.heap[k]? ≠ some (.cells cs 5 fr)) → w'.heap[k]? = w.heap[k]?
theorem KU.trans {b : Nat} {w w1 w2 : World} (h : KU b w w1) (k : KU b w1 w2) (hs : w.heap.size ≤ w1.heap.size) : KU b w w2 := fun i h1 h2 h3 => by
  have h4 := h i h1 h2 h3
  exact (k i (by omega) h2 (fun cs fr => by rw [h4]; exact h3 cs fr)).trans h4
theorem KU.of_below {b : Nat} {w w' : World} (h : Below w.heap.size w w') : KU b w w' := fun i h1 _ _ => h.block i h1
theorem KU.setCell {b : Nat} {w w' : World} (h : KU b w w') {p : Addr} (hp : p.block = b) (v : Value) : KU b w (w'.setCell p v) := fun i h1 h2 h3 => (Below.heap_setCell _ _ _ _ (fun e => h2 (by rw [e, hp]))).trans (h i h1 h2 h3)
theorem KU.freeze {b g n : Nat} {w : World} {cs : Array Value} {fr : Nat × Nat} (hg : w.heap[g]? = some (.cells cs 5 fr)) : KU b w (w.drew.freeze ⟨g, 0, none⟩ n) := fun i h1 h2 h3 => by
  have hne : i ≠ g := fun e => h3 _ _ (by rw [e]; exact hg)
  unfold World.freeze
  split
  · rfl
  · show (Array.modify w.heap g _)[i]? = _
    rw [Array.getElem?_modify, if_neg (fun e => hne e.symm)]
theorem scheck_any (B b : Nat) (bs : List Value) (w : World) (h : Lib.IsBuilder 141 5 B b bs w) :
    Calls Tryz.prog 158 #[.pointer (some ⟨b, 0, none⟩)] w fun e w' => e = .returned (.tuple #[]) ∧ (Lib.BuilderAt 141 5 B b (.pointer (some ⟨b, 0, none⟩)) bs w' ∧ Below B w w' ∧ KU b w w') := by
  rcases h with h | h
  · refine (scheck_fresh b w h.cell0 h.shape h.frozen0).mono ?_
    rintro e w' ⟨rfl, rfl⟩
    exact ⟨rfl, h.used _, (Below.refl B w).setCell (p := ⟨b, 0, none⟩) h.1 _, KU.setCell (b := b) (p := ⟨b, 0, none⟩) (fun _ _ _ _ => rfl) rfl _⟩
  · refine (copyCheck_used b w h.cell0).mono ?_
    rintro e w' ⟨rfl, rfl⟩
    exact ⟨rfl, h, Below.refl B _, fun _ _ _ _ => rfl⟩
set_option maxHeartbeats 2000000 in
theorem swrite_any (B b : Nat) (l : List UInt8) (S : ByteArray) (w : World) (h : ShAt B b l w) (hlen : l.length + S.size ≤ 140737488355328) (hBw : B ≤ w.heap.size) :
    Calls Tryz.prog 100 #[.pointer (some ⟨b, 0, none⟩), .string S] w fun e w' => e = .returned (.tuple #[.int .i64 S.size, .nilIface]) ∧ ShAt B b (l ++ S.data.toList) w' ∧ Below B w w' ∧ KU b w w' := by
  have hS : (S.size : Int) ≤ 140737488355328 := by omega
  go_enter Tryz.func100, Tryz.ntmps100
  go_upto_region 2 with (go_at_call 158; ((with_reducible refine (scheck_any B b _ _ h).mono ?_); rintro e w1 ⟨rfl, h1, hb1, hk1⟩))
  obtain ⟨hB, v, hbk, hown, hne⟩ := h1
  rw [show (Lib.byteCells l).length = l.length by simp [Lib.byteCells]] at hown
  have c0 : w1.cell? ⟨b, 0, none⟩ = some (.pointer (some ⟨b, 0, none⟩)) := by rw [Lib.cell_of_heap hbk]; rfl
  have c1 : w1.cell? ⟨b, 1, none⟩ = some v := by rw [Lib.cell_of_heap hbk]; rfl
  have hs1 : B ≤ w1.heap.size := Nat.le_trans hBw hb1.size
  have hlt : b < w1.heap.size := lt_heap hbk
  go_wp2_with (at_builtin; refine append_text rfl (.tmp 12) (.tmp 13) 137 9 rfl B 5 Tryz.underlying137 Tryz.underlying9 (by kernel_rfl) v l.length l rfl hown S rfl hlen hs1 hb1 ?_; intro v' w2 hown2 hb2 hoth; have hbk2 := (hoth b hlt (fun e => hne e.symm)).trans hbk; have d1 : w2.cell? ⟨b, 1, none⟩ = some v := (cell_heap hbk2 1).trans rfl; have f1 : w2.frozen? ⟨b, 1, none⟩ = false := frozen_heap hbk2 1; obtain ⟨p, m, c, rfl⟩ := own_form hown2)
  go_ret2
  have hKU : KU b w1 w2 := fun k h1 h2 h3 => hoth k h1 (fun e => by rcases hown.2 with ⟨hv, _⟩ | ⟨g, cap, cur, hv, _, hg, _⟩ <;> rw [hv] at e <;> simp [Value.ownBlock] at e; subst e; exact h3 _ _ hg)
  refine ⟨rfl, Or.inr ?_, ?_, KU.setCell (hk1.trans hKU hb1.size) rfl _⟩
  · refine Lib.BuilderAt.put hB hbk2 ?_ (by decide)
    rw [show (Lib.byteCells (l ++ S.data.toList)).length = l.length + S.size by simp [Lib.byteCells]]
    exact hown2
  · exact hb2.setCell (p := ⟨b, 1, none⟩) hB _
set_option maxHeartbeats 2000000 in
theorem sstring_any (B b : Nat) (l : List UInt8) (w : World) (h : ShAt B b l w) (h0 : l ≠ []) :
    Calls Tryz.prog 96 #[.pointer (some ⟨b, 0, none⟩)] w fun e w' => e = .returned (.string (bs l)) ∧ Below B w w' ∧ KU b w w' := by
  obtain ⟨p, hB, v, hbk, hown, hne⟩ : ∃ p, Lib.BuilderAt 141 5 B b p (Lib.byteCells l) w := by
    rcases h with h | h
    · exact ⟨_, h⟩
    · exact ⟨_, h⟩
  have hl0 : l.length ≠ 0 := by simpa using h0
  rw [Lib.byteCells_length] at hown
  obtain ⟨g, cap, cur, rfl, hbg, hg, hnc, hcm, hcs, htake⟩ : ∃ g cap cur, v = .slice (some ⟨g, 0, none⟩) l.length cap ∧ B ≤ g ∧ w.heap[g]? = some (.cells cur 5 (0, 0)) ∧ l.length ≤ cap ∧ cap ≤ maxLen ∧ cur.size = cap * 1 ∧ cur.toList.take (l.length * 1) = Lib.byteCells l := by
    rcases hown.2 with ⟨_, hz⟩ | ⟨g, cap, cur, hv, r⟩
    · exact absurd hz hl0
    · exact ⟨g, cap, cur, hv, r⟩
  have c1 : w.drew.cell? ⟨b, 1, none⟩ = some (.slice (some ⟨g, 0, none⟩) l.length cap) := by
    have : w.drew.heap[b]? = some (.cells #[p, .slice (some ⟨g, 0, none⟩) l.length cap] 141 (0, 0)) := hbk
    rw [Lib.cell_of_heap this]; rfl
  have hSD : (Builtin.unsafeSliceData_ #[137] 200 #[.slice (some ⟨g, 0, none⟩) l.length cap]).run Tryz.prog w.drew = .ok (.pointer (some ⟨g, 0, none⟩)) w.drew :=
    Lib.run_unsafeSliceData_row _ _ _ _ _ _ (by omega)
  have hUS : (Builtin.unsafeString_ #[200, 3] 9 #[.pointer (some ⟨g, 0, none⟩), .int .i64 l.length]).run Tryz.prog w.drew = .ok (.string ⟨l.toArray⟩) (w.drew.freeze ⟨g, 0, none⟩ l.length) := by
    refine Lib.run_unsafeString_row w.drew 200 3 9 5 (by kernel_rfl) (by kernel_rfl) g cur.size (by have hg' : w.drew.heap[g]? = some (.cells cur 5 (0, 0)) := hg; simp [World.shape?, hg']) l h0 (by omega) (by unfold maxLen at hcm; omega) ?_
    intro j x hx
    have := hown.cells (g := g) rfl j (.int .u8 x.toNat) (by simp [Lib.byteCells, hx])
    exact this
  go_enter Tryz.func96, Tryz.ntmps96
  go_wp2
  go_region
  all_goals (go_wp2; go_ret; exact ⟨rfl, Lib.below_freeze (Below.drew (Below.refl B w)) (p := ⟨g, 0, none⟩) hbg _, KU.freeze hg⟩)
end Go.Proofs.YtmlaolmaopjhbaaGreatDoor.Cd
