/- How targets lie in memory; slices.IndexFunc and ContainsFunc over texts and over targets, with whatever predicate. -/
import Derived.Test.YtoofflnaebkigaaDoorLgWords
import Derived.Test.YtoofflnaebkigaaDoorGrSpec
import Derived.Shelf.GgClosure.Gives
namespace Go.Proofs.YtoofflnaebkigaaDoor.Gr
open Go.RowKit
open Lg (Strs tl)
set_option linter.unusedVariables false
set_option maxRecDepth 100000
/-- a target's four cells at an address -/
def TgAt (w : World) (ad : Addr) (t : Tg) : Prop :=
  ∃ Ad cd As cs, w.cell? ad = some (.string t.n) ∧ w.cell? (ad.add 1) = some (.string t.c) ∧ w.cell? (ad.add 2) = some (.slice Ad t.ds.length cd) ∧ w.cell? (ad.add 3) = some (.slice As t.ss.length cs) ∧ Strs w Ad t.ds ∧ Strs w As t.ss
def Tgs (w : World) (A : Option Addr) (l : List Tg) : Prop := 0 < l.length → ∃ ad, A = some ad ∧ ad.block < w.heap.size ∧ ∀ k (h : k < l.length), TgAt w (ad.add (k * 4)) l[k]
theorem TgAt.keep {w w' : World} {ad : Addr} {t : Tg} (hB : ad.block < w.heap.size) (h : TgAt w ad t) (hb : Below w.heap.size w w') : TgAt w' ad t := by
  obtain ⟨Ad, cd, As, cs, h0, h1, h2, h3, h4, h5⟩ := h
  have hk : ∀ j, w'.cell? (ad.add j) = w.cell? (ad.add j) := fun j => hb.cell (by rw [block_of_add]; exact hB)
  exact ⟨Ad, cd, As, cs, (hb.cell hB).trans h0, (hk 1).trans h1, (hk 2).trans h2, (hk 3).trans h3, h4.below hb, h5.below hb⟩
theorem Tgs.below {w w' : World} {A : Option Addr} {l : List Tg} (h : Tgs w A l) (hb : Below w.heap.size w w') : Tgs w' A l := fun hl => by
  obtain ⟨ad, e, h1, h2⟩ := h hl
  exact ⟨ad, e, Nat.lt_of_lt_of_le h1 hb.size, fun k hk => (h2 k hk).keep (by rw [block_of_add]; exact h1) hb⟩
theorem Tgs.none_ (w : World) (A : Option Addr) : Tgs w A [] := fun h => absurd h (by simp)
theorem Tgs.take {w : World} {A : Option Addr} {l : List Tg} (h : Tgs w A l) (k : Nat) : Tgs w A (l.take k) := fun hl => by
  have hl' : 0 < l.length := by simp at hl; omega
  obtain ⟨ad, e, h1, h2⟩ := h hl'
  exact ⟨ad, e, h1, fun j hj => by rw [List.getElem_take]; exact h2 j (by simp at hj; omega)⟩
/-- targets that are not too great -/
structure Fits (t : Tg) : Prop where
  n : t.n.size ≤ 1000000
  c : t.c.size ≤ 1000000
  dl : t.ds.length ≤ 1000
  sl : t.ss.length ≤ 1000
  d : ∀ x ∈ t.ds, x.size ≤ 1000000
  s : ∀ x ∈ t.ss, x.size ≤ 1000000
section
variable {α : Type}
/-- where the first thing stands that is so; -1: there is none -/
def idx (p : α → Bool) (l : List α) : Int :=
  match l.findIdx? p with
  | some i => i
  | none => -1
def NoneTo (p : α → Bool) (l : List α) (k : Nat) : Prop := ∀ j (hj : j < l.length), j < k → p l[j] = false
theorem NoneTo.zero (p : α → Bool) (l : List α) : NoneTo p l 0 := fun j _ h => by omega
theorem NoneTo.next {p : α → Bool} {l : List α} {k : Nat} (hk : k < l.length) (h : NoneTo p l k) (hp : p l[k] = false) : NoneTo p l (k + 1) := fun j hj h1 => by
  rcases Nat.lt_or_ge j k with h2 | h2
  · exact h j hj h2
  · obtain rfl : j = k := by omega
    exact hp
theorem idx_hit {p : α → Bool} {l : List α} {k : Nat} (hk : k < l.length) (h : NoneTo p l k) (hp : p l[k] = true) : idx p l = k := by
  have : l.findIdx? p = some k := by
    rw [List.findIdx?_eq_some_iff_getElem]
    exact ⟨hk, hp, fun j hj => by rw [h j (by omega) hj]; simp⟩
  rw [idx, this]
theorem idx_miss {p : α → Bool} {l : List α} (h : NoneTo p l l.length) : idx p l = -1 := by
  have : l.findIdx? p = none := by
    rw [List.findIdx?_eq_none_iff]
    intro x hx
    obtain ⟨j, hj, rfl⟩ := List.mem_iff_getElem.1 hx
    exact h j hj hj
  rw [idx, this]
theorem idx_any (p : α → Bool) (l : List α) : decide (0 ≤ idx p l) = l.any p := by
  rw [idx]
  cases e : l.findIdx? p with
  | none =>
    rw [List.findIdx?_eq_none_iff] at e
    have : l.any p = false := by rw [List.any_eq_false]; exact fun x hx => by simp [e x hx]
    rw [this]; rfl
  | some i =>
    obtain ⟨hi, hp, _⟩ := List.findIdx?_eq_some_iff_getElem.1 e
    have : l.any p = true := List.any_eq_true.2 ⟨_, List.getElem_mem hi, hp⟩
    rw [this]; simp
theorem idx_cases (p : α → Bool) (l : List α) : (idx p l = -1 ∧ l.find? p = none) ∨ ∃ (k : Nat) (hk : k < l.length), idx p l = k ∧ l.find? p = some l[k] ∧ p l[k] = true ∧ NoneTo p l k := by
  rw [idx]
  cases e : l.findIdx? p with
  | none =>
    rw [List.findIdx?_eq_none_iff] at e
    exact .inl ⟨rfl, List.find?_eq_none.2 fun x hx => by simp [e x hx]⟩
  | some i =>
    obtain ⟨hi, hp, hn⟩ := List.findIdx?_eq_some_iff_getElem.1 e
    refine .inr ⟨i, hi, rfl, ?_, hp, fun j hj h => by simpa using hn j h⟩
    rw [List.find?_eq_some_iff_getElem]
    exact ⟨hp, i, hi, rfl, fun j hj => by simpa using hn j hj⟩
end
/-- texts -/
theorem indexS_any (g : Nat) (lb : Array Value) (eg : ∀ args w, (callFunc g args).run Tryd.prog w = .ok (.enter g args) w) (p : ByteArray → Bool) (A : Option Addr) (l : List ByteArray) (c : Nat) (w : World) (hr : Strs w A l) (hl : l.length ≤ 1000000000)
    (hp : ∀ s ∈ l, ∀ W, Below w.heap.size w W → Calls Tryd.prog g (#[.string s] ++ lb) W fun e w' => e = .returned (.bool (p s)) ∧ Below W.heap.size W w') :
    Calls Tryd.prog 48 #[.slice A l.length c, .func (.func g) #[] lb] w fun e w' => e = .returned (.int .i64 (idx p l)) ∧ Below w.heap.size w w' := by
  have RD : Hid (∀ W, Below w.heap.size w W → Strs W A l) := Lib.hid fun W hW => hr.below hW
  have PR := Lib.hid hp
  clear hr hp
  go_enter Tryd.func48, Tryd.ntmps48
  go_wp2_with (fail)
  go_loopw [8] (fun i W => ∃ k : Nat, i = .int .i64 k ∧ k ≤ l.length ∧ NoneTo p l k ∧ Below w.heap.size w W) (fun i _ => l.length - (intOf i).toNat)
  case atStart => exact ⟨0, rfl, by omega, NoneTo.zero _ _, Below.refl _ _⟩
  case round =>
    obtain ⟨k, rfl, hk, ha, hb⟩ := hrel
    have HA := Lib.hid ha
    clear ha
    by_cases hlt : k < l.length
    · have hkI : (k : Int) < (l.length : Int) := by omega
      obtain ⟨ad, rfl, _, hc⟩ := (RD.out _ hb).at_ hlt
      have AF := Lib.hid (PR.out l[k] (List.getElem_mem hlt) _ hb)
      have NXT := Lib.hid (NoneTo.next hlt HA.out)
      have HIT := Lib.hid (idx_hit hlt HA.out)
      generalize l[k] = s at *
      cases hp : p s
      · rw [hp] at AF
        have F := Lib.hid (NXT.out hp)
        clear hp HIT
        go_wp2_with (go_at_fn g; ((with_reducible refine (AF.out).mono ?_); rintro e w1 ⟨rfl, hb1⟩))
        go_roundw
        case rel => exact ⟨k + 1, by go_num, by omega, F.out, hb.trans (hb1.mono hb.size)⟩
        case measure => simp [intOf]; omega
      · rw [hp] at AF
        have F := Lib.hid (HIT.out hp)
        clear hp NXT
        go_wp2_with (go_at_fn g; ((with_reducible refine (AF.out).mono ?_); rintro e w1 ⟨rfl, hb1⟩))
        go_ret
        exact ⟨Lg.ret_int F.out, hb.trans (hb1.mono hb.size)⟩
    · obtain rfl : k = l.length := by omega
      have F := Lib.hid (idx_miss HA.out)
      go_wp2_with (fail)
      go_ret
      exact ⟨Lg.ret_int F.out, hb⟩
theorem containsS_any (g : Nat) (lb : Array Value) (eg : ∀ args w, (callFunc g args).run Tryd.prog w = .ok (.enter g args) w) (p : ByteArray → Bool) (A : Option Addr) (l : List ByteArray) (c : Nat) (w : World) (hr : Strs w A l) (hl : l.length ≤ 1000000000)
    (hp : ∀ s ∈ l, ∀ W, Below w.heap.size w W → Calls Tryd.prog g (#[.string s] ++ lb) W fun e w' => e = .returned (.bool (p s)) ∧ Below W.heap.size W w') :
    Calls Tryd.prog 36 #[.slice A l.length c, .func (.func g) #[] lb] w fun e w' => e = .returned (.bool (l.any p)) ∧ Below w.heap.size w w' := by
  have IX := Lib.hid (indexS_any g lb eg p A l c w hr hl hp)
  have AN := Lib.hid (idx_any p l)
  clear hr hp
  generalize idx p l = r at *
  go_enter Tryd.func36, Tryd.ntmps36
  go_wp2_with (go_at_call 48; ((with_reducible refine (IX.out).mono ?_); rintro e w1 ⟨rfl, hb⟩))
  go_ret
  exact ⟨Lg.ret_bool AN.out.symm, hb⟩
/-- targets -/
theorem indexT_any (g : Nat) (lb : Array Value) (eg : ∀ args w, (callFunc g args).run Tryd.prog w = .ok (.enter g args) w) (p : Tg → Bool) (A : Option Addr) (l : List Tg) (c : Nat) (w : World) (hr : Tgs w A l) (hl : l.length ≤ 1000000000)
    (hp : ∀ k (hk : k < l.length), ∀ Ad cd As cs W, Below w.heap.size w W → Strs W Ad l[k].ds → Strs W As l[k].ss →
      Calls Tryd.prog g (#[.agg #[.string l[k].n, .string l[k].c, .slice Ad l[k].ds.length cd, .slice As l[k].ss.length cs]] ++ lb) W fun e w' => e = .returned (.bool (p l[k])) ∧ Below W.heap.size W w') :
    Calls Tryd.prog 30 #[.slice A l.length c, .func (.func g) #[] lb] w fun e w' => e = .returned (.int .i64 (idx p l)) ∧ Below w.heap.size w w' := by
  have RD : Hid (∀ W, Below w.heap.size w W → Tgs W A l) := Lib.hid fun W hW => hr.below hW
  have PR := Lib.hid hp
  clear hr hp
  go_enter Tryd.func30, Tryd.ntmps30
  go_wp2_with (fail)
  go_loopw [8] (fun i W => ∃ k : Nat, i = .int .i64 k ∧ k ≤ l.length ∧ NoneTo p l k ∧ Below w.heap.size w W) (fun i _ => l.length - (intOf i).toNat)
  case atStart => exact ⟨0, rfl, by omega, NoneTo.zero _ _, Below.refl _ _⟩
  case round =>
    obtain ⟨k, rfl, hk, ha, hb⟩ := hrel
    have HA := Lib.hid ha
    clear ha
    by_cases hlt : k < l.length
    · have hkI : (k : Int) < (l.length : Int) := by omega
      obtain ⟨ad, rfl, had, hcs⟩ := RD.out _ hb (by omega)
      obtain ⟨Ad, cd, As, cs, c0, c1, c2, c3, hd, hs⟩ := hcs k hlt
      have e1 : wr.cell? ⟨(ad.add (k * 4)).block, (ad.add (k * 4)).off + 1, none⟩ = some (.string l[k].c) := c1
      have e2 : wr.cell? ⟨(ad.add (k * 4)).block, (ad.add (k * 4)).off + 2, none⟩ = some (.slice Ad l[k].ds.length cd) := c2
      have e3 : wr.cell? ⟨(ad.add (k * 4)).block, (ad.add (k * 4)).off + 3, none⟩ = some (.slice As l[k].ss.length cs) := c3
      have AF := Lib.hid (PR.out k hlt Ad cd As cs _ hb hd hs)
      have NXT := Lib.hid (NoneTo.next hlt HA.out)
      have HIT := Lib.hid (idx_hit hlt HA.out)
      clear c1 c2 c3 hd hs hcs
      generalize l[k] = t at *
      cases hp : p t
      · rw [hp] at AF
        have F := Lib.hid (NXT.out hp)
        clear hp HIT
        go_wp2_with (go_at_fn g; ((with_reducible refine (AF.out).mono ?_); rintro e w1 ⟨rfl, hb1⟩))
        go_roundw
        case rel => exact ⟨k + 1, by go_num, by omega, F.out, hb.trans (hb1.mono hb.size)⟩
        case measure => simp [intOf]; omega
      · rw [hp] at AF
        have F := Lib.hid (HIT.out hp)
        clear hp NXT
        go_wp2_with (go_at_fn g; ((with_reducible refine (AF.out).mono ?_); rintro e w1 ⟨rfl, hb1⟩))
        go_ret
        exact ⟨Lg.ret_int F.out, hb.trans (hb1.mono hb.size)⟩
    · obtain rfl : k = l.length := by omega
      have F := Lib.hid (idx_miss HA.out)
      go_wp2_with (fail)
      go_ret
      exact ⟨Lg.ret_int F.out, hb⟩
end Go.Proofs.YtoofflnaebkigaaDoor.Gr
/- The contract of chapter 7's 'few' and 'texts', 'place', 'on': what few lets through is not too great. -/
namespace Go.Proofs.YtoofflnaebkigaaDoor.Gr
open Go.RowKit
open Lg (Strs tl)
set_option linter.unusedVariables false
set_option maxRecDepth 100000
structure Ok7 (t : Tg) : Prop where
  n : t.n.size ≤ 200
  c : t.c.size ≤ 9000
  dl : t.ds.length ≤ 40
  sl : t.ss.length ≤ 60
  d : ∀ x ∈ t.ds, x.size ≤ 200
  s : ∀ x ∈ t.ss, x.size ≤ 200
theorem Ok7.fits {t : Tg} (h : Ok7 t) : Fits t := ⟨by have := h.n; omega, by have := h.c; omega, by have := h.dl; omega, by have := h.sl; omega, fun x hx => by have := h.d x hx; omega, fun x hx => by have := h.s x hx; omega⟩
def FewSays (l : List Tg) (w : World) (e : Ending) (w' : World) : Prop := ∃ b, e = .returned (.bool b) ∧ w = w' ∧ (b = true → l.length ≤ 30 ∧ ∀ t ∈ l, Ok7 t)
theorem FewSays.no (l : List Tg) (w : World) : FewSays l w (.returned (.bool false)) w := ⟨false, rfl, rfl, fun h => by cases h⟩
theorem mem_upto {α : Type} {l : List α} {Q : α → Prop} {k : Nat} (hk : k < l.length) (h : ∀ j (hj : j < l.length), j < k → Q l[j]) (h1 : Q l[k]) : ∀ j (hj : j < l.length), j < k + 1 → Q l[j] := by
  intro j hj hlt
  rcases Nat.lt_or_ge j k with h2 | h2
  · exact h j hj h2
  · obtain rfl : j = k := by omega
    exact h1
theorem mem_all {α : Type} {l : List α} {Q : α → Prop} (h : ∀ j (hj : j < l.length), j < l.length → Q l[j]) : ∀ x ∈ l, Q x := by
  intro x hx
  obtain ⟨j, hj, rfl⟩ := List.mem_iff_getElem.1 hx
  exact h j hj hj
set_option maxHeartbeats 4000000 in
theorem few_any (A : Option Addr) (l : List Tg) (c : Nat) (w : World) (hl : l.length ≤ 9223372036854775807) (hr : Tgs w A l)
    (hsz : ∀ t ∈ l, t.n.size ≤ maxLen ∧ t.c.size ≤ maxLen ∧ t.ds.length ≤ maxLen ∧ t.ss.length ≤ maxLen) :
    Calls Tryd.prog 9 #[.slice A l.length c] w (FewSays l w) := by
  by_cases h1 : l.length ≤ 30
  · have i1 : decide ((30 : Int) < (l.length : Int)) = false := decide_eq_false (by omega)
    have H1 := Lib.hid h1
    go_enter Tryd.func9, Tryd.ntmps9
    go_wp2_with (fail)
    go_loop [3] (fun i => ∃ k : Nat, i = .int .i64 k ∧ k ≤ l.length ∧ ∀ j (hj : j < l.length), j < k → Ok7 l[j]) (fun i => l.length - (intOf i).toNat)
    case atStart => exact ⟨0, rfl, by omega, fun j hj h => by omega⟩
    case round =>
      obtain ⟨k, rfl, hk, hok⟩ := hrel
      have HOK := Lib.hid hok
      clear hok
      by_cases hlt : k < l.length
      · obtain ⟨ad, rfl, had, hcs⟩ := hr (by omega)
        obtain ⟨Ad, cd, As, cs, c0, c1, c2, c3, hd, hs⟩ := hcs k hlt
        have e1 : w.cell? ⟨(ad.add (k * 4)).block, (ad.add (k * 4)).off + 1, none⟩ = some (.string l[k].c) := c1
        have e2 : w.cell? ⟨(ad.add (k * 4)).block, (ad.add (k * 4)).off + 2, none⟩ = some (.slice Ad l[k].ds.length cd) := c2
        have e3 : w.cell? ⟨(ad.add (k * 4)).block, (ad.add (k * 4)).off + 3, none⟩ = some (.slice As l[k].ss.length cs) := c3
        have hkI : (k : Int) < (l.length : Int) := by omega
        have hzz := hsz _ (List.getElem_mem hlt)
        unfold maxLen at hzz
        have MU := Lib.hid (fun (h : Ok7 l[k]) => mem_upto (Q := Ok7) hlt HOK.out h)
        clear c1 c2 c3 hcs HOK
        generalize l[k] = t at *
        by_cases g1 : t.n.size ≤ 200
        · have j1 : decide ((200 : Int) < (t.n.size : Int)) = false := decide_eq_false (by omega)
          by_cases g2 : t.c.size ≤ 9000
          · have j2 : decide ((9000 : Int) < (t.c.size : Int)) = false := decide_eq_false (by omega)
            by_cases g3 : t.ds.length ≤ 40
            · have j3 : decide ((40 : Int) < (t.ds.length : Int)) = false := decide_eq_false (by omega)
              by_cases g4 : t.ss.length ≤ 60
              · have j4 : decide ((60 : Int) < (t.ss.length : Int)) = false := decide_eq_false (by omega)
                go_wp2_with (fail)
                go_loop [4] (fun i => ∃ q : Nat, i = .int .i64 q ∧ q ≤ t.ds.length ∧ ∀ j (hj : j < t.ds.length), j < q → t.ds[j].size ≤ 200) (fun i => t.ds.length - (intOf i).toNat)
                case atStart => exact ⟨0, rfl, by omega, fun j hj h => by omega⟩
                case round =>
                  obtain ⟨q, rfl, hq, hok⟩ := hrel
                  by_cases hqt : q < t.ds.length
                  · obtain ⟨bd, rfl, hbd, hcq⟩ := hd.at_ hqt
                    have hqI : (q : Int) < (t.ds.length : Int) := by omega
                    have MQ := Lib.hid (fun (h : t.ds[q].size ≤ 200) => mem_upto (Q := fun x : ByteArray => x.size ≤ 200) hqt hok h)
                    clear hok
                    generalize t.ds[q] = x at *
                    by_cases gx : x.size ≤ 200
                    · have jx : ¬ (200 : Int) < (x.size : Int) := by omega
                      have GX := Lib.hid gx
                      go_wp2_with (fail)
                      go_round
                      case rel => exact ⟨q + 1, by go_num, by omega, MQ.out GX.out⟩
                      case measure => simp [intOf]; omega
                    · have jx : (200 : Int) < (x.size : Int) := by omega
                      go_wp2_with (fail)
                      go_ret
                      exact FewSays.no l w
                  · obtain rfl : q = t.ds.length := by omega
                    have DOK := Lib.hid (mem_all (l := t.ds) (Q := fun x : ByteArray => x.size ≤ 200) hok)
                    clear hok
                    go_wp2_with (fail)
                    go_loop [5] (fun i => ∃ q : Nat, i = .int .i64 q ∧ q ≤ t.ss.length ∧ ∀ j (hj : j < t.ss.length), j < q → t.ss[j].size ≤ 200) (fun i => t.ss.length - (intOf i).toNat)
                    case atStart => exact ⟨0, rfl, by omega, fun j hj h => by omega⟩
                    case round =>
                      obtain ⟨q, rfl, hq, hok⟩ := hrel
                      by_cases hqt : q < t.ss.length
                      · obtain ⟨bd, rfl, hbd, hcq⟩ := hs.at_ hqt
                        have hqI : (q : Int) < (t.ss.length : Int) := by omega
                        have MQ := Lib.hid (fun (h : t.ss[q].size ≤ 200) => mem_upto (Q := fun x : ByteArray => x.size ≤ 200) hqt hok h)
                        clear hok
                        generalize t.ss[q] = x at *
                        by_cases gx : x.size ≤ 200
                        · have jx : ¬ (200 : Int) < (x.size : Int) := by omega
                          have GX := Lib.hid gx
                          go_wp2_with (fail)
                          go_round
                          case rel => exact ⟨q + 1, by go_num, by omega, MQ.out GX.out⟩
                          case measure => simp [intOf]; omega
                        · have jx : (200 : Int) < (x.size : Int) := by omega
                          go_wp2_with (fail)
                          go_ret
                          exact FewSays.no l w
                      · obtain rfl : q = t.ss.length := by omega
                        have G := Lib.hid (⟨g1, g2, g3, g4, DOK.out, mem_all (l := t.ss) (Q := fun x : ByteArray => x.size ≤ 200) hok⟩ : Ok7 t)
                        clear hok
                        go_wp2_with (fail)
                        go_round
                        case rel => exact ⟨k + 1, by go_num, by omega, MU.out G.out⟩
                        case measure => simp [intOf]; omega
              · have j4 : decide ((60 : Int) < (t.ss.length : Int)) = true := decide_eq_true (by omega)
                go_wp2_with (fail)
                go_ret
                exact FewSays.no l w
            · have j3 : decide ((40 : Int) < (t.ds.length : Int)) = true := decide_eq_true (by omega)
              go_wp2_with (fail)
              go_ret
              exact FewSays.no l w
          · have j2 : decide ((9000 : Int) < (t.c.size : Int)) = true := decide_eq_true (by omega)
            go_wp2_with (fail)
            go_ret
            exact FewSays.no l w
        · have j1 : decide ((200 : Int) < (t.n.size : Int)) = true := decide_eq_true (by omega)
          go_wp2_with (fail)
          go_ret
          exact FewSays.no l w
      · obtain rfl : k = l.length := by omega
        go_wp2_with (fail)
        go_ret
        exact ⟨true, rfl, rfl, fun _ => ⟨H1.out, mem_all HOK.out⟩⟩
  · have i1 : decide ((30 : Int) < (l.length : Int)) = true := decide_eq_true (by omega)
    go_enter Tryd.func9, Tryd.ntmps9
    go_wp2_with (fail)
    go_ret
    exact FewSays.no l w
end Go.Proofs.YtoofflnaebkigaaDoor.Gr
