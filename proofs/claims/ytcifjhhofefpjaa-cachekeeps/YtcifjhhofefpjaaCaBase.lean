/- How a cache lies in memory, and what stores, new blocks and the map's calls make of it. -/
import Derived.Test.YtcifjhhofefpjaaProg
import Derived.Test.YtcifjhhofefpjaaCaSpec
import Derived.WalkKit
import Derived.Maps.OwnSet
import Derived.Sort.KeysCollected
import Derived.Deep.Draws
namespace Go.Proofs.Ytcifjhhofefpjaa
open Go.RowKit Go.Maps
set_option linter.unusedVariables false
set_option maxRecDepth 100000
namespace Ca
variable {α : Type}
abbrev tl (s : ByteArray) : List UInt8 := s.data.toList
theorem tl_inj {a b : ByteArray} (h : tl a = tl b) : a = b := by
  cases a; cases b
  exact congrArg ByteArray.mk (Array.toList_inj.1 h)
/-- how a pointer in the map reads: by its block -/
def Rp : Value → Option (DataW Unit × List MemPlace)
  | .pointer none => some (.nil, [])
  | .pointer (some a) => if a.off = 0 ∧ a.spot = none then some (.lit (.int .i64 a.block), []) else none
  | _ => none
theorem Rp_none : Rp (.pointer none) = some (.nil, []) := rfl
theorem Rp_mk (b : Nat) : Rp (.pointer (some ⟨b, 0, none⟩)) = some (.lit (.int .i64 b), []) := by simp [Rp]
theorem Rp_lit {v : Value} {b : Nat} {ps : List MemPlace} (h : Rp v = some (.lit (.int .i64 b), ps)) : v = .pointer (some ⟨b, 0, none⟩) := by
  unfold Rp at h
  split at h
  · cases h
  · rename_i a
    split at h
    · rename_i hc
      obtain ⟨bl, of, sp⟩ := a
      simp at hc h
      obtain ⟨rfl, rfl⟩ := hc
      obtain ⟨h1, _⟩ := h
      have : bl = b := by omega
      rw [this]
    · cases h
  · cases h
theorem Rp_nil {v : Value} {ps : List MemPlace} (h : Rp v = some (.nil, ps)) : v = .pointer none := by
  unfold Rp at h
  split at h
  · rfl
  · split at h
    · cases h
    · cases h
  · cases h
theorem kstr : Keyed Try.prog 9 := string_keyed Try.underlying9
theorem kof {s : ByteArray} (hs : s.size ≤ maxLen) : keyOf Try.prog 9 (.string s) = some (.string (tl s)) := WideMaps.keyOf_string_mk Try.underlying9 hs
/-- a map is what its block says -/
theorem own_move {w w' : World} {R : Value → Option (DataW Unit × List MemPlace)} {b n : Nat} {D : DataW Unit} (h : w.ownsMap Try.prog 9 R b n D) (hb : w'.heap[b]? = w.heap[b]?) : w'.ownsMap Try.prog 9 R b n D := by
  obtain ⟨es, cl, h1, h2, h3, h4⟩ := h
  exact ⟨es, cl, hb.trans h1, h2, h3, h4⟩
theorem own_size {w : World} {R : Value → Option (DataW Unit × List MemPlace)} {b n : Nat} {D : DataW Unit} (h : w.ownsMap Try.prog 9 R b n D) : w.ownsMap Try.prog 9 R b (Maps.size D) D := by
  obtain ⟨es, cl, h1, h2, h3, rfl⟩ := h
  exact ⟨es, cl, h1, h2, by rw [size_eq, length_sorted]; simp, rfl⟩
theorem own_obj {w : World} {R : Value → Option (DataW Unit × List MemPlace)} {b n : Nat} {D : DataW Unit} (h : w.ownsMap Try.prog 9 R b n D) : ∃ es cl, w.heap[b]? = some (.map es cl) := by
  obtain ⟨es, cl, h1, _⟩ := h
  exact ⟨es, cl, h1⟩
/-- THE CACHE AT c, its map at m: the things E -/
structure CaE (enc : α → Value) (TC TT : TypeId) (w : World) (B c m most t clock : Nat) (D : DataW Unit) (E : List (En α)) : Prop where
  hdr : w.heap[c]? = some (.cells #[.int .i64 most, .int .i64 clock, .map (some m)] TC (0, 0))
  map : w.ownsMap Try.prog 9 Rp m E.length D
  size : Maps.size D = E.length
  has : ∀ k : ByteArray, Maps.has D (.string (tl k)) = true ↔ ∃ e ∈ E, e.k = k
  at_ : ∀ e ∈ E, ∀ z, D.atKey (.string (tl e.k)) z = .lit (.int .i64 e.b)
  things : ∀ e ∈ E, w.heap[e.b]? = some (.cells #[enc e.v, .int .i64 e.p, .int .i64 e.s] TT (0, 0))
  rising : E.Pairwise (fun x y => x.s < y.s)
  since : ∀ e ∈ E, e.s ≤ clock
  apart : E.Pairwise (fun x y => x.k ≠ y.k)
  clk : clock ≤ t
  pins : ∀ e ∈ E, e.p ≤ t
  lens : ∀ e ∈ E, e.k.size ≤ maxLen
  bc : B ≤ c
  bm : B ≤ m
  be : ∀ e ∈ E, B ≤ e.b
theorem heap_lt {w : World} {b : Nat} {o : Obj} (h : w.heap[b]? = some o) : b < w.heap.size := (Array.getElem?_eq_some_iff.1 h).1
/-- only block b has turned: it is now o -/
def Upd (w w' : World) (b : Nat) (o : Obj) : Prop := w'.heap[b]? = some o ∧ ∀ j, j < w.heap.size → j ≠ b → w'.heap[j]? = w.heap[j]?
theorem Upd.setCell {w : World} {b : Nat} {cs : Array Value} {T : TypeId} (h : w.heap[b]? = some (.cells cs T (0, 0))) (i : Nat) (u : Value) : Upd w (w.setCell ⟨b, i, none⟩ u) b (.cells (cs.setIfInBounds i u) T (0, 0)) := by
  refine ⟨?_, fun j hj hne => Below.heap_setCell w _ u j hne⟩
  simp [World.setCell, Array.getElem?_modify, h]
theorem Upd.more {w w' w'' : World} {b : Nat} {o o' : Obj} (h : Upd w w' b o) (hs : w.heap.size ≤ w'.heap.size) (k : Upd w' w'' b o') : Upd w w'' b o' :=
  ⟨k.1, fun j hj hne => (k.2 j (by omega) hne).trans (h.2 j hj hne)⟩
theorem cell_at {w : World} {b : Nat} {cs : Array Value} {T : TypeId} (h : w.heap[b]? = some (.cells cs T (0, 0))) (i : Nat) : w.cell? ⟨b, i, none⟩ = cs[i]? := cell_of_row w b i cs T (0, 0) h
theorem free_at {w : World} {b : Nat} {cs : Array Value} {T : TypeId} (h : w.heap[b]? = some (.cells cs T (0, 0))) (i : Nat) : w.frozen? ⟨b, i, none⟩ = false := by simp [World.frozen?, h]
theorem size_setCell (w : World) (p : Addr) (u : Value) : (w.setCell p u).heap.size = w.heap.size := by simp [World.setCell]
section
variable {enc : α → Value} {TC TT : TypeId} {w w' : World} {B c m most t clock : Nat} {D : DataW Unit} {E : List (En α)}
theorem CaE.ne_cm (h : CaE enc TC TT w B c m most t clock D E) : c ≠ m := by
  rintro rfl
  obtain ⟨es, cl, hb⟩ := own_obj h.map
  rw [h.hdr] at hb; cases hb
theorem CaE.ne_ce (h : CaE enc TC TT w B c m most t clock D E) (hT : TC ≠ TT) : ∀ e ∈ E, e.b ≠ c := by
  rintro e he rfl
  have := h.things e he
  rw [h.hdr] at this
  injection this with this
  injection this with _ h2
  exact hT h2
theorem CaE.ne_me (h : CaE enc TC TT w B c m most t clock D E) : ∀ e ∈ E, e.b ≠ m := by
  rintro e he rfl
  obtain ⟨es, cl, hb⟩ := own_obj h.map
  rw [h.things e he] at hb; cases hb
theorem CaE.keep (h : CaE enc TC TT w B c m most t clock D E) (hc : w'.heap[c]? = w.heap[c]?) (hm : w'.heap[m]? = w.heap[m]?) (he : ∀ e ∈ E, w'.heap[e.b]? = w.heap[e.b]?) : CaE enc TC TT w' B c m most t clock D E :=
  { h with hdr := hc.trans h.hdr, map := own_move h.map hm, things := fun e k => (he e k).trans (h.things e k) }
theorem CaE.below (h : CaE enc TC TT w B c m most t clock D E) (k : Below w.heap.size w w') : CaE enc TC TT w' B c m most t clock D E :=
  h.keep (k.block _ (heap_lt h.hdr)) (k.block _ h.map.lt) (fun e he => k.block _ (heap_lt (h.things e he)))
theorem CaE.later (h : CaE enc TC TT w B c m most t clock D E) {t' : Nat} (ht : t ≤ t') : CaE enc TC TT w B c m most t' clock D E :=
  { h with clk := Nat.le_trans h.clk ht, pins := fun e he => Nat.le_trans (h.pins e he) ht }
/-- the clock goes on -/
theorem CaE.tick (h : CaE enc TC TT w B c m most t clock D E) (hT : TC ≠ TT) : CaE enc TC TT (w.setCell ⟨c, 1, none⟩ (.int .i64 ((clock : Int) + 1))) B c m most (t + 1) (clock + 1) D E := by
  have u := Upd.setCell h.hdr 1 (.int .i64 ((clock : Int) + 1))
  exact { h with
    hdr := u.1
    map := own_move h.map (u.2 _ h.map.lt h.ne_cm.symm)
    things := fun e he => (u.2 _ (heap_lt (h.things e he)) (h.ne_ce hT e he)).trans (h.things e he)
    since := fun e he => Nat.le_succ_of_le (h.since e he)
    clk := Nat.succ_le_succ h.clk
    pins := fun e he => Nat.le_succ_of_le (h.pins e he) }
theorem mem_mid {β : Type} {P : β → Prop} {a b : List β} {x y : β} (h : ∀ z ∈ a ++ x :: b, P z) (hy : P y) : ∀ z ∈ a ++ y :: b, P z := by
  intro z hz
  rcases List.mem_append.1 hz with hz | hz
  · exact h z (by simp [hz])
  · rcases List.mem_cons.1 hz with rfl | hz
    · exact hy
    · exact h z (by simp [hz])
theorem mem_end {β : Type} {P : β → Prop} {a b : List β} {x y : β} (h : ∀ z ∈ a ++ x :: b, P z) (hy : P y) : ∀ z ∈ a ++ b ++ [y], P z := by
  intro z hz
  simp only [List.mem_append, List.mem_singleton] at hz
  rcases hz with (hz | hz) | rfl
  · exact h z (by simp [hz])
  · exact h z (by simp [hz])
  · exact hy
theorem pair_mid {β : Type} {R : β → β → Prop} {a b : List β} {x y : β} (h : (a ++ x :: b).Pairwise R) (h1 : ∀ z, R z x → R z y) (h2 : ∀ z, R x z → R y z) : (a ++ y :: b).Pairwise R := by
  rw [List.pairwise_append] at h ⊢
  obtain ⟨ha, hb, hab⟩ := h
  rw [List.pairwise_cons] at hb ⊢
  refine ⟨ha, ⟨fun z hz => h2 z (hb.1 z hz), hb.2⟩, fun z hz u hu => ?_⟩
  rcases List.mem_cons.1 hu with rfl | hu
  · exact h1 z (hab z hz x (by simp))
  · exact hab z hz u (by simp [hu])
theorem pair_drop {β : Type} {R : β → β → Prop} {a b : List β} {x : β} (h : (a ++ x :: b).Pairwise R) : (a ++ b).Pairwise R := by
  rw [List.pairwise_append] at h ⊢
  obtain ⟨ha, hb, hab⟩ := h
  rw [List.pairwise_cons] at hb
  exact ⟨ha, hb.2, fun z hz u hu => hab z hz u (by simp [hu])⟩
theorem pair_end {β : Type} {R : β → β → Prop} {a : List β} {y : β} (h : a.Pairwise R) (hy : ∀ z ∈ a, R z y) : (a ++ [y]).Pairwise R := by
  rw [List.pairwise_append]
  refine ⟨h, by simp, fun z hz u hu => ?_⟩
  rw [List.mem_singleton.1 hu]
  exact hy z hz
theorem apart_of {a b : List (En α)} {x : En α} (h : (a ++ x :: b).Pairwise (fun x y => x.k ≠ y.k)) : (∀ z ∈ a, z.k ≠ x.k) ∧ ∀ z ∈ b, z.k ≠ x.k := by
  rw [List.pairwise_append] at h
  obtain ⟨_, hb, hab⟩ := h
  rw [List.pairwise_cons] at hb
  exact ⟨fun z hz => hab z hz x (by simp), fun z hz => (hb.1 z hz).symm⟩
theorem CaE.ne_other {a b : List (En α)} {x : En α} (h : CaE enc TC TT w B c m most t clock D (a ++ x :: b)) : (∀ z ∈ a, z.b ≠ x.b) ∧ ∀ z ∈ b, z.b ≠ x.b := by
  have hr := h.rising
  rw [List.pairwise_append] at hr
  obtain ⟨_, hb, hab⟩ := hr
  rw [List.pairwise_cons] at hb
  have key : ∀ z ∈ a ++ x :: b, z.s ≠ x.s → z.b ≠ x.b := by
    intro z hz hs e
    have h1 := h.things z hz
    have h2 := h.things x (by simp)
    rw [e, h2] at h1
    injection h1 with h1
    injection h1 with h1
    have : (x.s : Int) = z.s := by
      have h3 := congrArg (fun a : Array Value => a[2]?) h1
      injection h3 with h3
      injection h3 with _ h3
    omega
  exact ⟨fun z hz => key z (by simp [hz]) (Nat.ne_of_lt (hab z hz x (by simp))), fun z hz => key z (by simp [hz]) (Nat.ne_of_gt (hb.1 z hz))⟩
/-- a thing turns in its place: its value and its pins -/
theorem CaE.inPlace {a b : List (En α)} {x : En α} (h : CaE enc TC TT w B c m most t clock D (a ++ x :: b)) (hT : TC ≠ TT) {v : α} {p : Nat} {t' : Nat} (ht : t ≤ t') (hp : p ≤ t')
    (u : Upd w w' x.b (.cells #[enc v, .int .i64 p, .int .i64 x.s] TT (0, 0))) : CaE enc TC TT w' B c m most t' clock D (a ++ ⟨x.k, v, p, x.b, x.s⟩ :: b) where
  hdr := (u.2 _ (heap_lt h.hdr) (h.ne_ce hT x (by simp)).symm).trans h.hdr
  map := by
    have := own_move h.map (u.2 _ h.map.lt (h.ne_me x (by simp)).symm)
    simpa using this
  size := by rw [h.size]; simp
  has := fun k => by
    rw [h.has k]
    simp only [List.mem_append, List.mem_cons]
    constructor
    · rintro ⟨e, h1 | rfl | h1, rfl⟩
      · exact ⟨e, .inl h1, rfl⟩
      · exact ⟨_, .inr (.inl rfl), rfl⟩
      · exact ⟨e, .inr (.inr h1), rfl⟩
    · rintro ⟨e, h1 | rfl | h1, rfl⟩
      · exact ⟨e, .inl h1, rfl⟩
      · exact ⟨x, .inr (.inl rfl), rfl⟩
      · exact ⟨e, .inr (.inr h1), rfl⟩
  at_ := mem_mid h.at_ (h.at_ x (by simp))
  things := by
    intro z hz
    rcases List.mem_append.1 hz with hz | hz
    · exact (u.2 _ (heap_lt (h.things z (by simp [hz]))) (h.ne_other.1 z hz)).trans (h.things z (by simp [hz]))
    · rcases List.mem_cons.1 hz with rfl | hz
      · exact u.1
      · exact (u.2 _ (heap_lt (h.things z (by simp [hz]))) (h.ne_other.2 z hz)).trans (h.things z (by simp [hz]))
  rising := pair_mid h.rising (fun z hz => hz) (fun z hz => hz)
  since := mem_mid h.since (h.since x (by simp))
  apart := pair_mid h.apart (fun z hz => hz) (fun z hz => hz)
  clk := Nat.le_trans h.clk ht
  pins := mem_mid (fun z hz => Nat.le_trans (h.pins z hz) ht) hp
  lens := mem_mid h.lens (h.lens x (by simp))
  bc := h.bc
  bm := h.bm
  be := mem_mid h.be (h.be x (by simp))
/-- a thing is put or got anew: it becomes the last one -/
theorem CaE.toEnd {a b : List (En α)} {x : En α} (h : CaE enc TC TT w B c m most t clock D (a ++ x :: b)) (hT : TC ≠ TT) {v : α} {s : Nat} (hs : s ≤ clock) (hl : ∀ e ∈ a ++ x :: b, e.s < s)
    (u : Upd w w' x.b (.cells #[enc v, .int .i64 x.p, .int .i64 s] TT (0, 0))) : CaE enc TC TT w' B c m most t clock D (a ++ b ++ [⟨x.k, v, x.p, x.b, s⟩]) where
  hdr := (u.2 _ (heap_lt h.hdr) (h.ne_ce hT x (by simp)).symm).trans h.hdr
  map := by
    have := own_move h.map (u.2 _ h.map.lt (h.ne_me x (by simp)).symm)
    simpa [Nat.add_assoc] using this
  size := by rw [h.size]; simp [Nat.add_assoc]
  has := fun k => by
    rw [h.has k]
    simp only [List.mem_append, List.mem_cons, List.mem_singleton]
    constructor
    · rintro ⟨e, h1 | rfl | h1, rfl⟩
      · exact ⟨e, .inl (.inl h1), rfl⟩
      · exact ⟨_, .inr (.inl rfl), rfl⟩
      · exact ⟨e, .inl (.inr h1), rfl⟩
    · rintro ⟨e, (h1 | h1) | rfl | h1, rfl⟩
      · exact ⟨e, .inl h1, rfl⟩
      · exact ⟨e, .inr (.inr h1), rfl⟩
      · exact ⟨x, .inr (.inl rfl), rfl⟩
      · cases h1
  at_ := mem_end h.at_ (h.at_ x (by simp))
  things := by
    intro z hz
    simp only [List.mem_append, List.mem_singleton] at hz
    rcases hz with (hz | hz) | rfl
    · exact (u.2 _ (heap_lt (h.things z (by simp [hz]))) (h.ne_other.1 z hz)).trans (h.things z (by simp [hz]))
    · exact (u.2 _ (heap_lt (h.things z (by simp [hz]))) (h.ne_other.2 z hz)).trans (h.things z (by simp [hz]))
    · exact u.1
  rising := pair_end (pair_drop h.rising) (fun z hz => hl z (by
    rcases List.mem_append.1 hz with hz | hz
    · simp [hz]
    · simp [hz]))
  since := mem_end h.since hs
  apart := pair_end (pair_drop h.apart) (fun z hz => by
    rcases List.mem_append.1 hz with hz | hz
    · exact (apart_of h.apart).1 z hz
    · exact (apart_of h.apart).2 z hz)
  clk := h.clk
  pins := mem_end h.pins (h.pins x (by simp))
  lens := mem_end h.lens (h.lens x (by simp))
  bc := h.bc
  bm := h.bm
  be := mem_end h.be (h.be x (by simp))
theorem CaE.tidy (h : CaE enc TC TT w B c m most t clock D E) : Tidy D := h.map.tidy kstr
/-- a thing is added -/
theorem CaE.add (h : CaE enc TC TT w B c m most t clock D E) {k : ByteArray} {v : α} {g s n : Nat} (hk : ∀ e ∈ E, e.k ≠ k) (hkl : k.size ≤ maxLen) (hs : s ≤ clock) (hl : ∀ e ∈ E, e.s < s) (hB : B ≤ g)
    (hg : w'.heap[g]? = some (.cells #[enc v, .int .i64 (0 : Nat), .int .i64 s] TT (0, 0))) (hm : w'.ownsMap Try.prog 9 Rp m n (D.put (.string (tl k)) (.lit (.int .i64 g))))
    (ho : ∀ j, j < w.heap.size → j ≠ m → w'.heap[j]? = w.heap[j]?) : CaE enc TC TT w' B c m most t clock (D.put (.string (tl k)) (.lit (.int .i64 g))) (E ++ [⟨k, v, 0, g, s⟩]) := by
  have hno : Maps.has D (.string (tl k)) = false := by
    cases hh : Maps.has D (.string (tl k)) with
    | false => rfl
    | true =>
      obtain ⟨e, he, hek⟩ := (h.has k).1 hh
      exact absurd hek (hk e he)
  have hsz : Maps.size (D.put (.string (tl k)) (.lit (.int .i64 g))) = E.length + 1 := by rw [size_put h.tidy, hno, h.size]; rfl
  have hne : ∀ k' : ByteArray, k' ≠ k → Lit.string (tl k') ≠ Lit.string (tl k) := fun k' hk' e => hk' (tl_inj (by injection e))
  exact {
    hdr := (ho _ (heap_lt h.hdr) h.ne_cm).trans h.hdr
    map := by
      have := own_size hm
      rw [hsz] at this
      simpa using this
    size := by rw [hsz]; simp
    has := fun k' => by
      by_cases hkk : k' = k
      · subst hkk
        rw [has_put_same h.map.isMap (show WideAt.IsKeyLit (.string (tl k')) from trivial)]
        simp
      · rw [has_put_other (hne k' hkk), h.has k']
        constructor
        · rintro ⟨e, he, rfl⟩; exact ⟨e, by simp [he], rfl⟩
        · rintro ⟨e, he, rfl⟩
          rcases List.mem_append.1 he with he | he
          · exact ⟨e, he, rfl⟩
          · rw [List.mem_singleton.1 he] at hkk; exact absurd rfl hkk
    at_ := by
      intro e he z
      rcases List.mem_append.1 he with he | he
      · rw [atKey_put_other (hne _ (hk e he))]; exact h.at_ e he z
      · rw [List.mem_singleton.1 he]; exact atKey_put_same h.map.isMap (show WideAt.IsKeyLit (.string (tl k)) from trivial) _ _
    things := by
      intro e he
      rcases List.mem_append.1 he with he | he
      · exact (ho _ (heap_lt (h.things e he)) (h.ne_me e he)).trans (h.things e he)
      · rw [List.mem_singleton.1 he]; exact hg
    rising := pair_end h.rising hl
    since := by
      intro e he
      rcases List.mem_append.1 he with he | he
      · exact h.since e he
      · rw [List.mem_singleton.1 he]; exact hs
    apart := pair_end h.apart hk
    clk := h.clk
    pins := by
      intro e he
      rcases List.mem_append.1 he with he | he
      · exact h.pins e he
      · rw [List.mem_singleton.1 he]; exact Nat.zero_le _
    lens := by
      intro e he
      rcases List.mem_append.1 he with he | he
      · exact h.lens e he
      · rw [List.mem_singleton.1 he]; exact hkl
    bc := h.bc
    bm := h.bm
    be := by
      intro e he
      rcases List.mem_append.1 he with he | he
      · exact h.be e he
      · rw [List.mem_singleton.1 he]; exact hB }
/-- a thing is forgotten -/
theorem CaE.del {a b : List (En α)} {x : En α} (h : CaE enc TC TT w B c m most t clock D (a ++ x :: b)) {n : Nat} (hm : w'.ownsMap Try.prog 9 Rp m n (D.del (.string (tl x.k))))
    (ho : ∀ j, j < w.heap.size → j ≠ m → w'.heap[j]? = w.heap[j]?) : CaE enc TC TT w' B c m most t clock (D.del (.string (tl x.k))) (a ++ b) := by
  have hyes : Maps.has D (.string (tl x.k)) = true := (h.has x.k).2 ⟨x, by simp, rfl⟩
  have hsz : Maps.size (D.del (.string (tl x.k))) = (a ++ b).length := by
    have h1 := size_del (k := .string (tl x.k)) h.tidy
    have h2 := h.size
    rw [hyes] at h1
    simp at h1 h2 ⊢
    omega
  have hne : ∀ k' : ByteArray, k' ≠ x.k → Lit.string (tl k') ≠ Lit.string (tl x.k) := fun k' hk' e => hk' (tl_inj (by injection e))
  have hsub : ∀ e ∈ a ++ b, e ∈ a ++ x :: b ∧ e.k ≠ x.k := by
    intro e he
    rcases List.mem_append.1 he with he | he
    · exact ⟨by simp [he], (apart_of h.apart).1 e he⟩
    · exact ⟨by simp [he], (apart_of h.apart).2 e he⟩
  exact {
    hdr := (ho _ (heap_lt h.hdr) h.ne_cm).trans h.hdr
    map := by
      have := own_size hm
      rwa [hsz] at this
    size := hsz
    has := fun k' => by
      by_cases hkk : k' = x.k
      · subst hkk
        rw [has_del_same]
        constructor
        · intro h; cases h
        · rintro ⟨e, he, h1⟩; exact absurd h1 (hsub e he).2
      · rw [has_del_other (hne k' hkk), h.has k']
        simp only [List.mem_append, List.mem_cons]
        constructor
        · rintro ⟨e, h1 | rfl | h1, rfl⟩
          · exact ⟨e, .inl h1, rfl⟩
          · exact absurd rfl hkk
          · exact ⟨e, .inr h1, rfl⟩
        · rintro ⟨e, h1 | h1, rfl⟩
          · exact ⟨e, .inl h1, rfl⟩
          · exact ⟨e, .inr (.inr h1), rfl⟩
    at_ := fun e he z => by rw [atKey_del_other (hne _ (hsub e he).2)]; exact h.at_ e (hsub e he).1 z
    things := fun e he => (ho _ (heap_lt (h.things e (hsub e he).1)) (h.ne_me e (hsub e he).1)).trans (h.things e (hsub e he).1)
    rising := pair_drop h.rising
    since := fun e he => h.since e (hsub e he).1
    apart := pair_drop h.apart
    clk := h.clk
    pins := fun e he => h.pins e (hsub e he).1
    lens := fun e he => h.lens e (hsub e he).1
    bc := h.bc
    bm := h.bm
    be := fun e he => h.be e (hsub e he).1 }
/-- a new one -/
theorem CaE.made (w' : World) (B c m most : Nat) (hc : w'.heap[c]? = some (.cells #[.int .i64 most, .int .i64 (0 : Nat), .map (some m)] TC (0, 0))) (hm : w'.ownsMap Try.prog 9 Rp m 0 (.map [])) (bc : B ≤ c) (bm : B ≤ m) :
    CaE enc TC TT w' B c m most 0 0 (.map []) ([] : List (En α)) where
  hdr := hc
  map := hm
  size := rfl
  has := fun k => by simp [has_eq]
  at_ := fun e he => by cases he
  things := fun e he => by cases he
  rising := List.Pairwise.nil
  since := fun e he => by cases he
  apart := List.Pairwise.nil
  clk := Nat.le_refl _
  pins := fun e he => by cases he
  lens := fun e he => by cases he
  bc := bc
  bm := bm
  be := fun e he => by cases he
/-- the look-ups -/
theorem CaE.look_ok (h : CaE enc TC TT w B c m most t clock D E) {T TP : TypeId} (ht : Try.prog.underlying T = some (.map 9 TP)) (hz : ∀ W, (zeroValue TP).run Try.prog W = .ok (.pointer none) W) {e : En α} (he : e ∈ E) :
    (Instr.lookup T (.map (some m)) (.string e.k) true).run Try.prog w = .ok (.tuple #[.pointer (some ⟨e.b, 0, none⟩), .bool true]) w := by
  obtain ⟨v, ps, hrun, hv⟩ := h.map.look_ok kstr ht (hz w) Rp_none (kof (h.lens e he))
  rw [h.at_ e he] at hv
  rw [Rp_lit hv, (h.has e.k).2 ⟨e, he, rfl⟩] at hrun
  exact hrun
theorem CaE.look (h : CaE enc TC TT w B c m most t clock D E) {T TP : TypeId} (ht : Try.prog.underlying T = some (.map 9 TP)) (hz : ∀ W, (zeroValue TP).run Try.prog W = .ok (.pointer none) W) {e : En α} (he : e ∈ E) :
    (Instr.lookup T (.map (some m)) (.string e.k) false).run Try.prog w = .ok (.pointer (some ⟨e.b, 0, none⟩)) w := by
  obtain ⟨v, ps, hrun, hv⟩ := h.map.lookup kstr ht (hz w) Rp_none (kof (h.lens e he))
  rw [h.at_ e he] at hv
  rw [Rp_lit hv] at hrun
  exact hrun
theorem CaE.look_no (h : CaE enc TC TT w B c m most t clock D E) {T TP : TypeId} (ht : Try.prog.underlying T = some (.map 9 TP)) (hz : ∀ W, (zeroValue TP).run Try.prog W = .ok (.pointer none) W) {k : ByteArray} (hkl : k.size ≤ maxLen) (hk : ∀ e ∈ E, e.k ≠ k) :
    (Instr.lookup T (.map (some m)) (.string k) true).run Try.prog w = .ok (.tuple #[.pointer none, .bool false]) w := by
  have hno : Maps.has D (.string (tl k)) = false := by
    cases hh : Maps.has D (.string (tl k)) with
    | false => rfl
    | true =>
      obtain ⟨e, he, hek⟩ := (h.has k).1 hh
      exact absurd hek (hk e he)
  obtain ⟨v, ps, hrun, hv⟩ := h.map.look_ok kstr ht (hz w) Rp_none (kof hkl)
  rw [atKey_of_not_has hno] at hv
  rw [Rp_nil hv, hno] at hrun
  exact hrun
/-- the map's keys -/
theorem CaE.keys (h : CaE enc TC TT w B c m most t clock D E) : (E.map (fun e => tl e.k)).Perm (strKeys D) := by
  obtain ⟨es, rfl, hpw⟩ := h.tidy
  have hko : ∀ p ∈ es, ∃ x, p.1 = .string x := by
    obtain ⟨es', cl, _, F, _, hD⟩ := h.map
    intro p hp
    injection hD with hD
    rw [hD] at hp
    obtain ⟨v, hv⟩ := (keys_perm (WideShapes.sorted_perm _).symm (fit_keys F)) p hp
    obtain ⟨x, _, hx, _⟩ := Maps.keyOf_str Try.underlying9 hv
    exact ⟨x, hx⟩
  refine perm_strKeys hpw hko ?_ (fun x => ?_)
  · unfold List.Nodup
    rw [List.pairwise_map]
    exact h.apart.imp (fun hne e => hne (tl_inj e))
  · have := h.has ⟨x.toArray⟩
    rw [show tl ⟨x.toArray⟩ = x from rfl] at this
    rw [this, List.mem_map]
    constructor
    · rintro ⟨e, he, rfl⟩; exact ⟨e, he, rfl⟩
    · rintro ⟨e, he, h1⟩; exact ⟨e, he, by rw [h1]⟩
end
/-- what a call on the cache leaves as it was: all but its own blocks -/
def FrC (TC TT : TypeId) (m : Nat) (w w' : World) : Prop := w.heap.size ≤ w'.heap.size ∧ ∀ b, b < w.heap.size → b ≠ m → (∀ cs, w.heap[b]? ≠ some (.cells cs TC (0, 0))) → (∀ cs, w.heap[b]? ≠ some (.cells cs TT (0, 0))) → w'.heap[b]? = w.heap[b]?
section
variable {TC TT : TypeId} {m : Nat} {w w' w'' : World}
theorem FrC.refl (TC TT : TypeId) (m : Nat) (w : World) : FrC TC TT m w w := ⟨Nat.le_refl _, fun _ _ _ _ _ => rfl⟩
theorem FrC.trans (h : FrC TC TT m w w') (k : FrC TC TT m w' w'') : FrC TC TT m w w'' :=
  ⟨Nat.le_trans h.1 k.1, fun b hb hm h1 h2 => by
    have e := h.2 b hb hm h1 h2
    exact (k.2 b (Nat.lt_of_lt_of_le hb h.1) hm (by rw [e]; exact h1) (by rw [e]; exact h2)).trans e⟩
theorem FrC.below (h : Below w.heap.size w w') : FrC TC TT m w w' := ⟨h.size, fun b hb _ _ _ => h.block b hb⟩
theorem FrC.updC {b : Nat} {o : Obj} {cs : Array Value} (u : Upd w w' b o) (hs : w.heap.size ≤ w'.heap.size) (hb : w.heap[b]? = some (.cells cs TC (0, 0))) : FrC TC TT m w w' :=
  ⟨hs, fun j hj _ h1 _ => u.2 j hj (by rintro rfl; exact h1 cs hb)⟩
theorem FrC.updT {b : Nat} {o : Obj} {cs : Array Value} (u : Upd w w' b o) (hs : w.heap.size ≤ w'.heap.size) (hb : w.heap[b]? = some (.cells cs TT (0, 0))) : FrC TC TT m w w' :=
  ⟨hs, fun j hj _ _ h2 => u.2 j hj (by rintro rfl; exact h2 cs hb)⟩
theorem FrC.map_ (hs : w.heap.size ≤ w'.heap.size) (ho : ∀ j, j < w.heap.size → j ≠ m → w'.heap[j]? = w.heap[j]?) : FrC TC TT m w w' := ⟨hs, fun j hj hm _ _ => ho j hj hm⟩
end
/-- THE CACHE AT c holds the things L -/
def IsCa (enc : α → Value) (TC TT : TypeId) (w : World) (B c m most t : Nat) (L : List (Th α)) : Prop := ∃ clock D E, CaE enc TC TT w B c m most t clock D E ∧ E.map En.th = L
theorem IsCa.below {enc : α → Value} {TC TT : TypeId} {w w' : World} {B c m most t : Nat} {L : List (Th α)} (h : IsCa enc TC TT w B c m most t L) (k : Below w.heap.size w w') : IsCa enc TC TT w' B c m most t L := by
  obtain ⟨cl, D, E, h1, h2⟩ := h
  exact ⟨cl, D, E, h1.below k, h2⟩
theorem IsCa.later {enc : α → Value} {TC TT : TypeId} {w : World} {B c m most t t' : Nat} {L : List (Th α)} (h : IsCa enc TC TT w B c m most t L) (k : t ≤ t') : IsCa enc TC TT w B c m most t' L := by
  obtain ⟨cl, D, E, h1, h2⟩ := h
  exact ⟨cl, D, E, h1.later k, h2⟩
/-- what a call on the cache says -/
def CaSays (enc : α → Value) (TC TT : TypeId) (w : World) (B c m most t : Nat) (L : List (Th α)) (r : Value) (e : Ending) (w' : World) : Prop :=
  e = .returned r ∧ IsCa enc TC TT w' B c m most t L ∧ Below B w w' ∧ FrC TC TT m w w'
end Ca
end Go.Proofs.Ytcifjhhofefpjaa
