/- Joined by mkmerged.py: FsSpec, FsMem, FsPaths, FsCode. -/
import Derived.Test.YtdidnlkilleljaaGreatDoorMg20
import Derived.Test.YtdidnlkilleljaaGreatDoorMg19
import Derived.Lib.SlicesCompact
import Derived.Lib.CutLaws
import Derived.Test.YtdidnlkilleljaaGreatDoorMg03
import Derived.Shelf.GgClosure.Gives
import Derived.WalkKit
import Derived.Maps.OwnSet
import Derived.Maps.OwnOps
import Derived.Maps.Views
import Derived.Deep.Draws
import Derived.Test.YtdidnlkilleljaaGreatDoorMg21
/- FsSpec, what a claim needs of it (prune.py). -/
namespace Go.Proofs.YtdidnlkilleljaaGreatDoor
namespace Fs
set_option linter.unusedVariables false
abbrev B := List UInt8
def belowB (s p : B) : Option B := if (p ++ [47]) <+: s ∧ p.length + 1 < s.length then some (s.drop (p.length + 1)) else none
def under (l : List Fl) (p : B) : List Fl := l.filterMap fun f => (belowB (tl f.p) p).map fun r => ⟨bs r, f.d⟩
def get (l : List Fl) (p : B) : Option ByteArray := (l.find? fun f => decide (tl f.p = p)).map Fl.d
def head (s : B) : B := s.takeWhile fun c => decide (c ≠ 47)
def bulk (l : List Fl) : Nat := (l.map fun f => f.p.size + 1).sum
theorem bs_len (l : B) : (bs l).size = l.length := by show l.toArray.size = _; simp
theorem tl_len (s : ByteArray) : (tl s).length = s.size := by show s.data.toList.length = s.data.size; simp
theorem bulk_cons (f : Fl) (l : List Fl) : bulk (f :: l) = (f.p.size + 1) + bulk l := by simp [bulk]
theorem under_cons (f : Fl) (l : List Fl) (p : B) : under (f :: l) p = match belowB (tl f.p) p with
    | some r => ⟨bs r, f.d⟩ :: under l p
    | none => under l p := by
  unfold under
  rw [List.filterMap_cons]
  cases belowB (tl f.p) p <;> rfl
theorem below_len {s p r : B} (h : belowB s p = some r) : r.length + p.length + 1 = s.length ∧ 0 < r.length := by
  unfold belowB at h
  split at h
  · injection h with h
    subst h
    rw [List.length_drop]; omega
  · cases h
theorem under_len (l : List Fl) (p : B) : (under l p).length ≤ l.length := List.length_filterMap_le _ _
def names (l : List Fl) : List B := Lib.compact ((l.map fun f => head (tl f.p)).mergeSort fun x y => decide (x ≤ y))
theorem lt_or {a b : B} : a < b ∨ a = b ∨ b < a := by
  by_cases h : a < b
  · exact .inl h
  · by_cases h2 : b < a
    · exact .inr (.inr h2)
    · exact .inr (.inl (List.le_antisymm (List.not_lt.1 h2) (List.not_lt.1 h)))
theorem sorted_pair (l : List B) : (l.mergeSort fun x y => decide (x ≤ y)).Pairwise (· ≤ ·) := by
  have := List.pairwise_mergeSort (le := fun (x y : B) => decide (x ≤ y)) (fun a b c h1 h2 => by
    simp only [decide_eq_true_eq] at h1 h2 ⊢
    exact List.le_trans h1 h2) (fun a b => by simpa using List.le_total a b) l
  exact this.imp (by simp)
structure En where
  n : B
  dir : Bool
  g : B
def kind (x : En) : B := if x.dir = true then [100] else [102]
def bytesE (l : List En) : B := l.flatMap fun x => Pk.list [x.n, kind x, x.g]
def dirF : Nat → List Fl → List En
  | 0, _ => []
  | k + 1, l => (names l).map fun n => match get l n with
    | some s => ⟨n, false, Blk.sum (tl s)⟩
    | none => ⟨n, true, Blk.sum (bytesE (dirF k (under l n)))⟩
def dir (l : List Fl) : List En := dirF (bulk l + 1) l
def at_ (l : List Fl) (p : B) : List Fl := if p = [] then l else under l p
theorem head_len (s : B) : (head s).length ≤ s.length := (List.takeWhile_sublist _).length_le
end Fs
end Go.Proofs.YtdidnlkilleljaaGreatDoor
namespace Go.Proofs.YtdidnlkilleljaaGreatDoor.Fs
set_option linter.unusedVariables false
def upto (l : List Fl) (p : B) (k : Nat) : List Fl := under (l.take k) p
theorem upto_all (l : List Fl) (p : B) : upto l p l.length = under l p := by rw [upto, List.take_length]
theorem upto_len (l : List Fl) (p : B) (k : Nat) : (upto l p k).length ≤ k := Nat.le_trans (under_len _ _) (by simp; omega)
theorem under_append (a b : List Fl) (p : B) : under (a ++ b) p = under a p ++ under b p := List.filterMap_append
theorem upto_hit {l : List Fl} {p r : B} {k : Nat} (hk : k < l.length) (h : belowB (tl l[k].p) p = some r) : upto l p (k + 1) = upto l p k ++ [⟨bs r, l[k].d⟩] := by
  rw [upto, List.take_succ_eq_append_getElem hk, under_append, under_cons, h]; rfl
theorem upto_miss {l : List Fl} {p : B} {k : Nat} (hk : k < l.length) (h : belowB (tl l[k].p) p = none) : upto l p (k + 1) = upto l p k := by
  rw [upto, List.take_succ_eq_append_getElem hk, under_append, under_cons, h]
  exact List.append_nil _
structure Small (l : List Fl) : Prop where
  len : l.length ≤ 200
  each : ∀ f ∈ l, f.p.size ≤ 1000 ∧ f.d.size ≤ 1000000
theorem below_tl {s p r : B} (h : belowB s p = some r) : r = s.drop (p.length + 1) ∧ (p ++ [47]) <+: s := by
  unfold belowB at h
  split at h
  · rename_i h1
    injection h with h
    exact ⟨h.symm, h1.1⟩
  · cases h
theorem mem_under {l : List Fl} {p : B} {f : Fl} (h : f ∈ under l p) : ∃ g ∈ l, ∃ r, belowB (tl g.p) p = some r ∧ f = ⟨bs r, g.d⟩ := by
  unfold under at h
  obtain ⟨g, hg, he⟩ := List.mem_filterMap.1 h
  cases e : belowB (tl g.p) p with
  | none => rw [e] at he; cases he
  | some r => rw [e] at he; injection he with he; exact ⟨g, hg, r, e, he.symm⟩
theorem Small.under {l : List Fl} (h : Small l) (p : B) : Small (under l p) := ⟨Nat.le_trans (under_len l p) h.len, fun f hf => by
  obtain ⟨g, hg, r, e, rfl⟩ := mem_under hf
  have h1 := below_len e
  have h2 := h.each g hg
  rw [tl_len] at h1
  refine ⟨?_, h2.2⟩
  show (bs r).size ≤ 1000
  rw [bs_len]; omega⟩
theorem Small.at_ {l : List Fl} (h : Small l) (p : B) : Small (at_ l p) := by
  unfold Fs.at_
  split
  · exact h
  · exact h.under p
theorem Small.upto {l : List Fl} (h : Small l) (p : B) (k : Nat) : Small (upto l p k) :=
  Small.under ⟨by have := h.len; simp; omega, fun f hf => h.each f (List.mem_of_mem_take hf)⟩ p
end Go.Proofs.YtdidnlkilleljaaGreatDoor.Fs
/- FsMem, what a claim needs of it (prune.py). -/
namespace Go.Proofs.YtdidnlkilleljaaGreatDoor.Fs
open Go.RowKit
set_option linter.unusedVariables false
set_option maxRecDepth 100000
def fc (l : List Fl) : List Value := l.flatMap fun f => [.string f.p, .string f.d]
def ec1 (x : En) : List Value := [.string (bs x.n), .bool x.dir, .string (bs x.g)]
def ec (l : List En) : List Value := l.flatMap ec1
abbrev Fls (w : World) (A : Option Addr) (l : List Fl) : Prop := Reads w w.heap.size 2 A l.length (fc l)
abbrev Ens (w : World) (A : Option Addr) (l : List En) : Prop := Reads w w.heap.size 3 A l.length (ec l)
theorem fc_len (l : List Fl) : (fc l).length = l.length * 2 := by
  induction l with
  | nil => rfl
  | cons a l ih => rw [fc, List.flatMap_cons, List.length_append]; have : (l.flatMap fun f => [Value.string f.p, .string f.d]).length = l.length * 2 := ih; rw [this]; simp; omega
theorem fc_append (a b : List Fl) : fc (a ++ b) = fc a ++ fc b := List.flatMap_append
theorem fc_one (f : Fl) : fc [f] = [.string f.p, .string f.d] := rfl
theorem fc_cell (l : List Fl) : ∀ u ∈ fc l, u.oneCell' = true := by
  intro u hu
  obtain ⟨f, _, h⟩ := List.mem_flatMap.1 hu
  simp only [List.mem_cons, List.not_mem_nil, or_false] at h
  rcases h with rfl | rfl <;> rfl
theorem fc_at : ∀ {l : List Fl} {k : Nat} (hk : k < l.length), (fc l)[k * 2]? = some (.string l[k].p) ∧ (fc l)[k * 2 + 1]? = some (.string l[k].d)
  | [], k, hk => absurd hk (by simp)
  | f :: l, 0, _ => ⟨rfl, rfl⟩
  | f :: l, k + 1, hk => by
    have ih := fc_at (l := l) (k := k) (by simpa using hk)
    rw [show (k + 1) * 2 = k * 2 + 2 by omega, show k * 2 + 2 + 1 = k * 2 + 1 + 2 by omega]
    exact ih
theorem ec_at : ∀ {l : List En} {k : Nat} (hk : k < l.length), (ec l)[k * 3]? = some (.string (bs l[k].n)) ∧ (ec l)[k * 3 + 1]? = some (.bool l[k].dir) ∧ (ec l)[k * 3 + 2]? = some (.string (bs l[k].g))
  | [], k, hk => absurd hk (by simp)
  | f :: l, 0, _ => ⟨rfl, rfl, rfl⟩
  | f :: l, k + 1, hk => by
    have ih := ec_at (l := l) (k := k) (by simpa using hk)
    rw [show (k + 1) * 3 = k * 3 + 3 by omega, show k * 3 + 3 + 1 = k * 3 + 1 + 3 by omega, show k * 3 + 3 + 2 = k * 3 + 2 + 3 by omega]
    exact ih
theorem Fls.at_ {w : World} {B : Nat} {A : Option Addr} {l : List Fl} (h : Reads w B 2 A l.length (fc l)) {k : Nat} (hk : k < l.length) :
    ∃ ad, A = some ad ∧ ad.block < B ∧ w.cell? (ad.add (k * 2)) = some (.string l[k].p) ∧ w.cell? ⟨(ad.add (k * 2)).block, (ad.add (k * 2)).off + 1, none⟩ = some (.string l[k].d) := by
  obtain ⟨ad, e, hb, hc⟩ := h.2 (by omega)
  obtain ⟨h0, h1⟩ := fc_at hk
  refine ⟨ad, e, hb, hc _ _ h0, ?_⟩
  have := hc _ _ h1
  rw [← add_of_add] at this
  exact this
theorem Ens.at_ {w : World} {B : Nat} {A : Option Addr} {l : List En} (h : Reads w B 3 A l.length (ec l)) {k : Nat} (hk : k < l.length) :
    ∃ ad, A = some ad ∧ ad.block < B ∧ w.cell? (ad.add (k * 3)) = some (.string (bs l[k].n)) ∧ w.cell? ⟨(ad.add (k * 3)).block, (ad.add (k * 3)).off + 1, none⟩ = some (.bool l[k].dir) ∧ w.cell? ⟨(ad.add (k * 3)).block, (ad.add (k * 3)).off + 2, none⟩ = some (.string (bs l[k].g)) := by
  obtain ⟨ad, e, hb, hc⟩ := h.2 (by omega)
  obtain ⟨h0, h1, h2⟩ := ec_at hk
  refine ⟨ad, e, hb, hc _ _ h0, ?_, ?_⟩
  · have := hc _ _ h1
    rw [← add_of_add] at this
    exact this
  · have := hc _ _ h2
    rw [← add_of_add] at this
    exact this
theorem reads2_new (w : World) (o1 : Obj) (T : TypeId) (a b : Value) : Reads ((w.alloc o1).alloc (.cells #[a, b] T)) ((w.alloc o1).alloc (.cells #[a, b] T)).heap.size 2 (some ⟨w.heap.size + 1, 0, none⟩) 1 [a, b] :=
  ⟨rfl, fun _ => ⟨_, rfl, by simp, fun j u hu => by
    rw [Lg.add_eq, Lg.cell_at (heap_alloc2_new w o1 _)]
    simpa using hu⟩⟩
theorem reads2_one (w : World) (T : TypeId) (a b : Value) (g : Nat) (hg : w.heap.size = g) : Reads (w.alloc (.cells #[a, b] T)) (w.alloc (.cells #[a, b] T)).heap.size 2 (some ⟨g, 0, none⟩) 1 [a, b] := by
  subst hg
  exact ⟨rfl, fun _ => ⟨_, rfl, by simp, fun j u hu => by
    rw [Lg.add_eq, Lg.cell_at (heap_alloc_new w _)]
    simpa using hu⟩⟩
def Env (w : World) : Prop := (∃ m, w.cell? ⟨2, 0, none⟩ = some (.int .i64 m)) ∧ Tab w
theorem cell_lt {w : World} {a : Addr} {v : Value} (h : w.cell? a = some v) : a.block < w.heap.size := by
  unfold World.cell? at h
  rcases Nat.lt_or_ge a.block w.heap.size with h1 | h1
  · exact h1
  · rw [Array.getElem?_eq_none h1] at h; cases h
theorem Env.below {w w' : World} (h : Env w) (hb : Below w.heap.size w w') : Env w' := by
  obtain ⟨⟨m, h1⟩, h2⟩ := h
  exact ⟨⟨m, (hb.cell (cell_lt h1)).trans h1⟩, h2.on hb⟩
theorem infoF : ∃ z, (Tryz.prog.info? 49).map (fun i => (i.zero, i.size, i.bytes)) = some (some z, 2, 32) ∧ z.cells.size = 2 := ⟨.agg #[.string ⟨#[]⟩, .string ⟨#[]⟩], by kernel_rfl, rfl⟩
end Go.Proofs.YtdidnlkilleljaaGreatDoor.Fs
namespace Go.Proofs.YtdidnlkilleljaaGreatDoor.Fs
open Go.RowKit
set_option linter.unusedVariables false
set_option maxRecDepth 100000
section
variable {α : Type}
def idx (p : α → Bool) (l : List α) : Int :=
  match l.findIdx? p with
  | some i => i
  | none => -1
def NoneTo (p : α → Bool) (l : List α) (k : Nat) : Prop := ∀ j (hj : j < l.length), j < k → p l[j] = false
theorem NoneTo.zero (p : α → Bool) (l : List α) : NoneTo p l 0 := fun j _ h => by omega
theorem NoneTo.next {p : α → Bool} {l : List α} {k : Nat} (hk : k < l.length) (h : NoneTo p l k) (hp : p l[k] = false) : NoneTo p l (k + 1) := fun j hj h1 => by
  rcases Nat.lt_or_ge j k with h2 | h2
  · exact h j hj h2
  · obtain rfl : j = k := by omega
    exact hp
theorem idx_hit {p : α → Bool} {l : List α} {k : Nat} (hk : k < l.length) (h : NoneTo p l k) (hp : p l[k] = true) : idx p l = k := by
  have : l.findIdx? p = some k := by
    rw [List.findIdx?_eq_some_iff_getElem]
    exact ⟨hk, hp, fun j hj => by rw [h j (by omega) hj]; simp⟩
  rw [idx, this]
theorem idx_miss {p : α → Bool} {l : List α} (h : NoneTo p l l.length) : idx p l = -1 := by
  have : l.findIdx? p = none := by
    rw [List.findIdx?_eq_none_iff]
    intro x hx
    obtain ⟨j, hj, rfl⟩ := List.mem_iff_getElem.1 hx
    exact h j hj hj
  rw [idx, this]
theorem find_hit {p : α → Bool} {l : List α} {k : Nat} (hk : k < l.length) (h : NoneTo p l k) (hp : p l[k] = true) : l.find? p = some l[k] := by
  rw [List.find?_eq_some_iff_getElem]
  exact ⟨hp, k, hk, rfl, fun j hj => by rw [h j (by omega) hj]; rfl⟩
theorem find_miss {p : α → Bool} {l : List α} (h : NoneTo p l l.length) : l.find? p = none := List.find?_eq_none.2 fun x hx => by
  obtain ⟨j, hj, rfl⟩ := List.mem_iff_getElem.1 hx
  rw [h j hj hj]; simp
theorem idx_cases (p : α → Bool) (l : List α) : (idx p l = -1 ∧ l.find? p = none) ∨ ∃ (k : Nat) (hk : k < l.length), idx p l = k ∧ l.find? p = some l[k] := by
  rw [idx]
  cases e : l.findIdx? p with
  | none =>
    rw [List.findIdx?_eq_none_iff] at e
    exact .inl ⟨rfl, List.find?_eq_none.2 fun x hx => by simp [e x hx]⟩
  | some i =>
    obtain ⟨hi, hp, hn⟩ := List.findIdx?_eq_some_iff_getElem.1 e
    refine .inr ⟨i, hi, rfl, ?_⟩
    rw [List.find?_eq_some_iff_getElem]
    exact ⟨hp, i, hi, rfl, fun j hj => by simpa using hn j hj⟩
end
theorem indexF_any (g : Nat) (lb : Array Value) (eg : ∀ args w, (callFunc g args).run Tryz.prog w = .ok (.enter g args) w) (p : Fl → Bool) (A : Option Addr) (l : List Fl) (c : Nat) (w : World) (hr : Fls w A l) (hl : l.length ≤ 1000000000)
    (hp : ∀ f ∈ l, ∀ W, Below w.heap.size w W → Calls Tryz.prog g (#[.agg #[.string f.p, .string f.d]] ++ lb) W fun e w' => e = .returned (.bool (p f)) ∧ Below W.heap.size W w') :
    Calls Tryz.prog 88 #[.slice A l.length c, .func (.func g) #[] lb] w fun e w' => e = .returned (.int .i64 (idx p l)) ∧ Below w.heap.size w w' := by
  have RD : Hid (∀ W, Below w.heap.size w W → Reads W w.heap.size 2 A l.length (fc l)) := Lib.hid fun W hW => hr.below hW
  have PR := Lib.hid hp
  clear hr hp
  go_enter Tryz.func88, Tryz.ntmps88
  go_wp2_with (fail)
  go_loopw [8] (fun i W => ∃ k : Nat, i = .int .i64 k ∧ k ≤ l.length ∧ NoneTo p l k ∧ Below w.heap.size w W) (fun i _ => l.length - (intOf i).toNat)
  case atStart => exact ⟨0, rfl, by omega, NoneTo.zero _ _, Below.refl _ _⟩
  case round =>
    obtain ⟨k, rfl, hk, ha, hb⟩ := hrel
    have HA := Lib.hid ha
    clear ha
    by_cases hlt : k < l.length
    · have hkI : (k : Int) < (l.length : Int) := by omega
      obtain ⟨ad, rfl, had, c0, c1⟩ := Fls.at_ (RD.out _ hb) hlt
      have AF := Lib.hid (PR.out l[k] (List.getElem_mem hlt) _ hb)
      have NXT := Lib.hid (NoneTo.next hlt HA.out)
      have HIT := Lib.hid (idx_hit hlt HA.out)
      generalize l[k] = f at *
      cases hp : p f
      · rw [hp] at AF
        have F := Lib.hid (NXT.out hp)
        clear hp HIT
        go_wp2_with (go_at_fn g; ((with_reducible refine (AF.out).mono ?_); rintro e w1 ⟨rfl, hb1⟩))
        go_roundw
        case rel => exact ⟨k + 1, by go_num, by omega, F.out, hb.trans (hb1.mono hb.size)⟩
        case measure => simp [intOf]; omega
      · rw [hp] at AF
        have F := Lib.hid (HIT.out hp)
        clear hp NXT
        go_wp2_with (go_at_fn g; ((with_reducible refine (AF.out).mono ?_); rintro e w1 ⟨rfl, hb1⟩))
        go_ret
        exact ⟨Lg.ret_int F.out, hb.trans (hb1.mono hb.size)⟩
    · obtain rfl : k = l.length := by omega
      have F := Lib.hid (idx_miss HA.out)
      go_wp2_with (fail)
      go_ret
      exact ⟨Lg.ret_int F.out, hb⟩
end Go.Proofs.YtdidnlkilleljaaGreatDoor.Fs
namespace Go.Proofs.YtdidnlkilleljaaGreatDoor.Fs
open Go.RowKit Go.Maps
set_option linter.unusedVariables false
set_option maxRecDepth 100000
theorem kstr : Keyed Tryz.prog 9 := string_keyed Tryz.underlying9
theorem kof {s : ByteArray} (hs : s.size ≤ maxLen) : keyOf Tryz.prog 9 (.string s) = some (.string s.data.toList) := WideMaps.keyOf_string_mk Tryz.underlying9 hs
theorem klit_ne {a b : ByteArray} (h : a ≠ b) : (Lit.string a.data.toList) ≠ .string b.data.toList := by
  intro e
  injection e with e
  exact h (Lg.tl_inj e)
def KnAt (w : World) (m n : Nat) (f : B → Option ByteArray) : Prop :=
  ∃ D : DataW Unit, w.ownsMap Tryz.prog 9 (plainElem Tryz.prog 9) m n D ∧ ∀ s : ByteArray, Maps.has D (.string s.data.toList) = (f (tl s)).isSome ∧ D.atKey (.string s.data.toList) (.lit (.string [])) = .lit (.string (tl ((f (tl s)).getD ⟨#[]⟩)))
theorem KnAt.keep {w w' : World} {m n : Nat} {f : B → Option ByteArray} (h : KnAt w m n f) (hb : w'.heap[m]? = w.heap[m]?) : KnAt w' m n f := by
  obtain ⟨D, ⟨es, cl, h1, h2, h3, h4⟩, hs⟩ := h
  exact ⟨D, ⟨es, cl, hb.trans h1, h2, h3, h4⟩, hs⟩
theorem KnAt.lt {w : World} {m n : Nat} {f : B → Option ByteArray} (h : KnAt w m n f) : m < w.heap.size := by
  obtain ⟨D, h1, _⟩ := h
  exact h1.lt
theorem KnAt.later {w w' : World} {m n : Nat} {f : B → Option ByteArray} (h : KnAt w m n f) (hb : Below w.heap.size w w') : KnAt w' m n f := h.keep (hb.block m h.lt)
theorem KnAt.alloc {w : World} {m n : Nat} {f : B → Option ByteArray} (h : KnAt w m n f) (o : Obj) : KnAt (w.alloc o) m n f := h.keep (Below.heap_alloc _ _ _ h.lt)
theorem KnAt.setCell {w : World} {m n : Nat} {f : B → Option ByteArray} (h : KnAt w m n f) {p : Addr} (hp : m ≠ p.block) (u : Value) : KnAt (w.setCell p u) m n f := h.keep (Below.heap_setCell _ _ _ _ hp)
theorem KnAt.grown {w w' : World} {m n : Nat} {f : B → Option ByteArray} {row : Option Nat} (h : KnAt w m n f) (hg : w.grownBy w' row) (hne : some m ≠ row) : KnAt w' m n f := h.keep (hg.block m h.lt hne)
def upK (f : B → Option ByteArray) (k : B) (v : ByteArray) : B → Option ByteArray := fun d => if d = k then some v else f d
theorem KnAt.put {w : World} {m n : Nat} {f : B → Option ByteArray} (h : KnAt w m n f) (hn : n < maxLen) {s v : ByteArray} (hs : s.size ≤ maxLen) (hv : v.size ≤ maxLen) :
    ∃ w', (Instr.mapUpdate 101 (.map (some m)) (.string s) (.string v)).run Tryz.prog w = .ok () w' ∧ KnAt w' m (n + 1) (upK f (tl s) v) ∧ w.grownBy w' (some m) := by
  obtain ⟨D, h1, h2⟩ := h
  obtain ⟨w', hrun, ho, hg⟩ := h1.update (val := .string v) kstr Tryz.underlying101 hn (kof hs) (plainElem_string Tryz.underlying9 hv)
  refine ⟨w', hrun, ⟨_, ho, fun x => ?_⟩, hg⟩
  unfold upK
  by_cases e : x = s
  · subst e
    rw [if_pos rfl]
    exact ⟨has_put_same h1.isMap (show WideAt.IsKeyLit (.string x.data.toList) from trivial) _, atKey_put_same h1.isMap (show WideAt.IsKeyLit (.string x.data.toList) from trivial) _ _⟩
  · rw [if_neg (fun e2 => e (Lg.tl_inj e2))]
    exact ⟨(has_put_other (klit_ne e) _).trans (h2 x).1, (atKey_put_other (klit_ne e) _ _).trans (h2 x).2⟩
end Go.Proofs.YtdidnlkilleljaaGreatDoor.Fs
/- FsPaths, what a claim needs of it (prune.py). -/
namespace Go.Proofs.YtdidnlkilleljaaGreatDoor.Fs
open Go.RowKit
set_option linter.unusedVariables false
set_option maxRecDepth 100000
def rest (s p : B) : B := Lib.trimPrefix s (p ++ [47])
theorem below_cases (s p : B) : (Lib.hasPrefix s (p ++ [47]) = false ∧ belowB s p = none) ∨ (Lib.hasPrefix s (p ++ [47]) = true ∧ rest s p = [] ∧ belowB s p = none) ∨ (Lib.hasPrefix s (p ++ [47]) = true ∧ rest s p ≠ [] ∧ belowB s p = some (rest s p)) := by
  cases h : Lib.hasPrefix s (p ++ [47]) with
  | false =>
    refine .inl ⟨rfl, ?_⟩
    unfold belowB
    rw [if_neg]
    intro hh
    have : Lib.hasPrefix s (p ++ [47]) = true := List.isPrefixOf_iff_prefix.2 hh.1
    rw [h] at this; cases this
  | true =>
    have hp : (p ++ [47]) <+: s := List.isPrefixOf_iff_prefix.1 h
    have hr : rest s p = s.drop (p.length + 1) := by
      unfold rest Lib.trimPrefix
      rw [if_pos h]; simp
    have hl := hp.length_le
    simp only [List.length_append, List.length_singleton] at hl
    by_cases h1 : p.length + 1 < s.length
    · refine .inr (.inr ⟨rfl, ?_, ?_⟩)
      · rw [hr]
        intro e
        have := congrArg List.length e
        simp at this
        omega
      · unfold belowB
        rw [if_pos ⟨hp, h1⟩, hr]
    · refine .inr (.inl ⟨rfl, ?_, ?_⟩)
      · rw [hr]
        exact List.drop_eq_nil_of_le (by omega)
      · unfold belowB
        rw [if_neg (fun hh => h1 hh.2)]
theorem below_raw (s p : ByteArray) (hp : p.size ≤ 1000000000) (w : World) (r : B) (h : Bool) (CP : Hid (Calls Tryz.prog 122 #[.string s, .string (p ++ ⟨#[47]⟩)] w fun e w' => e = .returned (.tuple #[.string (bs r), .bool h]) ∧ w = w')) :
    Calls Tryz.prog 67 #[.string s, .string p] w fun e w' => e = .returned (.tuple #[.string (bs r), .bool (h && !r.isEmpty)]) ∧ w = w' := by
  cases h
  · go_enter Tryz.func67, Tryz.ntmps67
    go_wp2_with (go_at_call 122; ((with_reducible refine (CP.out).mono ?_); rintro e w1 ⟨rfl, rfl⟩))
    go_ret2
    exact ⟨rfl, rfl⟩
  · by_cases hr : r = []
    · subst hr
      go_enter Tryz.func67, Tryz.ntmps67
      go_wp2_with (go_at_call 122; ((with_reducible refine (CP.out).mono ?_); rintro e w1 ⟨rfl, rfl⟩; rw [bs_nil]))
      go_ret2
      exact ⟨rfl, rfl⟩
    · have g := bs_ne hr
      have HE : Hid (r.isEmpty = false) := Lib.hid (by simpa using hr)
      clear hr
      go_enter Tryz.func67, Tryz.ntmps67
      go_wp2_with (go_at_call 122; ((with_reducible refine (CP.out).mono ?_); rintro e w1 ⟨rfl, rfl⟩))
      go_ret2
      exact ⟨by rw [HE.out]; rfl, rfl⟩
theorem cut_any (s q : ByteArray) (p : B) (e : q.data.toList = p) (w : World) :
    Calls Tryz.prog 122 #[.string s, .string q] w fun e w' => e = .returned (.tuple #[.string (bs (Lib.trimPrefix (tl s) p)), .bool (Lib.hasPrefix (tl s) p)]) ∧ w = w' := by
  subst e
  refine (Tryz.strings_CutPrefix s q w).mono ?_
  rintro e w' ⟨h1, h2⟩
  exact ⟨h1, h2.symm⟩
theorem below_any (s p : ByteArray) (hp : p.size ≤ 1000000000) (w : World) :
    Calls Tryz.prog 67 #[.string s, .string p] w fun e w' => e = .returned (.tuple #[.string (bs (rest (tl s) (tl p))), .bool (belowB (tl s) (tl p)).isSome]) ∧ w = w' := by
  have CP := Lib.hid (cut_any s (p ++ ⟨#[47]⟩) (tl p ++ [47]) (by rw [ByteArray.data_append]; simp) w)
  have h := below_raw s p hp w (rest (tl s) (tl p)) _ CP
  have e : (Lib.hasPrefix (tl s) (tl p ++ [47]) && !(rest (tl s) (tl p)).isEmpty) = (belowB (tl s) (tl p)).isSome := by
    rcases below_cases (tl s) (tl p) with ⟨h1, h2⟩ | ⟨h1, h2, h3⟩ | ⟨h1, h2, h3⟩
    · rw [h1, h2]; rfl
    · rw [h1, h2, h3]; rfl
    · rw [h1, h3]; simpa using h2
  rw [e] at h
  exact h
def FilesSay (m : List Fl) (w : World) (e : Ending) (w' : World) : Prop := (∃ A c, e = .returned (.slice A m.length c) ∧ Fls w' A m ∧ m.length ≤ c) ∧ Below w.heap.size w w'
theorem own_fls {w w0 : World} {v : Value} {m : List Fl} {n B : Nat} (h : w.ownsRow B 49 2 v n (fc m)) (hn : m.length = n) (hb : Below w0.heap.size w0 w) : FilesSay m w0 (.returned v) w := by
  subst hn
  have hv : ∃ A c, v = .slice A m.length c ∧ m.length ≤ c := by
    rcases h.2 with ⟨rfl, h0⟩ | ⟨g, cap, cur, rfl, hB, hg, h1, _⟩
    · exact ⟨none, 0, by rw [h0], by omega⟩
    · exact ⟨_, _, rfl, h1⟩
  obtain ⟨A, c, rfl, hc⟩ := hv
  exact ⟨⟨A, c, rfl, Reads.of_own h, hc⟩, hb⟩
def FilesOwn (m : List Fl) (w : World) (e : Ending) (w' : World) : Prop := ∃ v, e = .returned v ∧ w'.ownsRow w.heap.size 49 2 v m.length (fc m) ∧ Below w.heap.size w w'
set_option maxHeartbeats 1000000 in
theorem under_own (A : Option Addr) (l : List Fl) (c : Nat) (p : ByteArray) (hp : p.size ≤ 1000000000) (w : World) (hr : Fls w A l) (hs : Small l) :
    Calls Tryz.prog 31 #[.slice A l.length c, .string p] w (FilesOwn (under l (tl p)) w) := by
  obtain ⟨z, hzi, hzs⟩ := infoF
  obtain ⟨i0, hi, hz0, hz1, hz2⟩ := Lg.info_parts hzi
  have RD : Hid (∀ W, Below w.heap.size w W → Reads W w.heap.size 2 A l.length (fc l)) := Lib.hid fun W hW => hr.below hW
  have hl := hs.len
  have HP := Lib.hid hp
  have EN : Hid (∀ W v, W.ownsRow w.heap.size 49 2 v (upto l (tl p) l.length).length (fc (upto l (tl p) l.length)) → Below w.heap.size w W → FilesOwn (under l (tl p)) w (.returned v) W) := Lib.hid fun W v h hb => by
    rw [← upto_all]
    exact ⟨_, rfl, h, hb⟩
  clear hr hs hzi hp
  generalize FilesOwn (under l (tl p)) w = Q at *
  go_enter Tryz.func31, Tryz.ntmps31
  go_wp2_with (fail)
  go_loopw [5, 12] (fun v i W => ∃ k : Nat, i = .int .i64 k ∧ k ≤ l.length ∧ W.ownsRow w.heap.size 49 2 v (upto l (tl p) k).length (fc (upto l (tl p) k)) ∧ Below w.heap.size w W) (fun _ i _ => l.length - (intOf i).toNat)
  case atStart => exact ⟨0, rfl, by omega, World.ownsRow_nil _ _ _ _, Below.refl _ _⟩
  case round =>
    obtain ⟨k, rfl, hk, hown, hb⟩ := hrel
    have HO := Lib.hid hown
    clear hown
    by_cases hlt : k < l.length
    · have hkI : (k : Int) < (l.length : Int) := by omega
      obtain ⟨ad, rfl, had, c0, c1⟩ := Fls.at_ (RD.out _ hb) hlt
      have hul := upto_len l (tl p) k
      have HIT := Lib.hid (fun r => upto_hit (p := tl p) (r := r) hlt)
      have MISS := Lib.hid (upto_miss (p := tl p) hlt)
      generalize upto l (tl p) k = u at *
      generalize l[k] = f at *
      have BL : Hid (∀ W, Calls Tryz.prog 67 #[.string f.p, .string p] W fun e w' => e = .returned (.tuple #[.string (bs (rest (tl f.p) (tl p))), .bool (belowB (tl f.p) (tl p)).isSome]) ∧ W = w') := Lib.hid fun W => below_any f.p p HP.out W
      have hbc := below_cases (tl f.p) (tl p)
      have q0 := heap_alloc_new wr (.cells #[.string f.p, .string f.d] 49)
      rcases (show (belowB (tl f.p) (tl p) = none) ∨ belowB (tl f.p) (tl p) = some (rest (tl f.p) (tl p)) by rcases hbc with ⟨_, h⟩ | ⟨_, _, h⟩ | ⟨_, _, h⟩ <;> simp [h]) with h | h
      · rw [h, Option.isSome_none] at BL
        have F := Lib.hid (MISS.out h)
        clear hbc h HIT MISS
        go_wp2_with (go_at_call 67; ((with_reducible refine (BL.out _).mono ?_); rintro e w1 ⟨rfl, rfl⟩))
        go_roundw
        case rel => exact ⟨k + 1, by go_num, by omega, by rw [F.out]; exact HO.out.alloc _, hb.alloc hb.size _⟩
        case measure => simp [intOf]; omega
      · rw [h, Option.isSome_some] at BL
        have F := Lib.hid (HIT.out _ h)
        clear hbc h HIT MISS
        generalize rest (tl f.p) (tl p) = r at *
        go_wp2_with (first
          | (go_at_call 67; ((with_reducible refine (BL.out _).mono ?_); rintro e w1 ⟨rfl, rfl⟩))
          | (at_builtin; refine wpList_append_any _ rfl (.tmp 24) (.tmp 29) _ rfl w.heap.size 49 i0 _ 2 32 Tryz.underlying23 hi hz0 hz1 hz2 hzs (by omega) _ u.length _ rfl ((HO.out.alloc _).alloc _) _ (some ⟨wr.heap.size + 1, 0, none⟩) 1 1 [.string (bs r), .string f.d] rfl (by first | exact reads2_new _ _ _ _ _ | skip) (fc_cell [⟨bs r, f.d⟩]) (by simp only [maxLen]; omega) (by omega) ((hb.alloc hb.size _).alloc (by simp; have := hb.size; omega) _).size ?_; intro v' w2 hown2 hg2 hat2))
        go_roundw
        case rel =>
          refine ⟨k + 1, by go_num, by omega, ?_, ((hb.alloc hb.size _).alloc (by simp; have := hb.size; omega) _).grown hg2 ?_ ?_⟩
          · rw [F.out, fc_append, List.length_append]; exact hown2
          · simp; have := hb.size; omega
          · intro g hg
            have := hb.size
            exact (HO.out.lt g hg).1
        case measure => simp [intOf]; omega
    · obtain rfl : k = l.length := by omega
      go_wp2_with (fail)
      exact EN.out _ _ HO.out hb
theorem find1_any (a b s : ByteArray) (B : Nat) (W : World) (hB : B < W.heap.size) (hc : W.cell? ⟨B, 0, none⟩ = some (.string s)) :
    Calls Tryz.prog 183 #[.agg #[.string a, .string b], .pointer (some ⟨B, 0, none⟩)] W fun e w' => e = .returned (.bool (decide (tl a = tl s))) ∧ Below W.heap.size W w' := by
  have hne : B ≠ W.heap.size := by omega
  by_cases h : a = s
  · have F : Hid (decide (tl a = tl s) = true) := Lib.hid (decide_eq_true (by rw [h]))
    subst h
    go_enter Tryz.func183, Tryz.ntmps183
    go_wp2_with (fail)
    go_ret
    exact ⟨Lg.ret_bool F.out, (Below.refl _ _).alloc (Nat.le_refl _) _⟩
  · have F : Hid (decide (tl a = tl s) = false) := Lib.hid (decide_eq_false fun e => h (Lg.tl_inj e))
    have g := Lg.s_ne h
    clear h
    go_enter Tryz.func183, Tryz.ntmps183
    go_wp2_with (fail)
    go_ret
    exact ⟨Lg.ret_bool F.out, (Below.refl _ _).alloc (Nat.le_refl _) _⟩
theorem find_any (A : Option Addr) (l : List Fl) (c : Nat) (s : ByteArray) (w : World) (hr : Fls w A l) (hl : l.length ≤ 1000000000) :
    Calls Tryz.prog 134 #[.slice A l.length c, .string s] w fun e w' => e = .returned (.int .i64 (idx (fun f : Fl => decide (tl f.p = tl s)) l)) ∧ Below w.heap.size w w' := by
  obtain ⟨W2, eW⟩ : ∃ W2, W2 = w.alloc (.cells #[.string s] 9) := ⟨_, rfl⟩
  have hb2 : Below w.heap.size w W2 := by rw [eW]; exact (Below.refl _ _).alloc (Nat.le_refl _) _
  have hsz : W2.heap.size = w.heap.size + 1 := by rw [eW]; simp
  have k0 : W2.heap[w.heap.size]? = some (.cells #[.string s] 9 (0, 0)) := by rw [eW]; exact heap_alloc_new w _
  have IX := Lib.hid (indexF_any 183 #[.pointer (some ⟨w.heap.size, 0, none⟩)] (enters_of Tryz.func183 (by kernel_rfl) rfl) (fun f => decide (tl f.p = tl s)) A l c W2 ((hr.below hb2).more hb2.size) hl
    (fun f hf V hV => find1_any _ _ _ _ V (by have := hV.size; omega) ((hV.cell (p := ⟨w.heap.size, 0, none⟩) (by show w.heap.size < _; omega)).trans (Lg.cell_at k0 0))))
  clear k0 hsz hr
  generalize idx (fun f : Fl => decide (tl f.p = tl s)) l = r at *
  go_enter Tryz.func134, Tryz.ntmps134
  go_wp2_with (go_at_call 88; rw [← eW]; (with_reducible refine (IX.out).mono ?_); rintro e w1 ⟨rfl, hb⟩)
  go_ret
  exact ⟨rfl, hb2.trans (hb.mono hb2.size)⟩
def GetSays (l : List Fl) (n : B) (w : World) (e : Ending) (w' : World) : Prop := e = .returned (.tuple #[.string ((get l n).getD ⟨#[]⟩), .bool (get l n).isSome]) ∧ Below w.heap.size w w'
theorem get_any (A : Option Addr) (l : List Fl) (c : Nat) (s : ByteArray) (w : World) (hr : Fls w A l) (hl : l.length ≤ 1000000000) :
    Calls Tryz.prog 79 #[.slice A l.length c, .string s] w (GetSays l (tl s) w) := by
  have FA := Lib.hid (find_any A l c s w hr hl)
  rcases idx_cases (fun f : Fl => decide (tl f.p = tl s)) l with ⟨e1, e2⟩ | ⟨k, hk, e1, e2⟩
  · rw [e1] at FA
    have G : Hid (get l (tl s) = none) := Lib.hid (by unfold get; rw [e2]; rfl)
    clear e1 e2 hr
    go_enter Tryz.func79, Tryz.ntmps79
    go_wp2_with (go_at_call 134; (with_reducible refine (FA.out).mono ?_); rintro e w1 ⟨rfl, hb⟩)
    go_ret2
    unfold GetSays
    rw [G.out]
    exact ⟨rfl, hb⟩
  · rw [e1] at FA
    have G : Hid (get l (tl s) = some l[k].d) := Lib.hid (by unfold get; rw [e2]; rfl)
    have hkI : (k : Int) < (l.length : Int) := by omega
    obtain ⟨ad, rfl, had, c0, c1⟩ := Fls.at_ hr hk
    have CL : Hid (∀ W, Below w.heap.size w W → W.cell? ⟨(ad.add (k * 2)).block, (ad.add (k * 2)).off + 1, none⟩ = some (.string l[k].d)) := Lib.hid fun W hW => (hW.cell (by show (ad.add (k * 2)).block < _; rw [block_of_add]; exact had)).trans c1
    clear e1 e2 hr c0 c1
    generalize l[k] = f at *
    go_enter Tryz.func79, Tryz.ntmps79
    go_wp2_with (go_at_call 134; (with_reducible refine (FA.out).mono ?_); rintro e w1 ⟨rfl, hb⟩; have c1 := CL.out _ hb)
    go_ret2
    unfold GetSays
    rw [G.out]
    exact ⟨rfl, hb⟩
end Go.Proofs.YtdidnlkilleljaaGreatDoor.Fs
/- FsCode, what a claim needs of it (prune.py). -/
namespace Go.Proofs.YtdidnlkilleljaaGreatDoor.Fs
set_option linter.unusedVariables false
def rightAt (l : List En) (i : Nat) (h : i < l.length) : Prop := Lg.pathOk l[i].n = true ∧ (47 : UInt8) ∉ l[i].n ∧ l[i].g.length = 32 ∧ (0 < i → (l[i - 1]'(by omega)).n < l[i].n)
def Right (l : List En) : Prop := ∀ i (h : i < l.length), rightAt l i h
noncomputable def rightB (l : List En) : Bool := @decide (Right l) (Classical.propDecidable _)
theorem rightB_true {l : List En} : rightB l = true ↔ Right l := by unfold rightB; simp
theorem rightB_false {l : List En} : rightB l = false ↔ ¬ Right l := by unfold rightB; simp
theorem right_bad {l : List En} {i : Nat} (hi : i < l.length) (h : ¬ rightAt l i hi) : rightB l = false := rightB_false.2 fun hr => h (hr i hi)
theorem right_all {l : List En} (h : ∀ i (hi : i < l.length), i < l.length → rightAt l i hi) : rightB l = true := rightB_true.2 fun i hi => h i hi hi
def left (r : Pk.Rd) : Nat := if r.bad = 0 then r.rest.length else 0
end Go.Proofs.YtdidnlkilleljaaGreatDoor.Fs
namespace Go.Proofs.YtdidnlkilleljaaGreatDoor.Fs
set_option linter.unusedVariables false
def badF (f : Fl) : Option Int := if Lg.pathOk (tl f.p) = false then some 13 else if 2048 < f.d.size then some 15 else none
def Twice (l : List Fl) : Prop := (∃ i, ∃ (h : i < l.length), 0 < i ∧ ¬ tl (l[i - 1]'(by omega)).p < tl l[i].p) ∨ ∃ i, ∃ (h : i < l.length), ∃ k, ∃ (hk : k < l.length), (belowB (tl l[i].p) (tl l[k].p)).isSome = true
noncomputable def checkE (l : List Fl) : Int :=
  match l.findSome? badF with
  | some c => c
  | none => if 32 < l.length then 15 else @ite _ (Twice l) (Classical.propDecidable _) 16 0
theorem check_first {l : List Fl} {k : Nat} {c : Int} (hk : k < l.length) (h : ∀ j (hj : j < l.length), j < k → badF l[j] = none) (h2 : badF l[k] = some c) : checkE l = c := by
  have : l.findSome? badF = some c := by
    induction l generalizing k with
    | nil => simp at hk
    | cons a l ih =>
      cases k with
      | zero => rw [List.findSome?_cons, show badF a = some c from h2]
      | succ k =>
        rw [List.findSome?_cons, show badF a = none from h 0 (by simp) (by omega)]
        exact ih (k := k) (by simpa using hk) (fun j hj hjk => h (j + 1) (by simpa using hj) (by omega)) h2
  unfold checkE
  rw [this]
theorem find_none {l : List Fl} (h : ∀ j (hj : j < l.length), j < l.length → badF l[j] = none) : l.findSome? badF = none := List.findSome?_eq_none_iff.2 fun f hf => by
  obtain ⟨j, hj, rfl⟩ := List.mem_iff_getElem.1 hf
  exact h j hj hj
theorem check_many {l : List Fl} (h : ∀ j (hj : j < l.length), j < l.length → badF l[j] = none) (h2 : 32 < l.length) : checkE l = 15 := by
  unfold checkE
  rw [find_none h]
  exact if_pos h2
theorem check_twice {l : List Fl} (h : ∀ j (hj : j < l.length), j < l.length → badF l[j] = none) (h2 : ¬ 32 < l.length) (h3 : Twice l) : checkE l = 16 := by
  unfold checkE
  rw [find_none h]
  simp only
  rw [if_neg h2, if_pos h3]
theorem check_good {l : List Fl} (h : ∀ j (hj : j < l.length), j < l.length → badF l[j] = none) (h2 : ¬ 32 < l.length) (h3 : ¬ Twice l) : checkE l = 0 := by
  unfold checkE
  rw [find_none h]
  simp only
  rw [if_neg h2, if_neg h3]
end Go.Proofs.YtdidnlkilleljaaGreatDoor.Fs
namespace Go.Proofs.YtdidnlkilleljaaGreatDoor.Fs
set_option linter.unusedVariables false
set_option maxRecDepth 100000
end Go.Proofs.YtdidnlkilleljaaGreatDoor.Fs
