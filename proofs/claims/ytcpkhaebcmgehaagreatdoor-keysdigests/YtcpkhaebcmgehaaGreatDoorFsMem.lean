/- How files and entries lie in memory: rows of plain cells. -/
import Derived.Test.YtcpkhaebcmgehaaGreatDoorLgWords
import Derived.Test.YtcpkhaebcmgehaaGreatDoorLgCells
import Derived.Test.YtcpkhaebcmgehaaGreatDoorFsSpec
import Derived.Shelf.GgClosure.Gives
import Derived.WalkKit
import Derived.Maps.OwnSet
import Derived.Maps.OwnOps
import Derived.Maps.Views
import Derived.Deep.Draws
namespace Go.Proofs.YtcpkhaebcmgehaaGreatDoor.Fs
open Go.RowKit
set_option linter.unusedVariables false
set_option maxRecDepth 100000
/-- the cells of files -/
def fc (l : List Fl) : List Value := l.flatMap fun f => [.string f.p, .string f.d]
def ec1 (x : En) : List Value := [.string (bs x.n), .bool x.dir, .string (bs x.g)]
/-- the cells of entries -/
def ec (l : List En) : List Value := l.flatMap ec1
abbrev Fls (w : World) (A : Option Addr) (l : List Fl) : Prop := Reads w w.heap.size 2 A l.length (fc l)
abbrev Ens (w : World) (A : Option Addr) (l : List En) : Prop := Reads w w.heap.size 3 A l.length (ec l)
theorem fc_len (l : List Fl) : (fc l).length = l.length * 2 := by
  induction l with
  | nil => rfl
  | cons a l ih => rw [fc, List.flatMap_cons, List.length_append]; have : (l.flatMap fun f => [Value.string f.p, .string f.d]).length = l.length * 2 := ih; rw [this]; simp; omega
theorem ec_len (l : List En) : (ec l).length = l.length * 3 := by
  induction l with
  | nil => rfl
  | cons a l ih => rw [ec, List.flatMap_cons, List.length_append]; have : (l.flatMap ec1).length = l.length * 3 := ih; rw [this]; simp [ec1]; omega
theorem fc_append (a b : List Fl) : fc (a ++ b) = fc a ++ fc b := List.flatMap_append
theorem ec_append (a b : List En) : ec (a ++ b) = ec a ++ ec b := List.flatMap_append
theorem fc_one (f : Fl) : fc [f] = [.string f.p, .string f.d] := rfl
theorem ec_one (x : En) : ec [x] = [.string (bs x.n), .bool x.dir, .string (bs x.g)] := rfl
theorem fc_cell (l : List Fl) : ∀ u ∈ fc l, u.oneCell' = true := by
  intro u hu
  obtain ⟨f, _, h⟩ := List.mem_flatMap.1 hu
  simp only [List.mem_cons, List.not_mem_nil, or_false] at h
  rcases h with rfl | rfl <;> rfl
theorem ec_cell (l : List En) : ∀ u ∈ ec l, u.oneCell' = true := by
  intro u hu
  obtain ⟨f, _, h⟩ := List.mem_flatMap.1 hu
  simp only [ec1, List.mem_cons, List.not_mem_nil, or_false] at h
  rcases h with rfl | rfl | rfl <;> rfl
theorem fc_at : ∀ {l : List Fl} {k : Nat} (hk : k < l.length), (fc l)[k * 2]? = some (.string l[k].p) ∧ (fc l)[k * 2 + 1]? = some (.string l[k].d)
  | [], k, hk => absurd hk (by simp)
  | f :: l, 0, _ => ⟨rfl, rfl⟩
  | f :: l, k + 1, hk => by
    have ih := fc_at (l := l) (k := k) (by simpa using hk)
    rw [show (k + 1) * 2 = k * 2 + 2 by omega, show k * 2 + 2 + 1 = k * 2 + 1 + 2 by omega]
    exact ih
theorem ec_at : ∀ {l : List En} {k : Nat} (hk : k < l.length), (ec l)[k * 3]? = some (.string (bs l[k].n)) ∧ (ec l)[k * 3 + 1]? = some (.bool l[k].dir) ∧ (ec l)[k * 3 + 2]? = some (.string (bs l[k].g))
  | [], k, hk => absurd hk (by simp)
  | f :: l, 0, _ => ⟨rfl, rfl, rfl⟩
  | f :: l, k + 1, hk => by
    have ih := ec_at (l := l) (k := k) (by simpa using hk)
    rw [show (k + 1) * 3 = k * 3 + 3 by omega, show k * 3 + 3 + 1 = k * 3 + 1 + 3 by omega, show k * 3 + 3 + 2 = k * 3 + 2 + 3 by omega]
    exact ih
theorem Fls.at_ {w : World} {B : Nat} {A : Option Addr} {l : List Fl} (h : Reads w B 2 A l.length (fc l)) {k : Nat} (hk : k < l.length) :
    ∃ ad, A = some ad ∧ ad.block < B ∧ w.cell? (ad.add (k * 2)) = some (.string l[k].p) ∧ w.cell? ⟨(ad.add (k * 2)).block, (ad.add (k * 2)).off + 1, none⟩ = some (.string l[k].d) := by
  obtain ⟨ad, e, hb, hc⟩ := h.2 (by omega)
  obtain ⟨h0, h1⟩ := fc_at hk
  refine ⟨ad, e, hb, hc _ _ h0, ?_⟩
  have := hc _ _ h1
  rw [← add_of_add] at this
  exact this
theorem Ens.at_ {w : World} {B : Nat} {A : Option Addr} {l : List En} (h : Reads w B 3 A l.length (ec l)) {k : Nat} (hk : k < l.length) :
    ∃ ad, A = some ad ∧ ad.block < B ∧ w.cell? (ad.add (k * 3)) = some (.string (bs l[k].n)) ∧ w.cell? ⟨(ad.add (k * 3)).block, (ad.add (k * 3)).off + 1, none⟩ = some (.bool l[k].dir) ∧ w.cell? ⟨(ad.add (k * 3)).block, (ad.add (k * 3)).off + 2, none⟩ = some (.string (bs l[k].g)) := by
  obtain ⟨ad, e, hb, hc⟩ := h.2 (by omega)
  obtain ⟨h0, h1, h2⟩ := ec_at hk
  refine ⟨ad, e, hb, hc _ _ h0, ?_, ?_⟩
  · have := hc _ _ h1
    rw [← add_of_add] at this
    exact this
  · have := hc _ _ h2
    rw [← add_of_add] at this
    exact this
theorem fc_inj : ∀ {a b : List Fl}, fc a = fc b → a = b
  | [], [], _ => rfl
  | [], b :: m, h => by simp [fc] at h
  | a :: l, [], h => by simp [fc] at h
  | a :: l, b :: m, h => by
    simp only [fc, List.flatMap_cons, List.cons_append, List.nil_append, List.cons.injEq, Value.string.injEq] at h
    obtain ⟨h1, h2, h3⟩ := h
    have := fc_inj (a := l) (b := m) h3
    cases a; cases b
    simp_all
/-- one thing of two cells in a new block -/
theorem reads2_new (w : World) (o1 : Obj) (T : TypeId) (a b : Value) : Reads ((w.alloc o1).alloc (.cells #[a, b] T)) ((w.alloc o1).alloc (.cells #[a, b] T)).heap.size 2 (some ⟨w.heap.size + 1, 0, none⟩) 1 [a, b] :=
  ⟨rfl, fun _ => ⟨_, rfl, by simp, fun j u hu => by
    rw [Lg.add_eq, Lg.cell_at (heap_alloc2_new w o1 _)]
    simpa using hu⟩⟩
theorem reads2_one (w : World) (T : TypeId) (a b : Value) (g : Nat) (hg : w.heap.size = g) : Reads (w.alloc (.cells #[a, b] T)) (w.alloc (.cells #[a, b] T)).heap.size 2 (some ⟨g, 0, none⟩) 1 [a, b] := by
  subst hg
  exact ⟨rfl, fun _ => ⟨_, rfl, by simp, fun j u hu => by
    rw [Lg.add_eq, Lg.cell_at (heap_alloc_new w _)]
    simpa using hu⟩⟩
/-- what the library's variables hold -/
def Env (w : World) : Prop := (∃ m, w.cell? ⟨0, 0, none⟩ = some (.int .i64 m)) ∧ Tab w
theorem cell_lt {w : World} {a : Addr} {v : Value} (h : w.cell? a = some v) : a.block < w.heap.size := by
  unfold World.cell? at h
  rcases Nat.lt_or_ge a.block w.heap.size with h1 | h1
  · exact h1
  · rw [Array.getElem?_eq_none h1] at h; cases h
theorem Env.below {w w' : World} (h : Env w) (hb : Below w.heap.size w w') : Env w' := by
  obtain ⟨⟨m, h1⟩, h2⟩ := h
  exact ⟨⟨m, (hb.cell (cell_lt h1)).trans h1⟩, h2.on hb⟩
theorem infoF : ∃ z, (Tryz.prog.info? 71).map (fun i => (i.zero, i.size, i.bytes)) = some (some z, 2, 32) ∧ z.cells.size = 2 := ⟨.agg #[.string ⟨#[]⟩, .string ⟨#[]⟩], by kernel_rfl, rfl⟩
theorem infoE : ∃ z, (Tryz.prog.info? 86).map (fun i => (i.zero, i.size, i.bytes)) = some (some z, 3, 40) ∧ z.cells.size = 3 := ⟨.agg #[.string ⟨#[]⟩, .bool false, .string ⟨#[]⟩], by kernel_rfl, rfl⟩
end Go.Proofs.YtcpkhaebcmgehaaGreatDoor.Fs
/- slices.IndexFunc over files, with whatever predicate. -/
namespace Go.Proofs.YtcpkhaebcmgehaaGreatDoor.Fs
open Go.RowKit
set_option linter.unusedVariables false
set_option maxRecDepth 100000
section
variable {α : Type}
/-- where the first thing stands that is so; -1: there is none -/
def idx (p : α → Bool) (l : List α) : Int :=
  match l.findIdx? p with
  | some i => i
  | none => -1
def NoneTo (p : α → Bool) (l : List α) (k : Nat) : Prop := ∀ j (hj : j < l.length), j < k → p l[j] = false
theorem NoneTo.zero (p : α → Bool) (l : List α) : NoneTo p l 0 := fun j _ h => by omega
theorem NoneTo.next {p : α → Bool} {l : List α} {k : Nat} (hk : k < l.length) (h : NoneTo p l k) (hp : p l[k] = false) : NoneTo p l (k + 1) := fun j hj h1 => by
  rcases Nat.lt_or_ge j k with h2 | h2
  · exact h j hj h2
  · obtain rfl : j = k := by omega
    exact hp
theorem idx_hit {p : α → Bool} {l : List α} {k : Nat} (hk : k < l.length) (h : NoneTo p l k) (hp : p l[k] = true) : idx p l = k := by
  have : l.findIdx? p = some k := by
    rw [List.findIdx?_eq_some_iff_getElem]
    exact ⟨hk, hp, fun j hj => by rw [h j (by omega) hj]; simp⟩
  rw [idx, this]
theorem idx_miss {p : α → Bool} {l : List α} (h : NoneTo p l l.length) : idx p l = -1 := by
  have : l.findIdx? p = none := by
    rw [List.findIdx?_eq_none_iff]
    intro x hx
    obtain ⟨j, hj, rfl⟩ := List.mem_iff_getElem.1 hx
    exact h j hj hj
  rw [idx, this]
theorem find_hit {p : α → Bool} {l : List α} {k : Nat} (hk : k < l.length) (h : NoneTo p l k) (hp : p l[k] = true) : l.find? p = some l[k] := by
  rw [List.find?_eq_some_iff_getElem]
  exact ⟨hp, k, hk, rfl, fun j hj => by rw [h j (by omega) hj]; rfl⟩
theorem find_miss {p : α → Bool} {l : List α} (h : NoneTo p l l.length) : l.find? p = none := List.find?_eq_none.2 fun x hx => by
  obtain ⟨j, hj, rfl⟩ := List.mem_iff_getElem.1 hx
  rw [h j hj hj]; simp
theorem idx_cases (p : α → Bool) (l : List α) : (idx p l = -1 ∧ l.find? p = none) ∨ ∃ (k : Nat) (hk : k < l.length), idx p l = k ∧ l.find? p = some l[k] := by
  rw [idx]
  cases e : l.findIdx? p with
  | none =>
    rw [List.findIdx?_eq_none_iff] at e
    exact .inl ⟨rfl, List.find?_eq_none.2 fun x hx => by simp [e x hx]⟩
  | some i =>
    obtain ⟨hi, hp, hn⟩ := List.findIdx?_eq_some_iff_getElem.1 e
    refine .inr ⟨i, hi, rfl, ?_⟩
    rw [List.find?_eq_some_iff_getElem]
    exact ⟨hp, i, hi, rfl, fun j hj => by simpa using hn j hj⟩
end
theorem indexF_any (g : Nat) (lb : Array Value) (eg : ∀ args w, (callFunc g args).run Tryz.prog w = .ok (.enter g args) w) (p : Fl → Bool) (A : Option Addr) (l : List Fl) (c : Nat) (w : World) (hr : Fls w A l) (hl : l.length ≤ 1000000000)
    (hp : ∀ f ∈ l, ∀ W, Below w.heap.size w W → Calls Tryz.prog g (#[.agg #[.string f.p, .string f.d]] ++ lb) W fun e w' => e = .returned (.bool (p f)) ∧ Below W.heap.size W w') :
    Calls Tryz.prog 147 #[.slice A l.length c, .func (.func g) #[] lb] w fun e w' => e = .returned (.int .i64 (idx p l)) ∧ Below w.heap.size w w' := by
  have RD : Hid (∀ W, Below w.heap.size w W → Reads W w.heap.size 2 A l.length (fc l)) := Lib.hid fun W hW => hr.below hW
  have PR := Lib.hid hp
  clear hr hp
  go_enter Tryz.func147, Tryz.ntmps147
  go_wp2_with (fail)
  go_loopw [8] (fun i W => ∃ k : Nat, i = .int .i64 k ∧ k ≤ l.length ∧ NoneTo p l k ∧ Below w.heap.size w W) (fun i _ => l.length - (intOf i).toNat)
  case atStart => exact ⟨0, rfl, by omega, NoneTo.zero _ _, Below.refl _ _⟩
  case round =>
    obtain ⟨k, rfl, hk, ha, hb⟩ := hrel
    have HA := Lib.hid ha
    clear ha
    by_cases hlt : k < l.length
    · have hkI : (k : Int) < (l.length : Int) := by omega
      obtain ⟨ad, rfl, had, c0, c1⟩ := Fls.at_ (RD.out _ hb) hlt
      have AF := Lib.hid (PR.out l[k] (List.getElem_mem hlt) _ hb)
      have NXT := Lib.hid (NoneTo.next hlt HA.out)
      have HIT := Lib.hid (idx_hit hlt HA.out)
      generalize l[k] = f at *
      cases hp : p f
      · rw [hp] at AF
        have F := Lib.hid (NXT.out hp)
        clear hp HIT
        go_wp2_with (go_at_fn g; ((with_reducible refine (AF.out).mono ?_); rintro e w1 ⟨rfl, hb1⟩))
        go_roundw
        case rel => exact ⟨k + 1, by go_num, by omega, F.out, hb.trans (hb1.mono hb.size)⟩
        case measure => simp [intOf]; omega
      · rw [hp] at AF
        have F := Lib.hid (HIT.out hp)
        clear hp NXT
        go_wp2_with (go_at_fn g; ((with_reducible refine (AF.out).mono ?_); rintro e w1 ⟨rfl, hb1⟩))
        go_ret
        exact ⟨Lg.ret_int F.out, hb.trans (hb1.mono hb.size)⟩
    · obtain rfl : k = l.length := by omega
      have F := Lib.hid (idx_miss HA.out)
      go_wp2_with (fail)
      go_ret
      exact ⟨Lg.ret_int F.out, hb⟩
end Go.Proofs.YtcpkhaebcmgehaaGreatDoor.Fs
/- A map from texts to texts as a function: how it lies, a look-up with its second answer, a store. -/
namespace Go.Proofs.YtcpkhaebcmgehaaGreatDoor.Fs
open Go.RowKit Go.Maps
set_option linter.unusedVariables false
set_option maxRecDepth 100000
theorem kstr : Keyed Tryz.prog 9 := string_keyed Tryz.underlying9
theorem kof {s : ByteArray} (hs : s.size ≤ maxLen) : keyOf Tryz.prog 9 (.string s) = some (.string s.data.toList) := WideMaps.keyOf_string_mk Tryz.underlying9 hs
theorem klit_ne {a b : ByteArray} (h : a ≠ b) : (Lit.string a.data.toList) ≠ .string b.data.toList := by
  intro e
  injection e with e
  exact h (Lg.tl_inj e)
/-- block m is the map f -/
def KnAt (w : World) (m n : Nat) (f : B → Option ByteArray) : Prop :=
  ∃ D : DataW Unit, w.ownsMap Tryz.prog 9 (plainElem Tryz.prog 9) m n D ∧ ∀ s : ByteArray, Maps.has D (.string s.data.toList) = (f (tl s)).isSome ∧ D.atKey (.string s.data.toList) (.lit (.string [])) = .lit (.string (tl ((f (tl s)).getD ⟨#[]⟩)))
theorem plain_str_inv {v : Value} {b : B} {ps : List MemPlace} (h : plainElem (H := Unit) Tryz.prog 9 v = some (.lit (.string b), ps)) : v = .string (bs b) := by
  unfold plainElem at h
  rw [Tryz.underlying9] at h
  cases v <;> simp at h
  rename_i s
  have : s.data.toList = b := h.2.1
  rw [← this]; rfl
theorem KnAt.keep {w w' : World} {m n : Nat} {f : B → Option ByteArray} (h : KnAt w m n f) (hb : w'.heap[m]? = w.heap[m]?) : KnAt w' m n f := by
  obtain ⟨D, ⟨es, cl, h1, h2, h3, h4⟩, hs⟩ := h
  exact ⟨D, ⟨es, cl, hb.trans h1, h2, h3, h4⟩, hs⟩
theorem KnAt.lt {w : World} {m n : Nat} {f : B → Option ByteArray} (h : KnAt w m n f) : m < w.heap.size := by
  obtain ⟨D, h1, _⟩ := h
  exact h1.lt
theorem KnAt.later {w w' : World} {m n : Nat} {f : B → Option ByteArray} (h : KnAt w m n f) (hb : Below w.heap.size w w') : KnAt w' m n f := h.keep (hb.block m h.lt)
theorem KnAt.alloc {w : World} {m n : Nat} {f : B → Option ByteArray} (h : KnAt w m n f) (o : Obj) : KnAt (w.alloc o) m n f := h.keep (Below.heap_alloc _ _ _ h.lt)
theorem KnAt.setCell {w : World} {m n : Nat} {f : B → Option ByteArray} (h : KnAt w m n f) {p : Addr} (hp : m ≠ p.block) (u : Value) : KnAt (w.setCell p u) m n f := h.keep (Below.heap_setCell _ _ _ _ hp)
theorem KnAt.grown {w w' : World} {m n : Nat} {f : B → Option ByteArray} {row : Option Nat} (h : KnAt w m n f) (hg : w.grownBy w' row) (hne : some m ≠ row) : KnAt w' m n f := h.keep (hg.block m h.lt hne)
theorem KnAt.made (w : World) : KnAt (w.alloc (.map #[] 0)) w.heap.size 0 (fun _ => none) := ⟨.map [], World.ownsMap_made _ _ _ _, fun s => ⟨rfl, rfl⟩⟩
/-- a look-up tells what is there, and whether something is -/
theorem KnAt.look {w : World} {m n : Nat} {f : B → Option ByteArray} (h : KnAt w m n f) {s : ByteArray} (hs : s.size ≤ maxLen) :
    (Instr.lookup 87 (.map (some m)) (.string s) true).run Tryz.prog w = .ok (.tuple #[.string ((f (tl s)).getD ⟨#[]⟩), .bool (f (tl s)).isSome]) w := by
  obtain ⟨D, h1, h2⟩ := h
  obtain ⟨v, ps, hrun, hv⟩ := h1.look_ok kstr Tryz.underlying87 (z := .string ⟨#[]⟩) (by kernel_rfl) (plainElem_string Tryz.underlying9 (by decide)) (kof hs)
  have e : (DataW.lit (Lit.string (⟨#[]⟩ : ByteArray).data.toList) : DataW Unit) = .lit (.string []) := rfl
  rw [e, (h2 s).2] at hv
  rw [hrun, plain_str_inv hv, (h2 s).1]
  rfl
/-- the map with one more -/
def upK (f : B → Option ByteArray) (k : B) (v : ByteArray) : B → Option ByteArray := fun d => if d = k then some v else f d
theorem KnAt.put {w : World} {m n : Nat} {f : B → Option ByteArray} (h : KnAt w m n f) (hn : n < maxLen) {s v : ByteArray} (hs : s.size ≤ maxLen) (hv : v.size ≤ maxLen) :
    ∃ w', (Instr.mapUpdate 87 (.map (some m)) (.string s) (.string v)).run Tryz.prog w = .ok () w' ∧ KnAt w' m (n + 1) (upK f (tl s) v) ∧ w.grownBy w' (some m) := by
  obtain ⟨D, h1, h2⟩ := h
  obtain ⟨w', hrun, ho, hg⟩ := h1.update (val := .string v) kstr Tryz.underlying87 hn (kof hs) (plainElem_string Tryz.underlying9 hv)
  refine ⟨w', hrun, ⟨_, ho, fun x => ?_⟩, hg⟩
  unfold upK
  by_cases e : x = s
  · subst e
    rw [if_pos rfl]
    exact ⟨has_put_same h1.isMap (show WideAt.IsKeyLit (.string x.data.toList) from trivial) _, atKey_put_same h1.isMap (show WideAt.IsKeyLit (.string x.data.toList) from trivial) _ _⟩
  · rw [if_neg (fun e2 => e (Lg.tl_inj e2))]
    exact ⟨(has_put_other (klit_ne e) _).trans (h2 x).1, (atKey_put_other (klit_ne e) _ _).trans (h2 x).2⟩
end Go.Proofs.YtcpkhaebcmgehaaGreatDoor.Fs
