/- Joined by mkmerged.py: DkLays, DkSpec, DkMem, DkWrong, DkAct, DkFind, DkLay. -/
import Derived.Shelf.SlIter.Nil
import Derived.Ground.GgzProg
import Derived.Test.YtifiipmmgnmciaaGreatDoorProg
import Derived.Test.YtifiipmmgnmciaaGreatDoorMi21
import Derived.Test.YtifiipmmgnmciaaGreatDoorMi16
import Derived.Test.YtifiipmmgnmciaaGreatDoorMi04
import Derived.Deep.QuietTactic
import Derived.Deep.RegionHeld3
import Derived.Deep.CutRange
import Derived.BigRegion
/- DkLays, what a claim needs of it (prune.py). -/
namespace Go.Proofs
open Go.Shelf
def Tryz.l212_ren : Go.Shelf.Ren := ⟨fun | 7 => 212 | 10 => 270 | n => n, fun | 23 => 112 | 26 => 9 | 3 => 291 | 28 => 168 | 0 => 0 | 27 => 167 | 33 => 48 | 4 => 4 | n => n, fun | n => n⟩
theorem Tryz.l212 : Go.Proofs.SlLaysZ.n7 Tryz.prog Tryz.l212_ren := {
  mixed := by kernel_rfl
  f7 := ⟨Tryz.f212.name, by decide, Tryz.func212.trans (congrArg some (by kernel_rfl))⟩
  f10 := ⟨Tryz.f270.name, by decide, Tryz.func270.trans (congrArg some (by kernel_rfl))⟩
  t0 := Tryz.underlying0
  a0 := Tryz.isAgg0
  z0 := Tryz.sizeOf0
  v0 := Tryz.zeroValue0
  t4 := Tryz.underlying4
  a4 := Tryz.isAgg4
  z4 := Tryz.sizeOf4
  v4 := Tryz.zeroValue4
  t23 := Tryz.underlying112
  a23 := Tryz.isAgg112
  z23 := Tryz.sizeOf112
  v23 := Tryz.zeroValue112
  t26 := Tryz.underlying9
  a26 := Tryz.isAgg9
  z26 := Tryz.sizeOf9
  v26 := Tryz.zeroValue9
  t27 := Tryz.underlying167
  a27 := Tryz.isAgg167
  z27 := Tryz.sizeOf167
  v27 := Tryz.zeroValue167
  t28 := Tryz.underlying168
  a28 := Tryz.isAgg168
  z28 := Tryz.sizeOf168
  v28 := Tryz.zeroValue168
  t33 := Tryz.underlying48
  a33 := Tryz.isAgg48
  z33 := Tryz.sizeOf48
  v33 := Tryz.zeroValue48 }
def Tryz.l190_ren : Go.Shelf.Ren := ⟨fun | 6 => 190 | 8 => 145 | 9 => 245 | 11 => 206 | 13 => 208 | 12 => 293 | 23 => 265 | 24 => 266 | 14 => 334 | 15 => 335 | 16 => 336 | 17 => 337 | 18 => 338 | 19 => 339 | 20 => 340 | 21 => 341 | 22 => 342 | 25 => 360 | 26 => 300 | 27 => 301 | 28 => 361 | 29 => 362 | 30 => 363 | 31 => 371 | n => n, fun | 26 => 9 | 28 => 168 | 24 => 32 | 0 => 0 | 3 => 3 | 37 => 317 | 48 => 361 | 50 => 363 | 4 => 4 | 40 => 355 | 39 => 354 | 45 => 279 | 5 => 5 | 9 => 9 | 51 => 395 | 55 => 399 | 57 => 441 | 58 => 442 | 33 => 48 | n => n, fun | n => n⟩
theorem Tryz.l190 : Go.Proofs.SlLaysZ.n6 Tryz.prog Tryz.l190_ren := {
  mixed := by kernel_rfl
  f6 := ⟨Tryz.f190.name, by decide, Tryz.func190.trans (congrArg some (by kernel_rfl))⟩
  f8 := ⟨Tryz.f145.name, by decide, Tryz.func145.trans (congrArg some (by kernel_rfl))⟩
  f11 := ⟨Tryz.f206.name, by decide, Tryz.func206.trans (congrArg some (by kernel_rfl))⟩
  t0 := Tryz.underlying0
  a0 := Tryz.isAgg0
  z0 := Tryz.sizeOf0
  v0 := Tryz.zeroValue0
  t24 := Tryz.underlying32
  a24 := Tryz.isAgg32
  z24 := Tryz.sizeOf32
  v24 := Tryz.zeroValue32
  t26 := Tryz.underlying9
  a26 := Tryz.isAgg9
  z26 := Tryz.sizeOf9
  v26 := Tryz.zeroValue9
  t28 := Tryz.underlying168
  a28 := Tryz.isAgg168
  z28 := Tryz.sizeOf168
  v28 := Tryz.zeroValue168
  i26 := by kernel_rfl }
end Go.Proofs
/- DkSpec, what a claim needs of it (prune.py). -/
namespace Go.Proofs.YtifiipmmgnmciaaGreatDoor.Dk
open Fs (B lt_or lt_tr)
set_option linter.unusedVariables false
structure Fd where
  n : B
  d : B
  firm : Nat
structure Dk where
  limit : Nat
  l : List Fd
  armed : Nat
  dead : Bool
def sz (l : List Fd) : Nat := (l.map fun f => f.d.length).sum
def get (l : List Fd) (n : B) : Option Fd := l.find? fun f => decide (f.n = n)
def set (f : Fd) : List Fd → List Fd
  | [] => [f]
  | g :: l => if g.n < f.n then g :: set f l else if g.n = f.n then f :: l else f :: g :: l
def drop (n : B) (l : List Fd) : List Fd := l.filter fun f => !decide (f.n = n)
def Rises (l : List Fd) : Prop := l.Pairwise fun f g => f.n < g.n
def bad (n : B) : Bool := decide (n = []) || decide (32 < n.length)
def wrong (d : Dk) (n : B) : Int := if d.dead = true then 40 else if bad n = true then 1 else 0
def act (d : Dk) : Dk := if 0 < d.armed then { d with armed := d.armed - 1, dead := decide (d.armed = 1) } else d
def dat (l : List Fd) (n : B) : B := match get l n with
  | some f => f.d
  | none => []
def firmOf (l : List Fd) (n : B) : Nat := match get l n with
  | some f => f.firm
  | none => 0
def append (d : Dk) (n s : B) : Dk × Int :=
  if wrong d n ≠ 0 then (d, wrong d n) else
  if d.limit < sz d.l + s.length then (d, 41) else
  if (act d).dead = true then ({ act d with l := set ⟨n, dat d.l n ++ s.take (s.length / 2), firmOf d.l n⟩ d.l }, 40)
  else ({ act d with l := set ⟨n, dat d.l n ++ s, firmOf d.l n⟩ d.l }, 0)
def find (d : Dk) (n : B) : Option Fd × Int :=
  if wrong d n ≠ 0 then (none, wrong d n) else
  match get d.l n with
  | some f => (some f, 0)
  | none => (none, 17)
def sync (d : Dk) (n : B) : Dk × Int :=
  match find d n with
  | (none, e) => (d, e)
  | (some f, _) => if (act d).dead = true then (act d, 40) else ({ act d with l := set ⟨n, f.d, f.d.length⟩ d.l }, 0)
def rename (d : Dk) (a b : B) : Dk × Int :=
  if wrong d a ≠ 0 then (d, wrong d a) else if wrong d b ≠ 0 then (d, wrong d b) else
  if a = b then (d, 1) else
  match get d.l a with
  | none => (d, 17)
  | some f => if (act d).dead = true then (act d, 40) else ({ act d with l := set ⟨b, f.d, f.firm⟩ (drop a d.l) }, 0)
def read (d : Dk) (n : B) : B × Int :=
  match find d n with
  | (none, e) => ([], e)
  | (some f, e) => (f.d, e)
def names (d : Dk) : List B := d.l.map Fd.n
structure Fine (d : Dk) : Prop where
  rises : Rises d.l
  firm : ∀ f ∈ d.l, f.firm ≤ f.d.length
  room : sz d.l ≤ d.limit
  limit : d.limit ≤ 16777216
  armed : (d.armed : Int) ≤ 9223372036854775807
  names : ∀ f ∈ d.l, 0 < f.n.length ∧ f.n.length ≤ 32
theorem get_set (f : Fd) (n : B) : ∀ l : List Fd, Rises l → get (set f l) n = if n = f.n then some f else get l n
  | [], _ => by
    unfold set get
    by_cases h : n = f.n
    · rw [if_pos h]; simp [h]
    · rw [if_neg h]
      have : ¬ f.n = n := fun e => h e.symm
      simp [this]
  | g :: l, hr => by
    obtain ⟨h1, h2⟩ := List.pairwise_cons.1 hr
    have ih := get_set f n l h2
    unfold get at ih
    rw [set]
    by_cases hlt : g.n < f.n
    · rw [if_pos hlt]
      unfold get
      rw [List.find?_cons, List.find?_cons, ih]
      by_cases hg : g.n = n
      · have : ¬ n = f.n := fun e => by rw [hg, e] at hlt; exact List.lt_irrefl _ hlt
        simp [hg, this]
      · simp [hg]
    · rw [if_neg hlt]
      by_cases he : g.n = f.n
      · rw [if_pos he]
        unfold get
        rw [List.find?_cons, List.find?_cons]
        by_cases hn : n = f.n
        · simp [hn]
        · have h3 : ¬ f.n = n := fun e => hn e.symm
          have h4 : ¬ g.n = n := fun e => hn (by rw [← e, he])
          simp [h3, h4, hn]
      · rw [if_neg he]
        unfold get
        rw [List.find?_cons]
        by_cases hn : n = f.n
        · simp [hn]
        · have h3 : ¬ f.n = n := fun e => hn e.symm
          simp [h3, hn]
theorem mem_set {f x : Fd} : ∀ {l : List Fd}, x ∈ set f l → x = f ∨ x ∈ l
  | [], h => by simpa [set] using h
  | g :: l, h => by
    rw [set] at h
    split at h
    · rcases List.mem_cons.1 h with rfl | h
      · exact .inr (by simp)
      · rcases mem_set h with rfl | h
        · exact .inl rfl
        · exact .inr (List.mem_cons_of_mem _ h)
    · split at h
      · rcases List.mem_cons.1 h with rfl | h
        · exact .inl rfl
        · exact .inr (List.mem_cons_of_mem _ h)
      · rcases List.mem_cons.1 h with rfl | h
        · exact .inl rfl
        · exact .inr h
theorem set_rises (f : Fd) : ∀ {l : List Fd}, Rises l → Rises (set f l)
  | [], _ => by simp [set, Rises]
  | g :: l, hr => by
    obtain ⟨h1, h2⟩ := List.pairwise_cons.1 hr
    rw [set]
    by_cases hlt : g.n < f.n
    · rw [if_pos hlt]
      refine List.pairwise_cons.2 ⟨fun x hx => ?_, set_rises f h2⟩
      rcases mem_set hx with rfl | hx
      · exact hlt
      · exact h1 x hx
    · rw [if_neg hlt]
      by_cases he : g.n = f.n
      · rw [if_pos he]
        exact List.pairwise_cons.2 ⟨fun x hx => by rw [← he]; exact h1 x hx, h2⟩
      · rw [if_neg he]
        have hfg : f.n < g.n := by
          rcases lt_or (a := f.n) (b := g.n) with h | h | h
          · exact h
          · exact absurd h.symm he
          · exact absurd h hlt
        refine List.pairwise_cons.2 ⟨fun x hx => ?_, hr⟩
        rcases List.mem_cons.1 hx with rfl | hx
        · exact hfg
        · exact lt_tr hfg (h1 x hx)
theorem get_mem {l : List Fd} {n : B} {f : Fd} (h : get l n = some f) : f ∈ l ∧ f.n = n := by
  unfold get at h
  exact ⟨List.mem_of_find?_eq_some h, by simpa using List.find?_some h⟩
theorem sz_cons (f : Fd) (l : List Fd) : sz (f :: l) = f.d.length + sz l := by simp [sz]
theorem sz_set (f : Fd) : ∀ {l : List Fd}, Rises l → sz (set f l) + (dat l f.n).length = sz l + f.d.length
  | [], _ => by simp [set, sz, dat, get]
  | g :: l, hr => by
    obtain ⟨h1, h2⟩ := List.pairwise_cons.1 hr
    have ih := sz_set f h2
    rw [set]
    by_cases hlt : g.n < f.n
    · rw [if_pos hlt, sz_cons, sz_cons]
      have hne : ¬ g.n = f.n := fun e => by rw [e] at hlt; exact List.lt_irrefl _ hlt
      have hd : dat (g :: l) f.n = dat l f.n := by unfold dat get; rw [List.find?_cons]; simp [hne]
      rw [hd]; omega
    · rw [if_neg hlt]
      by_cases he : g.n = f.n
      · rw [if_pos he, sz_cons, sz_cons]
        have hd : dat (g :: l) f.n = g.d := by unfold dat get; rw [List.find?_cons]; simp [he]
        rw [hd]; omega
      · rw [if_neg he, sz_cons]
        have hfg : f.n < g.n := by
          rcases lt_or (a := f.n) (b := g.n) with h | h | h
          · exact h
          · exact absurd h.symm he
          · exact absurd h hlt
        have hn : get (g :: l) f.n = none := by
          unfold get
          refine List.find?_eq_none.2 fun x hx => ?_
          have : x.n ≠ f.n := by
            rcases List.mem_cons.1 hx with rfl | hx
            · exact he
            · intro e
              have h3 := lt_tr hfg (h1 x hx)
              rw [e] at h3
              exact List.lt_irrefl _ h3
          simp [this]
        unfold dat
        rw [hn]
        simp; omega
end Go.Proofs.YtifiipmmgnmciaaGreatDoor.Dk
/- DkMem, what a claim needs of it (prune.py). -/
namespace Go.Proofs.YtifiipmmgnmciaaGreatDoor.Dk
open Go.RowKit
open Fs (cell_lt B)
set_option linter.unusedVariables false
set_option maxRecDepth 100000
def NoT (W : World) (b : Nat) : Prop := ∀ (a : Addr) s, a.block = b → W.cell? a ≠ some (.string s)
theorem reads_kp {S : Nat → Prop} {W W' : World} {B0 s n : Nat} {A : Option Addr} {xs : List Value} (h : Reads W B0 s A n xs) (hk : Kp S W W') (hB : B0 ≤ W.heap.size) (hS : ∀ k, S k → NoT W k) (hx : 0 < n → ∃ t, xs[0]? = some (.string t)) : Reads W' W'.heap.size s A n xs :=
  ⟨h.1, fun hn => by
    obtain ⟨ad, e, hb, hc⟩ := h.2 hn
    obtain ⟨t, ht⟩ := hx hn
    have h0 := hc 0 _ ht
    have hns : ¬ S ad.block := fun hs => hS _ hs (ad.add 0) _ (block_of_add ad 0) h0
    exact ⟨ad, e, by have := hk.size; omega, fun j u hu => (World.cell?_of_block (by rw [block_of_add]; exact hk.block _ (by omega) hns)).trans (hc j u hu)⟩⟩
def valF (f : Fd) : Value := .agg #[.string (bs f.d), .int .i64 (f.firm : Int)]
structure DkAt (W : World) (b m n : Nat) (d : Dk) : Prop where
  st : W.heap[b]? = some (.cells #[.int .i64 (d.limit : Int), .map (some m), .int .i64 (sz d.l : Int), .int .i64 (d.armed : Int), .bool d.dead] 114 (0, 0))
  map : Mv.VMap W m n fun s => (get d.l (tl s)).map valF
  fine : Fine d
theorem DkAt.keep {W W' : World} {b m n : Nat} {d : Dk} (h : DkAt W b m n d) (h1 : W'.heap[b]? = W.heap[b]?) (h2 : W'.heap[m]? = W.heap[m]?) : DkAt W' b m n d := ⟨h1.trans h.st, h.map.keep h2, h.fine⟩
theorem DkAt.below {W W' : World} {b m n : Nat} {d : Dk} (h : DkAt W b m n d) (hb : Below W.heap.size W W') : DkAt W' b m n d := h.keep (hb.block _ (Lg.lt_heap h.st)) (hb.block _ h.map.lt)
def DkS (b m : Nat) : Nat → Prop := fun k => k = b ∨ k = m
theorem dat_le (l : List Fd) (n : B) : (dat l n).length ≤ sz l := by
  unfold dat
  cases h : get l n with
  | none => simp
  | some f =>
    obtain ⟨hf, _⟩ := get_mem h
    clear h
    induction l with
    | nil => cases hf
    | cons g l ih =>
      rw [sz_cons]
      rcases List.mem_cons.1 hf with rfl | hf
      · simp
      · have := ih hf
        simp only at this ⊢
        omega
theorem map_ne {W : World} {b m n : Nat} {d : Dk} (h : DkAt W b m n d) : b ≠ m := fun e => by
  have hc : W.cell? ⟨b, 0, none⟩ = some (.int .i64 (d.limit : Int)) := (cell_heap h.st 0).trans rfl
  exact h.map.nocell hc e
end Go.Proofs.YtifiipmmgnmciaaGreatDoor.Dk
/- DkWrong, what a claim needs of it (prune.py). -/
namespace Go.Proofs.YtifiipmmgnmciaaGreatDoor.Dk
open Go.RowKit
open Fs (cell_lt B NoneTo idx idx_hit idx_miss idx_any)
set_option linter.unusedVariables false
set_option maxRecDepth 100000
theorem indexT_any (g : Nat) (lb : Array Value) (eg : ∀ args w, (callFunc g args).run Tryz.prog w = .ok (.enter g args) w) (p : ByteArray → Bool) (A : Option Addr) (l : List ByteArray) (c : Nat) (w : World) (hr : Lg.Strs w A l) (hl : l.length ≤ 1000000000)
    (hp : ∀ s ∈ l, ∀ W, Calls Tryz.prog g (#[.string s] ++ lb) W fun e w' => e = .returned (.bool (p s)) ∧ W = w') :
    Calls Tryz.prog 43 #[.slice A l.length c, .func (.func g) #[] lb] w fun e w' => e = .returned (.int .i64 (idx p l)) ∧ w = w' := by
  have RD := Lib.hid hr
  have PR := Lib.hid hp
  clear hr hp
  go_enter Tryz.func43, Tryz.ntmps43
  go_wp2_with (fail)
  go_loopw [8] (fun i W => ∃ k : Nat, i = .int .i64 k ∧ k ≤ l.length ∧ Hid (NoneTo p l k) ∧ w = W) (fun i _ => l.length - (intOf i).toNat)
  case atStart => exact ⟨0, rfl, by omega, Lib.hid (NoneTo.zero _ _), rfl⟩
  case round =>
    obtain ⟨k, rfl, hk, HA, rfl⟩ := hrel
    by_cases hlt : k < l.length
    · have hkI : (k : Int) < (l.length : Int) := by omega
      obtain ⟨ad, rfl, had, c0⟩ := RD.out.at_ hlt
      have AF := Lib.hid (PR.out l[k] (List.getElem_mem hlt))
      have NXT := Lib.hid (NoneTo.next hlt HA.out)
      have HIT := Lib.hid (idx_hit hlt HA.out)
      generalize l[k] = f at *
      cases hp : p f
      · rw [hp] at AF
        have F := Lib.hid (NXT.out hp)
        clear hp HIT
        go_wp2_with (go_at_fn g; ((with_reducible refine (AF.out _).mono ?_); rintro e w1 ⟨rfl, rfl⟩))
        go_roundw
        case rel => exact ⟨k + 1, by go_num, by omega, Lib.hid F.out, by first | rfl | trivial⟩
        case measure => simp [intOf]; omega
      · rw [hp] at AF
        have F := Lib.hid (HIT.out hp)
        clear hp NXT
        go_wp2_with (go_at_fn g; ((with_reducible refine (AF.out _).mono ?_); rintro e w1 ⟨rfl, rfl⟩))
        go_ret
        exact ⟨Lg.ret_int F.out, rfl⟩
    · obtain rfl : k = l.length := by omega
      have F := Lib.hid (idx_miss HA.out)
      go_wp2_with (fail)
      go_ret
      exact ⟨Lg.ret_int F.out, rfl⟩
theorem containsT_any (g : Nat) (lb : Array Value) (eg : ∀ args w, (callFunc g args).run Tryz.prog w = .ok (.enter g args) w) (p : ByteArray → Bool) (A : Option Addr) (l : List ByteArray) (c : Nat) (w : World) (hr : Lg.Strs w A l) (hl : l.length ≤ 1000000000)
    (hp : ∀ s ∈ l, ∀ W, Calls Tryz.prog g (#[.string s] ++ lb) W fun e w' => e = .returned (.bool (p s)) ∧ W = w') :
    Calls Tryz.prog 118 #[.slice A l.length c, .func (.func g) #[] lb] w fun e w' => e = .returned (.bool (l.any p)) ∧ w = w' := by
  have F := Lib.hid (idx_any p l)
  have IX := Lib.hid (indexT_any g lb eg p A l c w hr hl hp)
  clear hr hp
  generalize idx p l = r at *
  go_enter Tryz.func118, Tryz.ntmps118
  go_wp2_with (go_at_call 43; (with_reducible refine (IX.out).mono ?_); rintro e w1 ⟨rfl, rfl⟩)
  go_ret
  exact ⟨by rw [← F.out]; rfl, rfl⟩
theorem bad_size (s : ByteArray) : bad (tl s) = (decide (s.size = 0) || decide (32 < s.size)) := by
  unfold bad
  rw [Fs.tl_len]
  congr 1
  rw [decide_eq_decide]
  constructor
  · intro h; rw [← Fs.tl_len, h]; rfl
  · intro h; exact List.eq_nil_of_length_eq_zero (by rw [Fs.tl_len]; exact h)
theorem wrong1_any (s : ByteArray) (W : World) (hs : s.size ≤ maxLen) : Calls Tryz.prog 242 #[.string s] W fun e w' => e = .returned (.bool (bad (tl s))) ∧ W = w' := by
  unfold maxLen at hs
  rw [bad_size]
  by_cases h0 : s.size = 0
  · obtain rfl : s = ⟨#[]⟩ := by
      have : tl s = [] := List.eq_nil_of_length_eq_zero (by rw [Fs.tl_len]; exact h0)
      exact Lg.tl_inj this
    go_enter Tryz.func242, Tryz.ntmps242
    go_wp2_with (fail)
    go_ret
    exact ⟨rfl, rfl⟩
  · have hne := Lg.some_ne (s := s) (by omega)
    have hd : (s.toList == []) = false := by simpa using hne
    by_cases h1 : 32 < s.size
    · have q : (32 : Int) < (s.size : Int) := by omega
      have F : Hid ((decide (s.size = 0) || decide (32 < s.size)) = true) := Lib.hid (by simp [h1])
      go_enter Tryz.func242, Tryz.ntmps242
      go_wp2_with (fail)
      go_ret
      exact ⟨by first | rfl | (rw [F.out]; rfl), rfl⟩
    · have q : ¬ (32 : Int) < (s.size : Int) := by omega
      have F : Hid ((decide (s.size = 0) || decide (32 < s.size)) = false) := Lib.hid (by simp [h0, h1])
      go_enter Tryz.func242, Tryz.ntmps242
      go_wp2_with (fail)
      go_ret
      exact ⟨by first | rfl | (rw [F.out]; rfl), rfl⟩
def wrongL (d : Dk) (l : List ByteArray) : Int := if d.dead = true then 40 else if l.any (fun s => bad (tl s)) = true then 1 else 0
theorem pwrong_any (b m n : Nat) (d : Dk) (A : Option Addr) (l : List ByteArray) (c : Nat) (W : World) (hD : DkAt W b m n d) (hr : Lg.Strs W A l) (hl : l.length ≤ 1000000000) (hz : ∀ s ∈ l, s.size ≤ maxLen) :
    Calls Tryz.prog 181 #[.pointer (some ⟨b, 0, none⟩), .slice A l.length c] W fun e w' => e = .returned (.int .i64 (wrongL d l)) ∧ W = w' := by
  have c4 : W.cell? ⟨b, 4, none⟩ = some (.bool d.dead) := (cell_heap hD.st 4).trans rfl
  have C : Hid (Calls Tryz.prog 118 #[.slice A l.length c, .func (.func 242) #[] #[]] W fun e w' => e = .returned (.bool (l.any fun s => bad (tl s))) ∧ W = w') := Lib.hid (containsT_any 242 #[] (enters_of Tryz.func242 (by kernel_rfl) rfl) (fun s => bad (tl s)) A l c W hr hl (fun s hs W => wrong1_any s W (hz s hs)))
  have F : Hid (wrongL d l = if d.dead = true then 40 else if l.any (fun s => bad (tl s)) = true then 1 else 0) := Lib.hid rfl
  clear hD hr hz
  generalize d.dead = dd at *
  generalize (l.any fun s => bad (tl s)) = bb at *
  cases dd
  · cases bb
    all_goals
      go_enter Tryz.func181, Tryz.ntmps181
      go_wp2_with (go_at_call 118; (with_reducible refine (C.out).mono ?_); rintro e w1 ⟨rfl, rfl⟩)
      go_ret
      exact ⟨by first | rfl | (rw [F.out]; rfl), rfl⟩
  · go_enter Tryz.func181, Tryz.ntmps181
    go_wp2_with (fail)
    go_ret
    exact ⟨by first | rfl | (rw [F.out]; rfl), rfl⟩
end Go.Proofs.YtifiipmmgnmciaaGreatDoor.Dk
/- DkAct, what a claim needs of it (prune.py). -/
namespace Go.Proofs.YtifiipmmgnmciaaGreatDoor.Dk
open Go.RowKit
open Fs (cell_lt B)
set_option linter.unusedVariables false
set_option maxRecDepth 100000
def newD (limit : Nat) : Dk := ⟨limit, [], 0, false⟩
theorem newD_fine {limit : Nat} (h : limit ≤ 16777216) : Fine (newD limit) := ⟨List.Pairwise.nil, by simp [newD], by simp [newD, sz], h, by simp [newD], by simp [newD]⟩
theorem pnew_yes (n : Nat) (W : World) (h0 : 1 ≤ n) (h1 : n ≤ 16777216) : Calls Tryz.prog 24 #[.int .i64 (n : Int)] W fun e w' => e = .returned (.tuple #[.pointer (some ⟨W.heap.size + 1, 0, none⟩), .int .i64 0]) ∧ DkAt w' (W.heap.size + 1) W.heap.size 0 (newD n) ∧ Below W.heap.size W w' ∧ w'.heap.size = W.heap.size + 2 := by
  have q1 : ¬ (n : Int) < 1 := by omega
  have q2 : ¬ (16777216 : Int) < (n : Int) := by omega
  have hmm := @run_makeMap Tryz.prog
  have FN := Lib.hid (newD_fine h1)
  have D : Hid (∀ w', w' = (W.alloc (.map #[] 0)).alloc (.cells #[.int .i64 (n : Int), .map (some W.heap.size), .int .i64 0, .int .i64 0, .bool false] 114) → DkAt w' (W.heap.size + 1) W.heap.size 0 (newD n) ∧ Below W.heap.size W w' ∧ w'.heap.size = W.heap.size + 2) := Lib.hid fun w' e => by
    subst e
    refine ⟨⟨heap_alloc2_new W _ _, ?_, FN.out⟩, ((Below.refl _ _).alloc (Nat.le_refl _) _).alloc (by simp) _, by simp⟩
    have := (Mv.VMap.made W).keep (w' := (W.alloc (.map #[] 0)).alloc (.cells #[.int .i64 (n : Int), .map (some W.heap.size), .int .i64 0, .int .i64 0, .bool false] 114)) (Below.heap_alloc _ _ _ (by simp))
    exact this
  clear FN
  go_enter Tryz.func24, Tryz.ntmps24
  go_wp2_with (fail)
  go_ret2
  exact ⟨rfl, D.out _ rfl⟩
def ActSays (b m n : Nat) (d : Dk) (W : World) (e : Ending) (w' : World) : Prop := e = .returned (.int .i64 (if (act d).dead = true then 40 else 0)) ∧ DkAt w' b m n (act d) ∧ Kp (DkS b m) W w'
theorem act_fine {d : Dk} (h : Fine d) : Fine (act d) := by
  unfold act
  split
  · exact ⟨h.rises, h.firm, h.room, h.limit, by have := h.armed; show ((d.armed - 1 : Nat) : Int) ≤ _; omega, h.names⟩
  · exact h
set_option maxHeartbeats 1000000 in
theorem pact_any (b m n : Nat) (d : Dk) (W : World) (hD : DkAt W b m n d) (hd : d.dead = false) :
    Calls Tryz.prog 182 #[.pointer (some ⟨b, 0, none⟩)] W (ActSays b m n d W) := by
  have c3 : W.cell? ⟨b, 3, none⟩ = some (.int .i64 (d.armed : Int)) := (cell_heap hD.st 3).trans rfl
  have f3 : W.frozen? ⟨b, 3, none⟩ = false := frozen_heap hD.st 3
  have hne := map_ne hD
  by_cases h0 : 0 < d.armed
  · have q0 : (0 : Int) < (d.armed : Int) := by omega
    obtain ⟨k, hk⟩ : ∃ k, k = d.armed - 1 := ⟨_, rfl⟩
    have hkI : (d.armed : Int) - 1 = (k : Int) := by omega
    have hkb := hD.fine.armed
    obtain ⟨W1, eW⟩ : ∃ W1, W1 = W.setCell ⟨b, 3, none⟩ (.int .i64 (k : Int)) := ⟨_, rfl⟩
    have h1 : W1.heap[b]? = some (.cells #[.int .i64 (d.limit : Int), .map (some m), .int .i64 (sz d.l : Int), .int .i64 (k : Int), .bool d.dead] 114 (0, 0)) := by rw [eW]; exact (heap_set hD.st).trans rfl
    have hm1 : W1.heap[m]? = W.heap[m]? := by rw [eW]; exact heap_set_ne hne
    have KW : Kp (DkS b m) W W1 := by rw [eW]; exact (Kp.refl _ _).setCell (.inl rfl) _
    have e3 : W1.cell? ⟨b, 3, none⟩ = some (.int .i64 (k : Int)) := (cell_heap h1 3).trans rfl
    have e4 : W1.cell? ⟨b, 4, none⟩ = some (.bool d.dead) := (cell_heap h1 4).trans rfl
    have g4 : W1.frozen? ⟨b, 4, none⟩ = false := frozen_heap h1 4
    have EN : Hid (∀ v, v = decide (k = 0) → ActSays b m n d W (.returned (.int .i64 (if v = true then 40 else 0))) (W1.setCell ⟨b, 4, none⟩ (.bool v))) := Lib.hid fun v hv => by
      have ha : act d = { d with armed := k, dead := v } := by
        unfold act
        rw [if_pos h0, hv, hk]
        congr 1
        rw [decide_eq_decide]; omega
      unfold ActSays
      have hF := act_fine hD.fine
      rw [ha] at hF ⊢
      exact ⟨rfl, ⟨(heap_set h1).trans rfl, hD.map.keep ((heap_set_ne hne).trans hm1), hF⟩, KW.setCell (.inl rfl) _⟩
    clear hD hd h1 hm1 KW hk
    obtain ⟨v, hv⟩ : ∃ v, v = decide (k = 0) := ⟨_, rfl⟩
    have E := Lib.hid (EN.out v hv)
    have qk : ((k : Int) == 0) = v := by rw [hv, Bool.eq_iff_iff]; simp
    have k4 : (W1.setCell ⟨b, 4, none⟩ (.bool v)).cell? ⟨b, 4, none⟩ = some (.bool v) := World.cell?_setCell_same' _ _ _ (by rw [e4]; rfl)
    clear EN hv
    generalize ActSays b m n d W = Q at *
    cases v
    all_goals
      go_enter Tryz.func182, Tryz.ntmps182
      go_upto_region 3 with (fail)
      rw [← eW]
      clear eW
      go_wp2_with (fail)
      exact E.out
  · have q0 : ¬ (0 : Int) < (d.armed : Int) := by omega
    have c4 : W.cell? ⟨b, 4, none⟩ = some (.bool false) := by rw [← hd]; exact (cell_heap hD.st 4).trans rfl
    have ha : act d = d := by unfold act; rw [if_neg h0]
    have E : Hid (ActSays b m n d W (.returned (.int .i64 0)) W) := Lib.hid (by
      unfold ActSays
      rw [ha, hd]
      exact ⟨rfl, hD, Kp.refl _ _⟩)
    clear hD hd ha
    generalize ActSays b m n d W = Q at *
    go_enter Tryz.func182, Tryz.ntmps182
    go_wp2_with (fail)
    exact E.out
end Go.Proofs.YtifiipmmgnmciaaGreatDoor.Dk
/- DkFind, what a claim needs of it (prune.py). -/
namespace Go.Proofs.YtifiipmmgnmciaaGreatDoor.Dk
open Go.RowKit
open Fs (cell_lt B)
set_option linter.unusedVariables false
set_option maxRecDepth 100000
def valO : Option Fd → Value
  | some f => valF f
  | none => .agg #[.string (bs []), .int .i64 0]
theorem set2 {w : World} {g : Nat} {a b : Value} {T : TypeId} (h : w.heap[g]? = some (.cells #[a, b] T (0, 0))) (a' b' : Value) :
    ((w.setCell ⟨g, 0, none⟩ a').setCell ⟨g, 1, none⟩ b').heap[g]? = some (.cells #[a', b'] T (0, 0)) := (heap_set ((heap_set h).trans rfl)).trans rfl
theorem set2_below {B : Nat} {w0 w : World} (h : Below B w0 w) {g : Nat} (hg : B ≤ g) (a' b' : Value) :
    Below B w0 ((w.setCell ⟨g, 0, none⟩ a').setCell ⟨g, 1, none⟩ b') := (h.setCell hg _).setCell hg _
def ExpF (d : Dk) (s : ByteArray) (W : World) (e : Ending) (w' : World) : Prop := e = .returned (.tuple #[valO (find d (tl s)).1, .int .i64 (find d (tl s)).2]) ∧ Below W.heap.size W w'
set_option maxHeartbeats 1000000 in
theorem pfind_any (b m n : Nat) (d : Dk) (s : ByteArray) (W : World) (hD : DkAt W b m n d) (hs : s.size ≤ maxLen) :
    Calls Tryz.prog 184 #[.pointer (some ⟨b, 0, none⟩), .string s] W (ExpF d s W) := by
  have hlt := Lg.lt_heap hD.st
  obtain ⟨W1, e1⟩ : ∃ W1, W1 = W.alloc (.cells #[.string ⟨#[]⟩, .int .i64 0] 291) := ⟨_, rfl⟩
  have s1 : W1.heap.size = W.heap.size + 1 := by rw [e1]; simp
  have B1 : Below W.heap.size W W1 := by rw [e1]; exact (Below.refl _ _).alloc (Nat.le_refl _) _
  obtain ⟨W2, e2⟩ : ∃ W2, W2 = W1.alloc (.cells #[.string s] 9) := ⟨_, rfl⟩
  have s2 : W2.heap.size = W.heap.size + 2 := by rw [e2]; simp [s1]
  have B2 : Below W.heap.size W W2 := by rw [e2]; exact B1.alloc (by omega) _
  have h2 : W2.heap[W.heap.size + 1]? = some (.cells #[.string s] 9 (0, 0)) := by rw [e2, ← s1]; exact heap_alloc_new _ _
  have h1 : W2.heap[W.heap.size]? = some (.cells #[.string ⟨#[]⟩, .int .i64 0] 291 (0, 0)) := by
    rw [e2, Below.heap_alloc _ _ _ (by omega), e1]; exact heap_alloc_new _ _
  have D2 : DkAt W2 b m n d := hD.below B2
  have hst : Lg.Strs W2 (some ⟨W.heap.size + 1, 0, none⟩) [s] := ⟨rfl, fun _ => ⟨_, rfl, Lg.lt_heap h2, fun j u hu => by
    rw [Lg.add_eq, Lg.cell_at h2]
    simpa using hu⟩⟩
  have C : Hid (Calls Tryz.prog 181 #[.pointer (some ⟨b, 0, none⟩), .slice (some ⟨W.heap.size + 1, 0, none⟩) 1 1] W2 fun e w' => e = .returned (.int .i64 (wrong d (tl s))) ∧ W2 = w') := Lib.hid (by
    have := pwrong_any b m n d (some ⟨W.heap.size + 1, 0, none⟩) [s] 1 W2 D2 hst (by simp) (by simpa using hs)
    simpa [wrongL, wrong] using this)
  have K2 := Lib.hid h1
  have z10 : W2.cell? ⟨W.heap.size, 0, none⟩ = some (.string ⟨#[]⟩) := (cell_heap h1 0).trans rfl
  have z11 : W2.cell? ⟨W.heap.size, 1, none⟩ = some (.int .i64 0) := (cell_heap h1 1).trans rfl
  have f10 : W2.frozen? ⟨W.heap.size, 0, none⟩ = false := frozen_heap h1 0
  have f11 : W2.frozen? ⟨W.heap.size, 1, none⟩ = false := frozen_heap h1 1
  have F : Hid (find d (tl s) = if wrong d (tl s) ≠ 0 then (none, wrong d (tl s)) else
    match get d.l (tl s) with
    | some f => (some f, 0)
    | none => (none, 17)) := Lib.hid rfl
  by_cases hw : wrong d (tl s) = 0
  · rw [if_neg (by simp [hw])] at F
    rw [hw] at C
    have lk := D2.map.look (t := 112) (e := 291) (by kernel_rfl) (z := .agg #[.string ⟨#[]⟩, .int .i64 0]) (by rfl) hs
    have c1 : W2.cell? ⟨b, 1, none⟩ = some (.map (some m)) := (cell_heap D2.st 1).trans rfl
    obtain ⟨a, i, v, hlk, hfd⟩ : ∃ a i v, ((get d.l (tl s)).map valF).getD (.agg #[.string ⟨#[]⟩, .int .i64 0]) = .agg #[.string a, .int .i64 i] ∧ ((get d.l (tl s)).map valF).isSome = v ∧ find d (tl s) = (if v = true then (get d.l (tl s), 0) else (none, 17)) ∧ (v = true → valO (get d.l (tl s)) = .agg #[.string a, .int .i64 i]) := by
      rw [F.out]
      cases get d.l (tl s) with
      | none => exact ⟨⟨#[]⟩, 0, false, rfl, rfl, rfl, fun h => by cases h⟩
      | some f => exact ⟨bs f.d, f.firm, true, rfl, rfl, rfl, fun _ => rfl⟩
    rw [hlk, hfd.1] at lk
    obtain ⟨W4, e4⟩ : ∃ W4, W4 = W2.alloc (.cells #[.string a, .int .i64 i] 291) := ⟨_, rfl⟩
    have B4 : Below W.heap.size W W4 := by rw [e4]; exact B2.alloc (by omega) _
    have k1 : W4.heap[W.heap.size + 2]? = some (.cells #[.string a, .int .i64 i] 291 (0, 0)) := by rw [e4, ← s2]; exact heap_alloc_new _ _
    have k2 : W4.heap[W.heap.size]? = some (.cells #[.string ⟨#[]⟩, .int .i64 0] 291 (0, 0)) := by rw [e4, Below.heap_alloc _ _ _ (by omega)]; exact h1
    have x0 : W4.cell? ⟨W.heap.size, 0, none⟩ = some (.string ⟨#[]⟩) := (cell_heap k2 0).trans rfl
    have x1 : W4.cell? ⟨W.heap.size, 1, none⟩ = some (.int .i64 0) := (cell_heap k2 1).trans rfl
    have x2 : W4.frozen? ⟨W.heap.size, 0, none⟩ = false := frozen_heap k2 0
    have x3 : W4.frozen? ⟨W.heap.size, 1, none⟩ = false := frozen_heap k2 1
    have x4 : W4.cell? ⟨W.heap.size + 2, 0, none⟩ = some (.string a) := (cell_heap k1 0).trans rfl
    have x5 : W4.cell? ⟨W.heap.size + 2, 1, none⟩ = some (.int .i64 i) := (cell_heap k1 1).trans rfl
    have hE : Hid (∀ w', Below W.heap.size W w' → ExpF d s W (.returned (.tuple #[if v = true then .agg #[.string a, .int .i64 i] else valO none, .int .i64 (if v = true then 0 else 17)])) w') := Lib.hid fun w' hb => by
      unfold ExpF
      rw [hfd.2.1]
      cases v
      · exact ⟨rfl, hb⟩
      · refine ⟨?_, hb⟩
        simp only [if_true]
        rw [hfd.2.2 rfl]
    have K4 := Lib.hid k2
    clear F hD D2 hst h1 h2 hs hfd hlk k1 k2 hw B1
    generalize ExpF d s W = Q at *
    cases v
    all_goals
      go_enter Tryz.func184, Tryz.ntmps184
      go_upto_region 1 with (fail)
      rw [← e1]
      clear e1
      go_upto_region 5 with (go_at_call 181; rw [← e2]; clear e2; with_reducible refine (C.out).mono ?_; rintro e w1 ⟨rfl, rfl⟩)
      rw [← e4]
      clear e4
      go_wp2_with (fail)
      (try simp only [Exit.inBlock, Exit.then])
      refine bodyPost_ret_by (Lg.results_cell_row2 rfl _ _ W.heap.size 291 _ (0, 0) _ rfl (set2 K4.out _ _) rfl rfl (by kernel_rfl)) rfl ?_
      exact hE.out _ (set2_below B4 (Nat.le_refl _) _ _)
  rw [if_pos hw] at F
  have hE : Hid (∀ w', Below W.heap.size W w' → ExpF d s W (.returned (.tuple #[valO none, .int .i64 (wrong d (tl s))])) w') := Lib.hid fun w' hb => by
    unfold ExpF
    rw [F.out]
    exact ⟨rfl, hb⟩
  clear F hD D2 hst h1 h2 hs
  generalize wrong d (tl s) = x at *
  generalize ExpF d s W = Q at *
  go_enter Tryz.func184, Tryz.ntmps184
  go_upto_region 1 with (fail)
  rw [← e1]
  clear e1
  go_wp2_with (go_at_call 181; rw [← e2]; clear e2; with_reducible refine (C.out).mono ?_; rintro e w1 ⟨rfl, rfl⟩)
  (try simp only [Exit.inBlock, Exit.then])
  refine bodyPost_ret_by (Lg.results_cell_row2 rfl _ _ W.heap.size 291 _ (0, 0) _ rfl (set2 K2.out _ _) rfl rfl (by kernel_rfl)) rfl ?_
  exact hE.out _ (set2_below B2 (Nat.le_refl _) _ _)
end Go.Proofs.YtifiipmmgnmciaaGreatDoor.Dk
/- DkLay, what a claim needs of it (prune.py). -/
namespace Go.Proofs.YtifiipmmgnmciaaGreatDoor.Dk
open Go.RowKit
open Fs (cell_lt B)
set_option linter.unusedVariables false
set_option maxRecDepth 100000
theorem VMap.drew {w : World} {m n : Nat} {f : ByteArray → Option Value} (h : Mv.VMap w m n f) : Mv.VMap w.drew m n f := h.keep rfl
def setD (d : Dk) (f : Fd) : Dk := { d with l := set f d.l }
def LaySays (b m n : Nat) (d : Dk) (W : World) (e : Ending) (w' : World) : Prop := e = .returned (.tuple #[]) ∧ DkAt w' b m n d ∧ Kp (DkS b m) W w'
theorem fl0 (o : ByteArray) (j : Int) (w : World) : (Instr.field 291 (.agg #[.string o, .int .i64 j]) 0).run Tryz.prog w = .ok (.string o) w := by rfl
set_option maxHeartbeats 1000000 in
theorem play_any (b m n : Nat) (d : Dk) (s a : ByteArray) (i : Nat) (W : World) (hD : DkAt W b m n d) (hs : s.size ≤ maxLen) (ha : a.size ≤ 33554432) (hn : n < maxLen) (hF : Fine (setD d ⟨tl s, tl a, i⟩)) :
    Calls Tryz.prog 183 #[.pointer (some ⟨b, 0, none⟩), .string s, .agg #[.string a, .int .i64 (i : Int)]] W (LaySays b m (n + 1) (setD d ⟨tl s, tl a, i⟩) W) := by
  obtain ⟨W1, e1⟩ : ∃ W1, W1 = W.alloc (.cells #[.string a, .int .i64 (i : Int)] 291) := ⟨_, rfl⟩
  have s1 : W1.heap.size = W.heap.size + 1 := by rw [e1]; simp
  have B1 : Below W.heap.size W W1 := by rw [e1]; exact (Below.refl _ _).alloc (Nat.le_refl _) _
  have h1 : W1.heap[W.heap.size]? = some (.cells #[.string a, .int .i64 (i : Int)] 291 (0, 0)) := by rw [e1]; exact heap_alloc_new _ _
  have D1 : DkAt W1 b m n d := hD.below B1
  have c1 : W1.cell? ⟨b, 1, none⟩ = some (.map (some m)) := (cell_heap D1.st 1).trans rfl
  have c2 : W1.cell? ⟨b, 2, none⟩ = some (.int .i64 (sz d.l : Int)) := (cell_heap D1.st 2).trans rfl
  have f2 : W1.frozen? ⟨b, 2, none⟩ = false := frozen_heap D1.st 2
  have x0 : W1.cell? ⟨W.heap.size, 0, none⟩ = some (.string a) := (cell_heap h1 0).trans rfl
  have x1 : W1.cell? ⟨W.heap.size, 1, none⟩ = some (.int .i64 (i : Int)) := (cell_heap h1 1).trans rfl
  have lk := (VMap.drew D1.map).look1 (t := 112) (e := 291) (by kernel_rfl) (z := .agg #[.string ⟨#[]⟩, .int .i64 0]) (by rfl) hs
  obtain ⟨o, j, hlk, ho⟩ : ∃ (o : ByteArray) (j : Int), ((get d.l (tl s)).map valF).getD (.agg #[.string ⟨#[]⟩, .int .i64 0]) = .agg #[.string o, .int .i64 j] ∧ tl o = dat d.l (tl s) := by
    unfold dat
    cases get d.l (tl s) with
    | none => exact ⟨⟨#[]⟩, 0, rfl, rfl⟩
    | some f => exact ⟨bs f.d, f.firm, rfl, rfl⟩
  rw [hlk] at lk
  have hos : o.size ≤ sz d.l := by have := dat_le d.l (tl s); rw [← ho] at this; simpa using this
  have hsz : sz d.l ≤ 16777216 := by have := D1.fine.room; have := D1.fine.limit; omega
  have hne := map_ne hD
  obtain ⟨z2, hz2⟩ : ∃ z2 : Int, z2 = (sz d.l : Int) + ((a.size : Int) - (o.size : Int)) := ⟨_, rfl⟩
  have hz3 : z2 = (sz (set ⟨tl s, tl a, i⟩ d.l) : Int) := by
    have h1 := sz_set ⟨tl s, tl a, i⟩ D1.fine.rises
    have h2 : (dat d.l (tl s)).length = o.size := by rw [← ho]; exact Lg.tl_len o
    have h3 : (tl a).length = a.size := Lg.tl_len a
    simp only at h1
    omega
  obtain ⟨W3, e3⟩ : ∃ W3, W3 = (W1.setCell ⟨b, 2, none⟩ (.int .i64 z2)).drew := ⟨_, rfl⟩
  have r3 : W3.heap[b]? = some (.cells #[.int .i64 (d.limit : Int), .map (some m), .int .i64 z2, .int .i64 (d.armed : Int), .bool d.dead] 114 (0, 0)) := by rw [e3]; exact (heap_set D1.st).trans rfl
  have hlb := Lg.lt_heap hD.st
  have hlm := hD.map.lt
  have t3 : W3.heap[W.heap.size]? = some (.cells #[.string a, .int .i64 (i : Int)] 291 (0, 0)) := by rw [e3]; exact (heap_set_ne (by show b ≠ W.heap.size; omega)).trans h1
  have m3 : W3.heap[m]? = W1.heap[m]? := by rw [e3]; exact heap_set_ne hne
  have K3 : Kp (DkS b m) W W3 := by rw [e3]; exact ((Kp.of_below B1).setCell (.inl rfl) _).drew
  obtain ⟨W4, hput, hm4, hg4⟩ := (VMap.drew (D1.map.keep m3)).put (t := 112) (e := 291) (by kernel_rfl) hn hs (.agg #[.string a, .int .i64 (i : Int)])
  have E : Hid (LaySays b m (n + 1) (setD d ⟨tl s, tl a, i⟩) W (.returned (.tuple #[])) W4) := Lib.hid (by
    refine ⟨rfl, ⟨?_, ?_, hF⟩, K3.drew.grown hg4 (fun k e => .inl (.inr (by injection e with e; exact e.symm)))⟩
    · rw [hz3] at r3
      exact (hg4.block b (by have := K3.size; show b < W3.heap.size; omega) (fun e => by injection e with e; exact hne e)).trans r3
    · have : (fun x => (get (setD d ⟨tl s, tl a, i⟩).l (tl x)).map valF) = Mv.putM (fun x => (get d.l (tl x)).map valF) s (.agg #[.string a, .int .i64 (i : Int)]) := by
        funext x
        unfold Mv.putM setD
        rw [get_set _ _ _ D1.fine.rises]
        by_cases e : x = s
        · subst e
          simp [valF]
          rfl
        · have : ¬ tl x = tl s := fun h => e (Lg.tl_inj h)
          simp [e, this]
      rw [this]
      exact hm4)
  have q1 : W3.cell? ⟨b, 1, none⟩ = some (.map (some m)) := (cell_heap r3 1).trans rfl
  have q2 : W3.cell? ⟨W.heap.size, 0, none⟩ = some (.string a) := (cell_heap t3 0).trans rfl
  have q3 : W3.cell? ⟨W.heap.size, 1, none⟩ = some (.int .i64 (i : Int)) := (cell_heap t3 1).trans rfl
  have fl := fl0 o j W1.drew
  clear hD h1 hlk hF B1 r3 t3 m3 K3 hm4 hg4 hz3 hlb hlm hne
  generalize LaySays b m (n + 1) (setD d ⟨tl s, tl a, i⟩) W = Q at *
  generalize sz d.l = z at *
  clear D1 ho
  go_enter Tryz.func183, Tryz.ntmps183
  go_upto_region 1 with (fail)
  rw [← e1]
  clear e1
  go_region
  rw [← hz2, ← e3]
  clear e3
  simp only [Exit.then]
  go_upto_region 2 with (fail)
  go_region
  go_end0
  exact E.out
end Go.Proofs.YtifiipmmgnmciaaGreatDoor.Dk
