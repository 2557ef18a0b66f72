/- Joined by mkmerged.py: MnMem, MnVal. -/
import Derived.Test.YtdidnlkilleljaaGreatDoorMf30
import Derived.Test.YtdidnlkilleljaaGreatDoorMf29
import Derived.Test.YtdidnlkilleljaaGreatDoorMf17
import Derived.Test.YtdidnlkilleljaaGreatDoorMf14
import Derived.Test.YtdidnlkilleljaaGreatDoorMf10
import Derived.StillTailTactics
/- MnMem, what a claim needs of it (prune.py). -/
namespace Go.Proofs.YtdidnlkilleljaaGreatDoor.Mn
open Go.RowKit
open Lg (BelowX Lies)
open Fs (fc fc_len fc_cell Fls Env B)
open Bx (RightF)
open Mv (VMap putM)
set_option linter.unusedVariables false
set_option maxRecDepth 100000
structure KeepM (mk mo : Nat) (W W' : World) : Prop where
  os : W'.os = W.os
  tape : W'.tape = W.tape
  output : W'.output = W.output
  size : W.heap.size ≤ W'.heap.size
  block : ∀ g, g < W.heap.size → g ≠ mk → g ≠ mo → W'.heap[g]? = W.heap[g]?
theorem KeepM.refl (mk mo : Nat) (W : World) : KeepM mk mo W W := ⟨rfl, rfl, rfl, Nat.le_refl _, fun _ _ _ _ => rfl⟩
theorem KeepM.trans {mk mo : Nat} {W V U : World} (h : KeepM mk mo W V) (k : KeepM mk mo V U) : KeepM mk mo W U :=
  ⟨k.os.trans h.os, k.tape.trans h.tape, k.output.trans h.output, Nat.le_trans h.size k.size, fun g h1 h2 h3 => (k.block g (Nat.lt_of_lt_of_le h1 h.size) h2 h3).trans (h.block g h1 h2 h3)⟩
theorem KeepM.of {mk mo : Nat} {W V : World} (h : Below W.heap.size W V) : KeepM mk mo W V := ⟨h.os, h.tape, h.output, h.size, fun g h1 _ _ => h.block g h1⟩
theorem KeepM.then {mk mo : Nat} {W V U : World} (h : KeepM mk mo W V) (k : Below V.heap.size V U) : KeepM mk mo W U := h.trans (.of k)
theorem KeepM.x {mk mo b : Nat} {W V U : World} (h : KeepM mk mo W V) (k : BelowX V.heap.size b V U) (hb : W.heap.size ≤ b) : KeepM mk mo W U :=
  ⟨k.os.trans h.os, k.tape.trans h.tape, k.output.trans h.output, Nat.le_trans h.size k.size, fun g h1 h2 h3 => (k.block g (Nat.lt_of_lt_of_le h1 h.size) (by omega)).trans (h.block g h1 h2 h3)⟩
theorem KeepM.grown {mk mo x : Nat} {W V U : World} (h : KeepM mk mo W V) (k : V.grownBy U (some x)) (hx : x = mk ∨ x = mo) : KeepM mk mo W U :=
  ⟨k.os.trans h.os, k.tape.trans h.tape, k.output.trans h.output, Nat.le_trans h.size k.size, fun g h1 h2 h3 => (k.block g (Nat.lt_of_lt_of_le h1 h.size) (fun e => by injection e with e; subst e; rcases hx with e | e <;> contradiction)).trans (h.block g h1 h2 h3)⟩
theorem KeepM.below {mk mo B0 : Nat} {w0 W V : World} (h : KeepM mk mo W V) (k : Below B0 w0 W) (h0 : B0 ≤ W.heap.size) (h1 : B0 ≤ mk) (h2 : B0 ≤ mo) : Below B0 w0 V :=
  k.trans ⟨h.os, h.tape, h.output, h.size, fun g hg => h.block g (by omega) (by omega) (by omega)⟩
structure Adr where
  bt : Nat
  bsn : Nat
  bf : Nat
  bk : Nat
  km : Nat
  bo : Nat
  om : Nat
  bv : Nat
  bfr : Nat
  top : Nat
  tv : Value
  sv : Value
  fuel : Int
def Adr.fnV (a : Adr) : Value := .func (.func 46) #[] #[.pointer (some ⟨a.bo, 0, none⟩), .pointer (some ⟨a.bk, 0, none⟩), .pointer (some ⟨a.bt, 0, none⟩), .pointer (some ⟨a.bfr, 0, none⟩)]
def Adr.fnF (a : Adr) : Value := .func (.func 41) #[] #[.pointer (some ⟨a.bsn, 0, none⟩), .pointer (some ⟨a.bv, 0, none⟩), .pointer (some ⟨a.bf, 0, none⟩), .pointer (some ⟨a.bt, 0, none⟩)]
def Adr.isBox (a : Adr) (g : Nat) : Prop := g = a.bt ∨ g = a.bsn ∨ g = a.bf ∨ g = a.bk ∨ g = a.bo ∨ g = a.bv ∨ g = a.bfr
structure Boxes (a : Adr) (W : World) : Prop where
  t : W.heap[a.bt]? = some (.cells #[a.tv] 39 (0, 0))
  s : W.heap[a.bsn]? = some (.cells #[a.sv] 23 (0, 0))
  f : W.heap[a.bf]? = some (.cells #[.int .i64 a.fuel] 3 (0, 0))
  k : W.heap[a.bk]? = some (.cells #[.map (some a.km)] 76 (0, 0))
  o : W.heap[a.bo]? = some (.cells #[.map (some a.om)] 77 (0, 0))
  v : W.heap[a.bv]? = some (.cells #[a.fnV] 78 (0, 0))
  r : W.heap[a.bfr]? = some (.cells #[a.fnF] 87 (0, 0))
theorem Boxes.keep {a : Adr} {W W' : World} (h : Boxes a W) (hk : ∀ g, a.isBox g → W'.heap[g]? = W.heap[g]?) : Boxes a W' := by
  unfold Adr.isBox at hk
  exact ⟨(hk _ (by simp)).trans h.t, (hk _ (by simp)).trans h.s, (hk _ (by simp)).trans h.f, (hk _ (by simp)).trans h.k, (hk _ (by simp)).trans h.o, (hk _ (by simp)).trans h.v, (hk _ (by simp)).trans h.r⟩
theorem Boxes.cells {a : Adr} {W : World} (h : Boxes a W) {g : Nat} (hg : a.isBox g) : ∃ cs T fr, W.heap[g]? = some (.cells cs T fr) := by
  rcases hg with rfl | rfl | rfl | rfl | rfl | rfl | rfl
  · exact ⟨_, _, _, h.t⟩
  · exact ⟨_, _, _, h.s⟩
  · exact ⟨_, _, _, h.f⟩
  · exact ⟨_, _, _, h.k⟩
  · exact ⟨_, _, _, h.o⟩
  · exact ⟨_, _, _, h.v⟩
  · exact ⟨_, _, _, h.r⟩
def cnt (nms : List ByteArray) (k : Kn) : Nat := nms.countP fun s => (k s).isSome
theorem cnt_le (nms : List ByteArray) (k : Kn) : cnt nms k ≤ nms.length := List.countP_le_length
theorem cnt_up {nms : List ByteArray} {k : Kn} {s : ByteArray} (hs : s ∈ nms) (h : k s = none) (r : Rs) : cnt nms k + 1 ≤ cnt nms (upR k s r) := by
  unfold cnt
  induction nms with
  | nil => cases hs
  | cons x l ih =>
    have mono : List.countP (fun s => (k s).isSome) l ≤ List.countP (fun y => (upR k s r y).isSome) l := List.countP_mono_left fun y _ hy => by
      unfold upR
      by_cases e : y = s
      · rw [if_pos e]; rfl
      · rw [if_neg e]; exact hy
    rw [List.countP_cons, List.countP_cons]
    by_cases e : x = s
    · subst e
      have h1 : (k x).isSome = false := by rw [h]; rfl
      have h2 : (upR k x r x).isSome = true := by unfold upR; rw [if_pos rfl]; rfl
      rw [if_neg (by simp [h1]), if_pos h2]
      omega
    · have h2 : (upR k s r x).isSome = (k x).isSome := by unfold upR; rw [if_neg e]
      rw [h2]
      have := ih (by rcases List.mem_cons.1 hs with h | h; exact absurd h.symm e; exact h)
      omega
def KnownAt (bs : List Nat) (k : Kn) (f : ByteArray → Option Value) (W : World) : Prop :=
  ∀ s, (k s = none ∧ f s = none) ∨ ∃ r A c, k s = some r ∧ f s = some (rsv r A c) ∧ Lies W (fun g => g ∉ bs) 2 A r.files.length (fc r.files) ∧ r.files.length ≤ c
structure MnAt (w0 : World) (a : Adr) (bs : List Nat) (nms : List ByteArray) (dep : Nat) (k : Kn) (o : ByteArray → Bool) (W : World) : Prop where
  bw : Below w0.heap.size w0 W
  bx : Boxes a W
  ne : a.km ≠ a.om
  lo : w0.heap.size ≤ a.km ∧ w0.heap.size ≤ a.om
  hi : a.km < a.top ∧ a.om < a.top ∧ a.top ≤ W.heap.size
  hib : ∀ g, a.isBox g → g < a.top
  bsg : ∀ g ∈ bs, a.top ≤ g ∧ g < W.heap.size
  kn : ∃ n f, VMap W a.km n f ∧ n ≤ cnt nms k ∧ KnownAt bs k f W
  op : ∃ n f, VMap W a.om n f ∧ n ≤ 2 * cnt nms k + dep ∧ ∀ s, (f s).getD (.bool false) = .bool (o s)
theorem MnAt.box_ne {w0 : World} {a : Adr} {bs : List Nat} {nms : List ByteArray} {dep : Nat} {k : Kn} {o : ByteArray → Bool} {W : World} (h : MnAt w0 a bs nms dep k o W) {g : Nat} (hg : a.isBox g) : g ≠ a.km ∧ g ≠ a.om := by
  obtain ⟨cs, T, fr, hc⟩ := h.bx.cells hg
  obtain ⟨n, f, ⟨D, ⟨es, cl, h1, _⟩, _⟩, _⟩ := h.kn
  obtain ⟨n2, f2, ⟨D2, ⟨es2, cl2, h2, _⟩, _⟩, _⟩ := h.op
  exact ⟨fun e => by rw [e, h1] at hc; simp at hc, fun e => by rw [e, h2] at hc; simp at hc⟩
theorem MnAt.keep {w0 : World} {a : Adr} {bs bs' : List Nat} {nms : List ByteArray} {dep : Nat} {k : Kn} {o : ByteArray → Bool} {W W' : World} (h : MnAt w0 a bs nms dep k o W) (hB : Below w0.heap.size w0 W') (hz : W.heap.size ≤ W'.heap.size) (hk : ∀ g, g < W.heap.size → g ∉ bs → g ∉ bs' ∧ W'.heap[g]? = W.heap[g]?) (hb : ∀ g ∈ bs', a.top ≤ g ∧ g < W'.heap.size) :
    MnAt w0 a bs' nms dep k o W' := by
  have low : ∀ g, g < a.top → W'.heap[g]? = W.heap[g]? := fun g hg => (hk g (Nat.lt_of_lt_of_le hg h.hi.2.2) (fun hm => by have := (h.bsg g hm).1; omega)).2
  obtain ⟨n, f, h1, h2, h3⟩ := h.kn
  obtain ⟨n2, f2, h4, h5, h6⟩ := h.op
  refine ⟨hB, h.bx.keep fun g hg => low g (h.hib g hg), h.ne, h.lo, ⟨h.hi.1, h.hi.2.1, Nat.le_trans h.hi.2.2 hz⟩, h.hib, hb, ⟨n, f, h1.keep (low _ h.hi.1), h2, fun s => ?_⟩, ⟨n2, f2, h4.keep (low _ h.hi.2.1), h5, h6⟩⟩
  rcases h3 s with h | ⟨r, A, c, e1, e2, e3, e4⟩
  · exact .inl h
  · exact .inr ⟨r, A, c, e1, e2, e3.mono (by decide) fun g hg hs => hk g hs hg, e4⟩
theorem MnAt.below {w0 : World} {a : Adr} {bs : List Nat} {nms : List ByteArray} {dep : Nat} {k : Kn} {o : ByteArray → Bool} {W W' : World} (h : MnAt w0 a bs nms dep k o W) (hb : Below W.heap.size W W') : MnAt w0 a bs nms dep k o W' :=
  h.keep (h.bw.trans (hb.mono h.bw.size)) hb.size (fun g hg hs => ⟨hs, hb.block g hg⟩) (fun g hg => ⟨(h.bsg g hg).1, Nat.lt_of_lt_of_le (h.bsg g hg).2 hb.size⟩)
theorem MnAt.x {w0 : World} {a : Adr} {bs : List Nat} {nms : List ByteArray} {dep : Nat} {k : Kn} {o : ByteArray → Bool} {W W' : World} {b : Nat} (h : MnAt w0 a (b :: bs) nms dep k o W) (hb : BelowX W.heap.size b W W') : MnAt w0 a (b :: bs) nms dep k o W' := by
  have h1 := (h.bsg b (List.mem_cons_self ..)).1
  have h2 := h.bw.size
  have h3 := h.lo
  have h4 := h.hi
  exact h.keep (h.bw.trans (hb.below h2 (by omega))) hb.size (fun g hg hs => ⟨hs, hb.block g hg (fun e => hs (by rw [e]; exact List.mem_cons_self ..))⟩) (fun g hg => ⟨(h.bsg g hg).1, Nat.lt_of_lt_of_le (h.bsg g hg).2 hb.size⟩)
theorem MnAt.more {w0 : World} {a : Adr} {bs : List Nat} {nms : List ByteArray} {dep : Nat} {k : Kn} {o : ByteArray → Bool} {W W' : World} {b : Nat} (h : MnAt w0 a bs nms dep k o W) (hb : Below W.heap.size W W') (hn : W.heap.size ≤ b) (hn2 : b < W'.heap.size) : MnAt w0 a (b :: bs) nms dep k o W' :=
  h.keep (h.bw.trans (hb.mono h.bw.size)) hb.size (fun g hg hs => ⟨fun hm => by rcases List.mem_cons.1 hm with e | e; omega; exact hs e, hb.block g hg⟩) (fun g hg => by
    rcases List.mem_cons.1 hg with e | e
    · have := h.hi.2.2; omega
    · have := h.bsg g e; have := hb.size; omega)
theorem MnAt.less {w0 : World} {a : Adr} {bs : List Nat} {nms : List ByteArray} {dep : Nat} {k : Kn} {o : ByteArray → Bool} {W : World} {b : Nat} (h : MnAt w0 a (b :: bs) nms dep k o W) : MnAt w0 a bs nms dep k o W :=
  h.keep h.bw (Nat.le_refl _) (fun g hg hs => ⟨fun hm => hs (List.mem_cons_of_mem _ hm), rfl⟩) (fun g hg => h.bsg g (List.mem_cons_of_mem _ hg))
theorem MnAt.known {w0 : World} {a : Adr} {bs : List Nat} {nms : List ByteArray} {dep : Nat} {k : Kn} {o : ByteArray → Bool} {W : World} (h : MnAt w0 a bs nms dep k o W) {s : ByteArray} (hs : s.size ≤ maxLen) :
    (k s = none ∧ (Instr.lookup 76 (.map (some a.km)) (.string s) true).run Tryz.prog W = .ok (.tuple #[.agg #[.int .i64 0, .string ⟨#[]⟩, .string ⟨#[]⟩, .slice none 0 0], .bool false]) W) ∨
    ∃ r A c, k s = some r ∧ (Instr.lookup 76 (.map (some a.km)) (.string s) true).run Tryz.prog W = .ok (.tuple #[.agg #[.int .i64 r.err, .string r.at_, .string r.text, .slice A r.files.length c], .bool true]) W ∧ Lies W (fun g => g ∉ bs) 2 A r.files.length (fc r.files) ∧ r.files.length ≤ c := by
  obtain ⟨n, f, h1, h2, h3⟩ := h.kn
  have hl := h1.look (t := 76) (e := 37) Tryz.underlying76 (z := .agg #[.int .i64 0, .string ⟨#[]⟩, .string ⟨#[]⟩, .slice none 0 0]) (by kernel_rfl) hs
  rcases h3 s with ⟨e1, e2⟩ | ⟨r, A, c, e1, e2, e3, e4⟩
  · rw [e2] at hl
    exact .inl ⟨e1, hl⟩
  · rw [e2] at hl
    exact .inr ⟨r, A, c, e1, hl, e3, e4⟩
theorem MnAt.known1 {w0 : World} {a : Adr} {bs : List Nat} {nms : List ByteArray} {dep : Nat} {k : Kn} {o : ByteArray → Bool} {W : World} (h : MnAt w0 a bs nms dep k o W) {s : ByteArray} (hs : s.size ≤ maxLen) {r : Rs} (hr : k s = some r) :
    ∃ A c, (Instr.lookup 76 (.map (some a.km)) (.string s) false).run Tryz.prog W = .ok (.agg #[.int .i64 r.err, .string r.at_, .string r.text, .slice A r.files.length c]) W ∧ Lies W (fun g => g ∉ bs) 2 A r.files.length (fc r.files) ∧ r.files.length ≤ c := by
  obtain ⟨n, f, h1, h2, h3⟩ := h.kn
  have hl := h1.look1 (t := 76) (e := 37) Tryz.underlying76 (z := .agg #[.int .i64 0, .string ⟨#[]⟩, .string ⟨#[]⟩, .slice none 0 0]) (by kernel_rfl) hs
  rcases h3 s with ⟨e1, e2⟩ | ⟨r2, A, c, e1, e2, e3, e4⟩
  · rw [hr] at e1; cases e1
  · rw [hr] at e1
    cases e1
    rw [e2] at hl
    exact ⟨A, c, hl, e3, e4⟩
theorem MnAt.isOpen {w0 : World} {a : Adr} {bs : List Nat} {nms : List ByteArray} {dep : Nat} {k : Kn} {o : ByteArray → Bool} {W : World} (h : MnAt w0 a bs nms dep k o W) {s : ByteArray} (hs : s.size ≤ maxLen) :
    (Instr.lookup 77 (.map (some a.om)) (.string s) false).run Tryz.prog W = .ok (.bool (o s)) W := by
  obtain ⟨n, f, h1, h2, h3⟩ := h.op
  have hl := h1.look1 (t := 77) (e := 4) Tryz.underlying77 (z := .bool false) (by kernel_rfl) hs
  rw [h3 s] at hl
  exact hl
theorem MnAt.open_ {w0 : World} {a : Adr} {bs : List Nat} {nms : List ByteArray} {dep : Nat} {k : Kn} {o : ByteArray → Bool} {W : World} (h : MnAt w0 a bs nms dep k o W) (hn : 2 * nms.length + dep < maxLen) {s : ByteArray} (hs : s.size ≤ maxLen) (b : Bool) :
    ∃ W', (Instr.mapUpdate 77 (.map (some a.om)) (.string s) (.bool b)).run Tryz.prog W = .ok () W' ∧ MnAt w0 a bs nms (dep + 1) k (upO o s b) W' ∧ KeepM a.km a.om W W' := by
  obtain ⟨n, f, h1, h2, h3⟩ := h.op
  have hc := cnt_le nms k
  obtain ⟨W', hrun, hm, hg⟩ := h1.put (t := 77) (e := 4) Tryz.underlying77 (by omega) hs (.bool b)
  have K : KeepM a.km a.om W W' := (KeepM.refl _ _ _).grown hg (.inr rfl)
  have hz := h.bw.size
  refine ⟨W', hrun, ⟨K.below h.bw hz h.lo.1 h.lo.2, h.bx.keep fun g hg2 => K.block g (Nat.lt_of_lt_of_le (h.hib g hg2) h.hi.2.2) (h.box_ne hg2).1 (h.box_ne hg2).2, h.ne, h.lo, ⟨h.hi.1, h.hi.2.1, Nat.le_trans h.hi.2.2 K.size⟩, h.hib, (fun g hg => ⟨(h.bsg g hg).1, Nat.lt_of_lt_of_le (h.bsg g hg).2 K.size⟩), ?_, ⟨n + 1, _, hm, by omega, fun x => ?_⟩⟩, K⟩
  · obtain ⟨n2, f2, h4, h5, h6⟩ := h.kn
    have hmk : a.km < W.heap.size := h4.lt
    refine ⟨n2, f2, h4.keep (hg.block _ hmk (fun e => h.ne (Option.some.inj e))), h5, fun x => ?_⟩
    rcases h6 x with h | ⟨r, A, c, e1, e2, e3, e4⟩
    · exact .inl h
    · refine .inr ⟨r, A, c, e1, e2, ?_, e4⟩
      refine ⟨e3.1, fun h0 => ?_⟩
      obtain ⟨ad, rfl, hok, hcells⟩ := e3.2 h0
      refine ⟨ad, rfl, hok, fun j u hu => ?_⟩
      have hcu := hcells j u hu
      have hne := h1.nocell hcu
      have hlt := Fs.cell_lt hcu
      rw [block_of_add] at hne hlt
      exact (World.cell?_of_block (by rw [block_of_add]; exact hg.block _ hlt (fun e => hne (Option.some.inj e)))).trans hcu
  · unfold putM upO
    by_cases e : x = s
    · rw [if_pos e, if_pos e]; rfl
    · rw [if_neg e, if_neg e]; exact h3 x
theorem MnAt.learn {w0 : World} {a : Adr} {bs : List Nat} {nms : List ByteArray} {dep : Nat} {k : Kn} {o : ByteArray → Bool} {W : World} (h : MnAt w0 a bs nms dep k o W) (hl : nms.length < maxLen) {s : ByteArray} (hs : s.size ≤ maxLen) (hm : s ∈ nms) (h0 : k s = none) {r : Rs} {A : Option Addr} {c : Nat} (hr : Lies W (fun g => g ∉ bs) 2 A r.files.length (fc r.files)) (hc : r.files.length ≤ c) {d' : Nat} (hd : dep ≤ d' + 2) :
    ∃ W', (Instr.mapUpdate 76 (.map (some a.km)) (.string s) (.agg #[.int .i64 r.err, .string r.at_, .string r.text, .slice A r.files.length c])).run Tryz.prog W = .ok () W' ∧ MnAt w0 a bs nms d' (upR k s r) o W' ∧ KeepM a.km a.om W W' := by
  obtain ⟨n, f, h1, h2, h3⟩ := h.kn
  have hcl := cnt_le nms k
  have hcu := cnt_up hm h0 r
  obtain ⟨W', hrun, hm2, hg⟩ := h1.put (t := 76) (e := 37) Tryz.underlying76 (by omega) hs (.agg #[.int .i64 r.err, .string r.at_, .string r.text, .slice A r.files.length c])
  have K : KeepM a.km a.om W W' := (KeepM.refl _ _ _).grown hg (.inl rfl)
  have hz := h.bw.size
  have keepL : ∀ (A : Option Addr) (l : List Fl), Lies W (fun g => g ∉ bs) 2 A l.length (fc l) → Lies W' (fun g => g ∉ bs) 2 A l.length (fc l) := fun A l e3 => by
    refine ⟨e3.1, fun h0 => ?_⟩
    obtain ⟨ad, rfl, hok, hcells⟩ := e3.2 h0
    refine ⟨ad, rfl, hok, fun j u hu => ?_⟩
    have hcu := hcells j u hu
    have hne := h1.nocell hcu
    have hlt := Fs.cell_lt hcu
    rw [block_of_add] at hne hlt
    exact (World.cell?_of_block (by rw [block_of_add]; exact hg.block _ hlt (fun e => hne (Option.some.inj e)))).trans hcu
  refine ⟨W', hrun, ⟨K.below h.bw hz h.lo.1 h.lo.2, h.bx.keep fun g hg2 => K.block g (Nat.lt_of_lt_of_le (h.hib g hg2) h.hi.2.2) (h.box_ne hg2).1 (h.box_ne hg2).2, h.ne, h.lo, ⟨h.hi.1, h.hi.2.1, Nat.le_trans h.hi.2.2 K.size⟩, h.hib, (fun g hg => ⟨(h.bsg g hg).1, Nat.lt_of_lt_of_le (h.bsg g hg).2 K.size⟩), ⟨n + 1, _, hm2, by omega, fun x => ?_⟩, ?_⟩, K⟩
  · unfold putM upR
    by_cases e : x = s
    · rw [if_pos e, if_pos e]
      exact .inr ⟨r, A, c, rfl, rfl, keepL A r.files hr, hc⟩
    · rw [if_neg e, if_neg e]
      rcases h3 x with h | ⟨r2, A2, c2, e1, e2, e3, e4⟩
      · exact .inl h
      · exact .inr ⟨r2, A2, c2, e1, e2, keepL A2 r2.files e3, e4⟩
  · obtain ⟨n2, f2, h4, h5, h6⟩ := h.op
    exact ⟨n2, f2, h4.keep (hg.block _ h4.lt (fun e => h.ne (Option.some.inj e).symm)), by omega, h6⟩
end Go.Proofs.YtdidnlkilleljaaGreatDoor.Mn
/- MnVal, what a claim needs of it (prune.py). -/
namespace Go.Proofs.YtdidnlkilleljaaGreatDoor.Mn
open Go.RowKit
open Lg (BelowX Lies)
open Fs (fc fc_len fc_cell Fls B)
open Bx (RightF Out)
open Gr (Fits isT find)
set_option linter.unusedVariables false
set_option maxRecDepth 100000
structure Cx (w0 : World) (a : Adr) (l : List Tg) (snap : List Fl) (T F : Option Addr) (c d : Nat) : Prop where
  env : Lg.Env w0
  tg : Gr.Tgs w0 T l
  tv : a.tv = .slice T l.length c
  sn : Fls w0 F snap
  sv : a.sv = .slice F snap.length d
  fit : ∀ t ∈ l, Fits t
  good : GoodG l
  f1 : 1 ≤ a.fuel
  f2 : a.fuel ≤ 2000
  sl : snap.length ≤ 1000000
def names (l : List Tg) : List ByteArray := l.map Tg.n
abbrev isN (l : List Tg) : ByteArray → Prop := fun s => isT l s = true
noncomputable abbrev VAL (l : List Tg) (snap : List Fl) (fuel : Int) (n : Nat) (o : ByteArray → Bool) : Kn → ByteArray → Rs × Kn := val (find l) (Fs.get snap) (runF fuel) (l.length + 1) n o
def ValSays (w0 : World) (a : Adr) (bs : List Nat) (nms : List ByteArray) (dep : Nat) (W : World) (r : Rs) (k : Kn) (o : ByteArray → Bool) (e : Ending) (w' : World) : Prop :=
  ∃ A c, e = .returned (.agg #[.int .i64 r.err, .string r.at_, .string r.text, .slice A r.files.length c]) ∧ Lies w' (fun g => g ∉ bs) 2 A r.files.length (fc r.files) ∧ r.files.length ≤ c ∧ MnAt w0 a bs nms dep k o w' ∧ KeepM a.km a.om W w'
theorem x4 (V : World) (g : Nat) (a' b' c' d' : Value) : BelowX V.heap.size g V ((((V.setCell ⟨g, 0, none⟩ a').setCell ⟨g, 1, none⟩ b').setCell ⟨g, 2, none⟩ c').setCell ⟨g, 3, none⟩ d') :=
  ((((BelowX.refl _ _ _).setX (p := ⟨g, 0, none⟩) rfl _).setX (p := ⟨g, 1, none⟩) rfl _).setX (p := ⟨g, 2, none⟩) rfl _).setX (p := ⟨g, 3, none⟩) rfl _
theorem val_end {w0 : World} {a : Adr} {bs : List Nat} {nms : List ByteArray} {dep : Nat} {W V : World} {r : Rs} {k : Kn} {o : ByteArray → Bool} {A : Option Addr} {c g : Nat} (hM : MnAt w0 a (g :: bs) nms dep k o V) (hK : KeepM a.km a.om W V) (hg : W.heap.size ≤ g) (hr : Lies V (fun x => x ∉ g :: bs) 2 A r.files.length (fc r.files)) (hc : r.files.length ≤ c) :
    ValSays w0 a bs nms dep W r k o (.returned (.agg #[.int .i64 r.err, .string r.at_, .string r.text, .slice A r.files.length c])) ((((V.setCell ⟨g, 0, none⟩ (.int .i64 r.err)).setCell ⟨g, 1, none⟩ (.string r.at_)).setCell ⟨g, 2, none⟩ (.string r.text)).setCell ⟨g, 3, none⟩ (.slice A r.files.length c)) := by
  have hx := x4 V g (.int .i64 r.err) (.string r.at_) (.string r.text) (.slice A r.files.length c)
  exact ⟨A, c, rfl, hr.mono (by decide) fun x hx2 hs => ⟨fun hm => hx2 (List.mem_cons_of_mem _ hm), hx.block x hs (fun e => hx2 (by rw [e]; exact List.mem_cons_self ..))⟩, hc, (hM.x hx).less, hK.x hx hg⟩
def Chn (l : List Tg) (n dep : Nat) (o : ByteArray → Bool) : Prop := ∃ ch : List ByteArray, ch.Nodup ∧ (∀ s, o s = true ↔ s ∈ ch) ∧ (∀ s ∈ ch, isT l s = true) ∧ dep = ch.length + 1 ∧ n + ch.length = l.length + 1
theorem names_mem {l : List Tg} {s : ByteArray} (h : isT l s = true) : s ∈ names l := by
  obtain ⟨t, ht, rfl⟩ := Gr.isT_iff.1 h
  exact List.mem_map_of_mem ht
theorem Chn.pos {l : List Tg} {n dep : Nat} {o : ByteArray → Bool} (h : Chn l n dep o) : 0 < n := by
  obtain ⟨ch, h1, _, h3, _, h5⟩ := h
  have := List.Nodup.length_le_of_subset h1 (fun s hs => names_mem (h3 s hs) : ch ⊆ names l)
  simp [names] at this
  omega
theorem Chn.next {l : List Tg} {n dep : Nat} {o : ByteArray → Bool} (h : Chn l (n + 1) dep o) {s : ByteArray} (ho : o s = false) (hs : isT l s = true) : Chn l n (dep + 1) (upO o s true) := by
  obtain ⟨ch, h1, h2, h3, h4, h5⟩ := h
  have hn : s ∉ ch := fun hm => by rw [(h2 s).2 hm] at ho; cases ho
  refine ⟨s :: ch, List.nodup_cons.2 ⟨hn, h1⟩, fun x => ?_, fun x hx => ?_, by simp; omega, by simp; omega⟩
  · unfold upO
    by_cases e : x = s
    · subst e; simp
    · rw [if_neg e, h2 x, List.mem_cons]; simp [e]
  · rcases List.mem_cons.1 hx with e | e
    · rw [e]; exact hs
    · exact h3 x e
theorem Chn.dep_le {l : List Tg} {n dep : Nat} {o : ByteArray → Bool} (h : Chn l n dep o) : dep ≤ l.length + 2 ∧ 1 ≤ dep := by
  obtain ⟨ch, h1, _, h3, h4, h5⟩ := h
  omega
theorem upO_back {o : ByteArray → Bool} {s : ByteArray} (h : o s = false) : upO (upO o s true) s false = o := by
  funext x
  unfold upO
  by_cases e : x = s
  · subst e; rw [if_pos rfl, h]
  · rw [if_neg e, if_neg e]
section
variable {fi : ByteArray → Option Tg} {get : B → Option ByteArray} {run : Tg → List Fl → List B → Out} {x : ByteArray}
theorem deps_open {rec : Kn → ByteArray → Rs × Kn} (h : ∀ k s, (rec k s).2 x = k x) (nm : ByteArray) : ∀ (ds : List ByteArray) (fs : List Fl) (k : Kn), (depsF rec nm ds fs k).2 x = k x
  | [], fs, k => rfl
  | d :: ds, fs, k => by
    rw [depsF]
    cases addF nm fs depW d (rec k d).1 with
    | inl r => exact h k d
    | inr fs' => exact (deps_open h nm ds fs' _).trans (h k d)
theorem needs_open {rec : Kn → ByteArray → Rs × Kn} (h : ∀ k s, (rec k s).2 x = k x) (t : Tg) : ∀ (m : Nat) (fs : List Fl) (ns : List B) (k : Kn), (needsF fi run rec t m fs ns k).2 x = k x
  | 0, fs, ns, k => rfl
  | m + 1, fs, ns, k => by
    rw [needsF]
    by_cases h1 : (run t fs ns).kind = 1
    · rw [if_pos h1]
    · rw [if_neg h1]
      by_cases h2 : (run t fs ns).kind = 2
      · rw [if_pos h2]
        by_cases h3 : fi (bs (run t fs ns).need) = none
        · rw [if_pos h3]
        · rw [if_neg h3]
          cases addF t.n fs needW (bs (run t fs ns).need) (rec k (bs (run t fs ns).need)).1 with
          | inl r => exact h k _
          | inr fs' => exact (needs_open h t m fs' _ _).trans (h k _)
      · rw [if_neg h2]
theorem fresh_open {rec : Kn → ByteArray → Rs × Kn} (h : ∀ k s, (rec k s).2 x = k x) (m : Nat) (t : Tg) (k : Kn) : (freshF fi get run rec m t k).2 x = k x := by
  unfold freshF
  cases srcF get t.n t.ss [] with
  | inl r => rfl
  | inr fs =>
    dsimp only
    have hd := deps_open h t.n t.ds fs k
    cases e : depsF rec t.n t.ds fs k with
    | mk u k' =>
      rw [e] at hd
      cases u with
      | inl r => exact hd
      | inr l => exact (needs_open h t m l [] k').trans hd
theorem val_open (m : Nat) : ∀ (n : Nat) (o : ByteArray → Bool), o x = true → ∀ k s, (val fi get run m n o k s).2 x = k x
  | 0, o, ho, k, s => rfl
  | n + 1, o, ho, k, s => by
    rw [val]
    by_cases h1 : o s = true
    · rw [if_pos h1]
    · rw [if_neg h1]
      cases k s with
      | some r => rfl
      | none =>
        dsimp only
        cases fi s with
        | none => rfl
        | some t =>
          have hne : x ≠ s := fun e => h1 (by rw [← e]; exact ho)
          have ho2 : upO o s true x = true := by unfold upO; rw [if_neg hne]; exact ho
          show upR _ s _ x = k x
          unfold upR
          rw [if_neg hne]
          exact fresh_open (val_open m n (upO o s true) ho2) m t k
end
end Go.Proofs.YtdidnlkilleljaaGreatDoor.Mn
