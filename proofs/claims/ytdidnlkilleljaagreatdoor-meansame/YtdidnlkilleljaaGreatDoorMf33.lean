/- Joined by mkmerged.py: MnFrs, MnAwakeP. -/
import Derived.Test.YtdidnlkilleljaaGreatDoorMf32
import Derived.Test.YtdidnlkilleljaaGreatDoorMf29
import Derived.Test.YtdidnlkilleljaaGreatDoorMf27
/- MnFrs, what a claim needs of it (prune.py). -/
namespace Go.Proofs.YtdidnlkilleljaaGreatDoor.Mn
open Go.RowKit
open Lg (BelowX Lies strV StepsAt)
open Fs (fc fc_len fc_cell Fls B)
open Bx (RightF Out GoodO outcome)
open Gr (Fits isT find)
set_option linter.unusedVariables false
set_option maxRecDepth 100000
def Two (W V : World) (t : Tg) (dv sv : Value) : Prop :=
  V.heap[W.heap.size]? = some (.cells #[.string t.n, .string t.c, dv, sv] 47 (0, 0)) ∧ V.heap[W.heap.size + 1]? = some (.cells #[.int .i64 0, .string ⟨#[]⟩, .string ⟨#[]⟩, .slice none 0 0] 37 (0, 0))
structure Frs (w0 : World) (a : Adr) (xo bks : List Nat) (l : List Tg) (dep : Nat) (o : ByteArray → Bool) (W : World) (t : Tg) (dv sv : Value) (fs : List Fl) (kk : Kn) (A : Option Addr) (c : Nat) (V : World) : Prop where
  rt : RightF fs
  fk : FineK (isN l) kk
  inn : InAt V (fun g => g ≠ W.heap.size + 2 ∧ g ∉ xo) (W.heap.size + 2) t dv sv A c fs
  mn : MnAt w0 a ((W.heap.size + 2) :: (W.heap.size + 1) :: (xo ++ bks)) (names l) dep kk o V
  kp : KeepM a.km a.om W V
  two : Two W V t dv sv
  hi : a.top ≤ W.heap.size
variable {w0 : World} {a : Adr} {xo bks : List Nat} {l : List Tg} {dep : Nat} {o : ByteArray → Bool} {W : World} {t : Tg} {dv sv : Value} {fs : List Fl} {kk : Kn} {A : Option Addr} {c : Nat} {V V' : World}
theorem Frs.below (h : Frs w0 a xo bks l dep o W t dv sv fs kk A c V) (hb : Below V.heap.size V V') : Frs w0 a xo bks l dep o W t dv sv fs kk A c V' :=
  ⟨h.rt, h.fk, h.inn.below hb, h.mn.below hb, h.kp.then hb, ⟨heap_below hb (lt_heap h.two.1) h.two.1, heap_below hb (lt_heap h.two.2) h.two.2⟩, h.hi⟩
theorem Frs.x (h : Frs w0 a xo bks l dep o W t dv sv fs kk A c V) (hb : BelowX V.heap.size (W.heap.size + 2) V V') {fs' : List Fl} {A' : Option Addr} {c' : Nat} (hr : RightF fs') (hi : InAt V' (fun g => g ≠ W.heap.size + 2 ∧ g ∉ xo) (W.heap.size + 2) t dv sv A' c' fs') : Frs w0 a xo bks l dep o W t dv sv fs' kk A' c' V' :=
  ⟨hr, h.fk, hi, h.mn.x hb, h.kp.x hb (by omega), ⟨(hb.block _ (lt_heap h.two.1) (by omega)).trans h.two.1, (hb.block _ (lt_heap h.two.2) (by omega)).trans h.two.2⟩, h.hi⟩
theorem MnAt.lies {nms : List ByteArray} {ok : Nat → Prop} {sz n : Nat} {xs : List Value} {A : Option Addr} (h : MnAt w0 a bks nms dep kk o V) (hk : KeepM a.km a.om V V') (hl : Lies V ok sz A n xs) (hs : 0 < sz) : Lies V' ok sz A n xs := by
  refine ⟨hl.1, fun h0 => ?_⟩
  obtain ⟨ad, rfl, hok, hcells⟩ := hl.2 h0
  refine ⟨ad, rfl, hok, fun j u hu => ?_⟩
  have hcu := hcells j u hu
  obtain ⟨_, _, hm, _⟩ := h.kn
  obtain ⟨_, _, ho, _⟩ := h.op
  have h1 := hm.nocell hcu
  have h2 := ho.nocell hcu
  have hlt := Fs.cell_lt hcu
  rw [block_of_add] at h1 h2 hlt
  exact (World.cell?_of_block (by rw [block_of_add]; exact hk.block _ hlt h1 h2)).trans hcu
theorem MnAt.reads {nms : List ByteArray} {sz n : Nat} {xs : List Value} {A : Option Addr} (h : MnAt w0 a bks nms dep kk o V) (hk : KeepM a.km a.om V V') (hl : Reads V V.heap.size sz A n xs) (hs : 0 < sz) : Reads V' V'.heap.size sz A n xs :=
  (h.lies hk (Lies.of_reads hl) hs).reads hs
theorem Frs.asked {kk' : Kn} (h : Frs w0 a xo bks l dep o W t dv sv fs kk A c V) (hk : KeepM a.km a.om V V') (hm : MnAt w0 a ((W.heap.size + 2) :: (W.heap.size + 1) :: (xo ++ bks)) (names l) dep kk' o V') (hf : FineK (isN l) kk') : Frs w0 a xo bks l dep o W t dv sv fs kk' A c V' := by
  have h1 := h.mn.hi
  have h2 := h.hi
  have st : ∀ g, W.heap.size ≤ g → g < V.heap.size → V'.heap[g]? = V.heap[g]? := fun g h3 h4 => hk.block g h4 (by omega) (by omega)
  exact ⟨h.rt, hf, ⟨(st _ (by omega) (lt_heap h.inn.blk)).trans h.inn.blk, h.mn.lies hk h.inn.fls (by decide), h.inn.cap⟩, hm, h.kp.trans hk, ⟨(st _ (by omega) (lt_heap h.two.1)).trans h.two.1, (st _ (by omega) (lt_heap h.two.2)).trans h.two.2⟩, h.hi⟩
theorem Frs.env (h : Frs w0 a xo bks l dep o W t dv sv fs kk A c V) (hE : Lg.Env w0) (hx : BelowX V.heap.size (W.heap.size + 2) V V') : Lg.Env V' := by
  have h1 := h.mn.bw.size
  have h2 := h.mn.lo
  have h3 := h.mn.hi
  have h4 := h.hi
  exact hE.below (h.mn.bw.trans (hx.below h1 (by omega)))
theorem ValSays.less_all {r : Rs} {e : Ending} (h : ValSays w0 a (xo ++ bks) (names l) dep W r kk o e V) : ValSays w0 a bks (names l) dep W r kk o e V := by
  obtain ⟨A, c, h1, h2, h3, h4, h5⟩ := h
  exact ⟨A, c, h1, h2.mono (by decide) fun g hg hs => ⟨fun hm => hg (List.mem_append_right _ hm), rfl⟩, h3, h4.keep h4.bw (Nat.le_refl _) (fun g hg hs => ⟨fun hm => hs (List.mem_append_right _ hm), rfl⟩) (fun g hg => h4.bsg g (List.mem_append_right _ hg)), h5⟩
theorem Frs.end_ (h : Frs w0 a xo bks l dep o W t dv sv fs kk A c V) {r : Rs} {A' : Option Addr} {c' : Nat} (hr : Lies V (fun x => x ∉ (W.heap.size + 1) :: (xo ++ bks)) 2 A' r.files.length (fc r.files)) (hc : r.files.length ≤ c') :
    ValSays w0 a bks (names l) dep W r kk o (.returned (.agg #[.int .i64 r.err, .string r.at_, .string r.text, .slice A' r.files.length c'])) ((((V.setCell ⟨W.heap.size + 1, 0, none⟩ (.int .i64 r.err)).setCell ⟨W.heap.size + 1, 1, none⟩ (.string r.at_)).setCell ⟨W.heap.size + 1, 2, none⟩ (.string r.text)).setCell ⟨W.heap.size + 1, 3, none⟩ (.slice A' r.files.length c')) :=
  (val_end h.mn.less h.kp (Nat.le_succ _) hr hc).less_all
theorem Frs.four (h : Frs w0 a xo bks l dep o W t dv sv fs kk A c V) : (∃ u, V.cell? ⟨W.heap.size + 1, 0, none⟩ = some u) ∧ (∃ u, V.cell? ⟨W.heap.size + 1, 1, none⟩ = some u) ∧ (∃ u, V.cell? ⟨W.heap.size + 1, 2, none⟩ = some u) ∧ (∃ u, V.cell? ⟨W.heap.size + 1, 3, none⟩ = some u) ∧
    V.frozen? ⟨W.heap.size + 1, 0, none⟩ = false ∧ V.frozen? ⟨W.heap.size + 1, 1, none⟩ = false ∧ V.frozen? ⟨W.heap.size + 1, 2, none⟩ = false ∧ V.frozen? ⟨W.heap.size + 1, 3, none⟩ = false := Mn.four h.two.2
theorem frs_start {k : Kn} (hM : MnAt w0 a bks (names l) dep k o W) (hk : FineK (isN l) k) (t : Tg) (dv sv : Value) :
    Frs w0 a [] bks l dep o W t dv sv [] k none 0 (((W.alloc (.cells #[.string t.n, .string t.c, dv, sv] 47)).alloc (.cells #[.int .i64 0, .string ⟨#[]⟩, .string ⟨#[]⟩, .slice none 0 0] 37)).alloc (.cells #[.string t.n, .string t.c, dv, sv, .slice none 0 0] 81)) := by
  have hb : Below W.heap.size W (((W.alloc (.cells #[.string t.n, .string t.c, dv, sv] 47)).alloc (.cells #[.int .i64 0, .string ⟨#[]⟩, .string ⟨#[]⟩, .slice none 0 0] 37)).alloc (.cells #[.string t.n, .string t.c, dv, sv, .slice none 0 0] 81)) := (((Below.refl _ _).alloc (Nat.le_refl _) _).alloc (by simp) _).alloc (by simp; omega) _
  have q0 := heap_alloc_new W (.cells #[.string t.n, .string t.c, dv, sv] 47)
  have q1 := heap_alloc_new (W.alloc (.cells #[.string t.n, .string t.c, dv, sv] 47)) (.cells #[.int .i64 0, .string ⟨#[]⟩, .string ⟨#[]⟩, .slice none 0 0] 37)
  have q2 := heap_alloc_new ((W.alloc (.cells #[.string t.n, .string t.c, dv, sv] 47)).alloc (.cells #[.int .i64 0, .string ⟨#[]⟩, .string ⟨#[]⟩, .slice none 0 0] 37)) (.cells #[.string t.n, .string t.c, dv, sv, .slice none 0 0] 81)
  rw [show (W.alloc (.cells #[.string t.n, .string t.c, dv, sv] 47)).heap.size = W.heap.size + 1 by simp] at q1
  rw [show ((W.alloc (.cells #[.string t.n, .string t.c, dv, sv] 47)).alloc (.cells #[.int .i64 0, .string ⟨#[]⟩, .string ⟨#[]⟩, .slice none 0 0] 37)).heap.size = W.heap.size + 2 by simp] at q2
  exact ⟨right_nil, hk, ⟨q2, Lies.none_, Nat.le_refl _⟩, hM.keep (hM.bw.trans (hb.mono hM.bw.size)) hb.size (fun g hg hs => ⟨fun hm => by rcases List.mem_cons.1 hm with e | hm; omega; rcases List.mem_cons.1 hm with e | e; omega; exact hs e, hb.block g hg⟩) (fun g hg => by
    have h1 := hM.hi.2.2
    have h2 := lt_heap q2
    rcases List.mem_cons.1 hg with e | hg
    · omega
    rcases List.mem_cons.1 hg with e | e
    · omega
    · have := hM.bsg g e; omega), .of hb, ⟨heap_alloc_lt (heap_alloc_lt q0), heap_alloc_lt q1⟩, hM.hi.2.2⟩
theorem Frs.tcells (h : Frs w0 a xo bks l dep o W t dv sv fs kk A c V) : V.cell? ⟨W.heap.size, 0, none⟩ = some (.string t.n) ∧ V.cell? ⟨W.heap.size, 1, none⟩ = some (.string t.c) ∧ V.cell? ⟨W.heap.size, 2, none⟩ = some dv := ⟨(cell_heap h.two.1 0).trans rfl, (cell_heap h.two.1 1).trans rfl, (cell_heap h.two.1 2).trans rfl⟩
def obs (v : Value) : List Nat := v.ownBlock.toList
theorem mem_obs {v : Value} {g : Nat} : g ∈ obs v ↔ v.ownBlock = some g := by unfold obs; cases v.ownBlock <;> simp [eq_comm]
theorem Frs.grown {U U' : World} {v v' : Value} (h : Frs w0 a (obs v) bks l dep o W t dv sv fs kk A c V) (hb : Below V.heap.size V U) (hg : U.grownBy U' v.ownBlock) (hat : v'.ownBlock = v.ownBlock ∨ v'.ownBlock = some U.heap.size) (hv' : ∀ g, v'.ownBlock = some g → g < U'.heap.size) (hv : ∀ g, v.ownBlock = some g → W.heap.size + 2 < g) : Frs w0 a (obs v') bks l dep o W t dv sv fs kk A c U' := by
  have hz := hb.size
  have hz2 := hg.size
  have st : ∀ g, g < V.heap.size → g ∉ obs v → U'.heap[g]? = V.heap[g]? := fun g h1 h2 => (hg.block g (by omega) (fun e => h2 (mem_obs.2 e.symm))).trans (hb.block g h1)
  have nw : ∀ g, g < V.heap.size → g ∉ obs v → g ∉ obs v' := fun g h1 h2 hm => by
    have h3 := mem_obs.1 hm
    rcases hat with e | e
    · exact h2 (mem_obs.2 (e.symm.trans h3))
    · rw [e] at h3; injection h3 with h3; omega
  have low : ∀ g, g ≤ W.heap.size + 2 → g ∉ obs v := fun g hg2 hm => by have := hv g (mem_obs.1 hm); omega
  have hi := lt_heap h.inn.blk
  have h0 := h.mn.bw
  have h1 := h.mn.lo
  have h2 := h.mn.hi
  have h3 := h.hi
  refine ⟨h.rt, h.fk, ⟨(st _ hi (low _ (Nat.le_refl _))).trans h.inn.blk, h.inn.fls.mono (by decide) fun g hg2 hs => ⟨⟨hg2.1, nw g hs hg2.2⟩, st g hs hg2.2⟩, h.inn.cap⟩, ?_, ?_, ⟨(st _ (by omega) (low _ (by omega))).trans h.two.1, (st _ (by omega) (low _ (by omega))).trans h.two.2⟩, h.hi⟩
  · refine h.mn.keep ?_ (by omega) (fun g hg2 hs => ?_) (fun g hm => ?_)
    · refine ⟨hg.os.trans (hb.os.trans h0.os), hg.tape.trans (hb.tape.trans h0.tape), hg.output.trans (hb.output.trans h0.output), by have := h0.size; omega, fun g hg2 => ?_⟩
      exact (st g (by have := h0.size; omega) (low g (by omega))).trans (h0.block g hg2)
    · have hs' : g ∉ obs v := fun hm => hs (by simp [hm])
      refine ⟨fun hm => ?_, st g hg2 hs'⟩
      rcases List.mem_cons.1 hm with e | hm
      · exact hs (by simp [e])
      rcases List.mem_cons.1 hm with e | hm
      · exact hs (by simp [e])
      rcases List.mem_append.1 hm with hm | hm
      · exact nw g hg2 hs' hm
      · exact hs (by simp [hm])
    · have old : ∀ g, g ∈ (W.heap.size + 2) :: (W.heap.size + 1) :: (obs v ++ bks) → a.top ≤ g ∧ g < U'.heap.size := fun g hm => by have := h.mn.bsg g hm; omega
      rcases List.mem_cons.1 hm with e | hm
      · exact old g (by simp [e])
      rcases List.mem_cons.1 hm with e | hm
      · exact old g (by simp [e])
      rcases List.mem_append.1 hm with hm | hm
      · have h5 := mem_obs.1 hm
        refine ⟨?_, hv' g h5⟩
        rcases hat with e | e
        · have := hv g (e.symm.trans h5); omega
        · rw [e] at h5; injection h5 with h5; omega
      · exact old g (by simp [hm])
  · have hk := h.kp
    refine ⟨hg.os.trans (hb.os.trans hk.os), hg.tape.trans (hb.tape.trans hk.tape), hg.output.trans (hb.output.trans hk.output), by have := hk.size; omega, fun g hg2 e1 e2 => ?_⟩
    exact (st g (by have := hk.size; omega) (low g (by omega))).trans (hk.block g hg2 e1 e2)
theorem own_blk {w : World} {B size n : Nat} {e : TypeId} {v : Value} {xs : List Value} (h : w.ownsRow B e size v n xs) {g : Nat} (hg : v.ownBlock = some g) : B ≤ g ∧ g < w.heap.size := by
  rcases h.2 with ⟨rfl, _⟩ | ⟨g', cap, cur, hv, hB, hh, _⟩
  · cases hg
  · subst hv
    injection hg with hg
    subst hg
    exact ⟨hB, lt_heap hh⟩
theorem own_stay1 {w w' : World} {B size n : Nat} {e : TypeId} {v : Value} {xs : List Value} (h : w.ownsRow B e size v n xs) (hk : ∀ g, v.ownBlock = some g → w'.heap[g]? = w.heap[g]?) : w'.ownsRow B e size v n xs := by
  refine ⟨h.1, ?_⟩
  rcases h.2 with h2 | ⟨g, cap, cur, hv, hB, hg, h1, h2, h3, h4⟩
  · exact .inl h2
  · exact .inr ⟨g, cap, cur, hv, hB, (hk g (by rw [hv]; rfl)).trans hg, h1, h2, h3, h4⟩
structure Rnd (C0 B1 D0 g : Nat) (oc : Array Value) (L : Option Addr) (mL : Nat) (steps : List Lg.Stp) (v : Value) (ns : List B) (V : World) : Prop where
  blk : V.heap[g]? = some (.cells oc 31 (0, 0))
  st : StepsAt V (fun k => C0 ≤ k ∧ k < B1) L mL steps
  own : V.ownsRow B1 9 1 v ns.length (strV ns)
  lt : ∀ k, v.ownBlock = some k → k < D0
  sz : D0 ≤ V.heap.size
theorem Rnd.stay {C0 B1 D0 g mL : Nat} {oc : Array Value} {L : Option Addr} {steps : List Lg.Stp} {v : Value} {ns : List B} {V V' : World} (h : Rnd C0 B1 D0 g oc L mL steps v ns V) (hg : C0 ≤ g ∧ g < D0) (hB : C0 ≤ B1 ∧ B1 ≤ D0) (hz : V.heap.size ≤ V'.heap.size) (hk : ∀ k, C0 ≤ k → k < D0 → V'.heap[k]? = V.heap[k]?) : Rnd C0 B1 D0 g oc L mL steps v ns V' :=
  ⟨(hk g hg.1 hg.2).trans h.blk, h.st.mono fun k h1 h2 => ⟨h1, hk k h1.1 (by omega)⟩, own_stay1 h.own fun k h1 => hk k (by have := own_blk h.own h1; omega) (h.lt k h1), h.lt, by have := h.sz; omega⟩
theorem lies_more {b1 b2 zb : Nat} {xo bks : List Nat} {V V' : World} {A : Option Addr} {n : Nat} {xs : List Value} (h : Lies V (fun g => g ∉ b2 :: b1 :: (xo ++ bks)) 2 A n xs) (hb : Below V.heap.size V V') (hz : V.heap.size ≤ zb) : Lies V' (fun g => g ∉ b2 :: b1 :: (zb :: xo ++ bks)) 2 A n xs :=
  h.mono (by decide) fun g hg hs => ⟨fun hm => by
    simp only [List.cons_append, List.mem_cons] at hm hg
    rcases hm with e | e | e | e
    · exact hg (.inl e)
    · exact hg (.inr (.inl e))
    · omega
    · exact hg (.inr (.inr e)), hb.block g hs⟩
theorem lies_put {b1 zb : Nat} {xo bks : List Nat} {V V' : World} {A : Option Addr} {n : Nat} {xs : List Value} (h : Lies V (fun g => g ∉ b1 :: (zb :: xo ++ bks)) 2 A n xs) (hx : BelowX V.heap.size zb V V') : Lies V' (fun g => g ∉ b1 :: (xo ++ bks)) 2 A n xs :=
  h.mono (by decide) fun g hg hs => ⟨fun hm => hg (by
    simp only [List.cons_append, List.mem_cons] at hm ⊢
    rcases hm with e | e
    · exact .inl e
    · exact .inr (.inr e)), hx.block g hs (fun e => hg (by simp [e]))⟩
theorem Frs.inn1 (h : Frs w0 a xo bks l dep o W t dv sv fs kk A c V) : InAt V (fun g => g ≠ W.heap.size + 2) (W.heap.size + 2) t dv sv A c fs := h.inn.keep rfl fun k hk _ => ⟨hk.1, rfl⟩
theorem inn_new {b B : Nat} (h : InAt V (fun g => g ≠ b ∧ B ≤ g) b t dv sv A c fs) (hx : ∀ g ∈ xo, g < B) : InAt V (fun g => g ≠ b ∧ g ∉ xo) b t dv sv A c fs := h.keep rfl fun k hk _ => ⟨⟨hk.1, fun hm => by have := hx k hm; omega⟩, rfl⟩
theorem inn_nil {b : Nat} (h : InAt V (fun g => g ≠ b) b t dv sv A c fs) : InAt V (fun g => g ≠ b ∧ g ∉ ([] : List Nat)) b t dv sv A c fs := h.keep rfl fun k hk _ => ⟨⟨hk, by simp⟩, rfl⟩
theorem Frs.lt (h : Frs w0 a xo bks l dep o W t dv sv fs kk A c V) : ∀ g ∈ xo, g < V.heap.size := fun g hg => (h.mn.bsg g (by simp [hg])).2
theorem Frs.more {zb : Nat} (h : Frs w0 a xo bks l dep o W t dv sv fs kk A c V) (hb : Below V.heap.size V V') (h1 : V.heap.size ≤ zb) (h2 : zb < V'.heap.size) : Frs w0 a (zb :: xo) bks l dep o W t dv sv fs kk A c V' := by
  have hz := hb.size
  refine ⟨h.rt, h.fk, ⟨(hb.block _ (lt_heap h.inn.blk)).trans h.inn.blk, h.inn.fls.mono (by decide) fun g hg hs => ⟨⟨hg.1, fun hm => by rcases List.mem_cons.1 hm with e | e; omega; exact hg.2 e⟩, hb.block g hs⟩, h.inn.cap⟩, ?_, h.kp.then hb, (h.below hb).two, h.hi⟩
  refine h.mn.keep (h.mn.bw.trans (hb.mono h.mn.bw.size)) hz (fun g hg hs => ⟨fun hm => ?_, hb.block g hg⟩) (fun g hm => ?_)
  · simp only [List.cons_append, List.mem_cons] at hm hs
    rcases hm with e | e | e | e
    · exact hs (.inl e)
    · exact hs (.inr (.inl e))
    · omega
    · exact hs (.inr (.inr e))
  · simp only [List.cons_append, List.mem_cons] at hm
    have h3 := h.mn.hi.2.2
    have old : ∀ g, g ∈ (W.heap.size + 2) :: (W.heap.size + 1) :: (xo ++ bks) → a.top ≤ g ∧ g < V'.heap.size := fun g hm => by have := h.mn.bsg g hm; omega
    rcases hm with e | e | e | e
    · exact old g (by simp [e])
    · exact old g (by simp [e])
    · omega
    · exact old g (List.mem_cons_of_mem _ (List.mem_cons_of_mem _ e))
def Ends (w0 : World) (a : Adr) (xo bks : List Nat) (l : List Tg) (dep : Nat) (o : ByteArray → Bool) (W : World) (kk : Kn) (V : World) : Prop :=
  MnAt w0 a ((W.heap.size + 2) :: (W.heap.size + 1) :: (xo ++ bks)) (names l) dep kk o V ∧ KeepM a.km a.om W V ∧ V.heap[W.heap.size + 1]? = some (.cells #[.int .i64 0, .string ⟨#[]⟩, .string ⟨#[]⟩, .slice none 0 0] 37 (0, 0))
theorem Frs.ends (h : Frs w0 a xo bks l dep o W t dv sv fs kk A c V) : Ends w0 a xo bks l dep o W kk V := ⟨h.mn, h.kp, h.two.2⟩
theorem Ends.below (h : Ends w0 a xo bks l dep o W kk V) (hb : Below V.heap.size V V') : Ends w0 a xo bks l dep o W kk V' := ⟨h.1.below hb, h.2.1.then hb, heap_below hb (lt_heap h.2.2) h.2.2⟩
theorem Ends.x (h : Ends w0 a xo bks l dep o W kk V) (hb : BelowX V.heap.size (W.heap.size + 2) V V') : Ends w0 a xo bks l dep o W kk V' := ⟨h.1.x hb, h.2.1.x hb (by omega), (hb.block _ (lt_heap h.2.2) (by omega)).trans h.2.2⟩
theorem mn_put {zb : Nat} (h : MnAt w0 a ((W.heap.size + 2) :: (W.heap.size + 1) :: (zb :: xo ++ bks)) (names l) dep kk o V) (hx : BelowX V.heap.size zb V V') : MnAt w0 a ((W.heap.size + 2) :: (W.heap.size + 1) :: (xo ++ bks)) (names l) dep kk o V' := by
  have h0 := h.bsg zb (by simp)
  have h1 := h.lo
  have h2 := h.hi
  have h3 := h.bw.size
  have sub : ∀ g, g ∈ (W.heap.size + 2) :: (W.heap.size + 1) :: (xo ++ bks) → g ∈ (W.heap.size + 2) :: (W.heap.size + 1) :: (zb :: xo ++ bks) := fun g hm => by
    simp only [List.cons_append, List.mem_cons] at hm ⊢
    rcases hm with e | e | e
    · exact .inl e
    · exact .inr (.inl e)
    · exact .inr (.inr (.inr e))
  exact h.keep (h.bw.trans (hx.below h3 (by omega))) hx.size (fun g hg hs => ⟨fun hm => hs (sub g hm), hx.block g hg (fun e => hs (by simp [e]))⟩) (fun g hm => by have := h.bsg g (sub g hm); have := hx.size; omega)
theorem Ends.put {zb : Nat} (h : Ends w0 a (zb :: xo) bks l dep o W kk V) (hx : BelowX V.heap.size zb V V') (hz : W.heap.size + 2 < zb) : Ends w0 a xo bks l dep o W kk V' :=
  ⟨mn_put h.1 hx, h.2.1.x hx (by omega), (hx.block _ (lt_heap h.2.2) (by omega)).trans h.2.2⟩
theorem Frs.put {zb : Nat} (h : Frs w0 a (zb :: xo) bks l dep o W t dv sv fs kk A c V) (hx : BelowX V.heap.size zb V V') (hz : W.heap.size + 2 < zb) : Frs w0 a xo bks l dep o W t dv sv fs kk A c V' :=
  ⟨h.rt, h.fk, ⟨(hx.block _ (lt_heap h.inn.blk) (by omega)).trans h.inn.blk, h.inn.fls.mono (by decide) fun g hg hs => ⟨⟨hg.1, fun hm => hg.2 (List.mem_cons_of_mem _ hm)⟩, hx.block g hs (fun e => hg.2 (by simp [e]))⟩, h.inn.cap⟩, mn_put h.mn hx, h.kp.x hx (by omega), ⟨(hx.block _ (lt_heap h.two.1) (by omega)).trans h.two.1, (hx.block _ (lt_heap h.two.2) (by omega)).trans h.two.2⟩, h.hi⟩
theorem Ends.end_ (h : Ends w0 a xo bks l dep o W kk V) {r : Rs} {A' : Option Addr} {c' : Nat} (hr : Lies V (fun x => x ∉ (W.heap.size + 1) :: (xo ++ bks)) 2 A' r.files.length (fc r.files)) (hc : r.files.length ≤ c') :
    ValSays w0 a bks (names l) dep W r kk o (.returned (.agg #[.int .i64 r.err, .string r.at_, .string r.text, .slice A' r.files.length c'])) ((((V.setCell ⟨W.heap.size + 1, 0, none⟩ (.int .i64 r.err)).setCell ⟨W.heap.size + 1, 1, none⟩ (.string r.at_)).setCell ⟨W.heap.size + 1, 2, none⟩ (.string r.text)).setCell ⟨W.heap.size + 1, 3, none⟩ (.slice A' r.files.length c')) :=
  (val_end h.1.less h.2.1 (Nat.le_succ _) hr hc).less_all
theorem AddSays.bad {W w' : World} {b : Nat} {t : Tg} {dv sv : Value} {r r' : Rs} {F : Option Addr} {d : Nat} {e : Ending} {ok ok' : Nat → Prop} (h : AddSays W b t dv sv r F d (.inl r') e w') (hr : Lies W ok 2 F r.files.length (fc r.files)) (hok : ∀ g, ok g → g ≠ b ∧ ok' g) (hc : r.files.length ≤ d) :
    BelowX W.heap.size b W w' ∧ ∃ A c, e = .returned (.agg #[.int .i64 r'.err, .string r'.at_, .string r'.text, .slice A r'.files.length c]) ∧ Lies w' ok' 2 A r'.files.length (fc r'.files) ∧ r'.files.length ≤ c := by
  obtain ⟨hx, h⟩ := h
  refine ⟨hx, ?_⟩
  rcases h with ⟨h1, h2⟩ | ⟨rfl, h2⟩
  · exact ⟨none, 0, h1, by rw [h2]; exact Lies.none_, by rw [h2]; exact Nat.le_refl _⟩
  · exact ⟨F, d, h2, hr.mono (by decide) fun g hg hs => ⟨(hok g hg).2, hx.block g hs (hok g hg).1⟩, hc⟩
theorem says_at {w0 : World} {a : Adr} {bks : List Nat} {nms : List ByteArray} {dep : Nat} {W : World} {r : Rs} {k : Kn} {o : ByteArray → Bool} {e : Ending} {V : World} {G : Rs × Kn} (h : G = (r, k)) (hp : ValSays w0 a bks nms dep W r k o e V) : ValSays w0 a bks nms dep W G.1 G.2 o e V := by subst h; exact hp
variable {fi : ByteArray → Option Tg} {get : B → Option ByteArray} {run : Tg → List Fl → List B → Out} {rec : Kn → ByteArray → Rs × Kn} {m : Nat} {k : Kn}
theorem needs_done {q : Nat} {ns : List B} (h : (run t fs ns).kind = 1) : needsF fi run rec t (q + 1) fs ns kk = (done (run t fs ns).files, kk) := by rw [needsF, if_pos h]
theorem needs_fail {q : Nat} {ns : List B} (h : (run t fs ns).kind ≠ 1) (h2 : (run t fs ns).kind ≠ 2) : needsF fi run rec t (q + 1) fs ns kk = (failed (run t fs ns).err t.n (bs (run t fs ns).text), kk) := by rw [needsF, if_neg h, if_neg h2]
theorem needs_none {q : Nat} {ns : List B} (h : (run t fs ns).kind = 2) (h2 : fi (bs (run t fs ns).need) = none) : needsF fi run rec t (q + 1) fs ns kk = (failed 30 t.n (bs (run t fs ns).need), kk) := by rw [needsF, if_neg (by omega), if_pos h, if_pos h2]
theorem needs_bad {q : Nat} {ns : List B} (h : (run t fs ns).kind = 2) (h2 : fi (bs (run t fs ns).need) ≠ none) {r : Rs} (h3 : addF t.n fs needW (bs (run t fs ns).need) (rec kk (bs (run t fs ns).need)).1 = .inl r) : needsF fi run rec t (q + 1) fs ns kk = (r, (rec kk (bs (run t fs ns).need)).2) := by rw [needsF, if_neg (by omega), if_pos h, if_neg h2, h3]
theorem needs_next {q : Nat} {ns : List B} (h : (run t fs ns).kind = 2) (h2 : fi (bs (run t fs ns).need) ≠ none) {fs' : List Fl} (h3 : addF t.n fs needW (bs (run t fs ns).need) (rec kk (bs (run t fs ns).need)).1 = .inr fs') : needsF fi run rec t (q + 1) fs ns kk = needsF fi run rec t q fs' (ns ++ [(run t fs ns).need]) (rec kk (bs (run t fs ns).need)).2 := by rw [needsF, if_neg (by omega), if_pos h, if_neg h2, h3]
theorem fresh_src {r : Rs} (h : srcF get t.n t.ss [] = .inl r) : freshF fi get run rec m t k = (r, k) := by unfold freshF; rw [h]
theorem fresh_deps {f0 : List Fl} (h : srcF get t.n t.ss [] = .inr f0) {r : Rs} {k' : Kn} (h2 : depsF rec t.n t.ds f0 k = (.inl r, k')) : freshF fi get run rec m t k = (r, k') := by unfold freshF; rw [h]; dsimp only; rw [h2]
theorem fresh_needs {f0 f1 : List Fl} (h : srcF get t.n t.ss [] = .inr f0) {k' : Kn} (h2 : depsF rec t.n t.ds f0 k = (.inr f1, k')) : freshF fi get run rec m t k = needsF fi run rec t m f1 [] k' := by unfold freshF; rw [h]; dsimp only; rw [h2]
theorem deps_stop {nm : ByteArray} {ds : List ByteArray} {j : Nat} (hj : j < ds.length) {r : Rs} (h : addF nm fs depW ds[j] (rec kk ds[j]).1 = .inl r) : depsF rec nm (ds.drop j) fs kk = (.inl r, (rec kk ds[j]).2) := by
  rw [List.drop_eq_getElem_cons hj, depsF, h]
theorem deps_next {nm : ByteArray} {ds : List ByteArray} {j : Nat} (hj : j < ds.length) {fs' : List Fl} (h : addF nm fs depW ds[j] (rec kk ds[j]).1 = .inr fs') : depsF rec nm (ds.drop j) fs kk = depsF rec nm (ds.drop (j + 1)) fs' (rec kk ds[j]).2 := by
  rw [List.drop_eq_getElem_cons hj, depsF, h]
theorem deps_end {nm : ByteArray} {ds : List ByteArray} : depsF rec nm (ds.drop ds.length) fs kk = (.inr fs, kk) := by rw [List.drop_length, depsF]
theorem six {W : World} {g : Nat} {a b c d e f : Value} {T : TypeId} (q : W.heap[g]? = some (.cells #[a, b, c, d, e, f] T (0, 0))) :
    (∃ u, W.cell? ⟨g, 0, none⟩ = some u) ∧ (∃ u, W.cell? ⟨g, 1, none⟩ = some u) ∧ (∃ u, W.cell? ⟨g, 2, none⟩ = some u) ∧ (∃ u, W.cell? ⟨g, 3, none⟩ = some u) ∧ (∃ u, W.cell? ⟨g, 4, none⟩ = some u) ∧ (∃ u, W.cell? ⟨g, 5, none⟩ = some u) ∧
    W.frozen? ⟨g, 0, none⟩ = false ∧ W.frozen? ⟨g, 1, none⟩ = false ∧ W.frozen? ⟨g, 2, none⟩ = false ∧ W.frozen? ⟨g, 3, none⟩ = false ∧ W.frozen? ⟨g, 4, none⟩ = false ∧ W.frozen? ⟨g, 5, none⟩ = false :=
  ⟨⟨_, (cell_heap q 0).trans rfl⟩, ⟨_, (cell_heap q 1).trans rfl⟩, ⟨_, (cell_heap q 2).trans rfl⟩, ⟨_, (cell_heap q 3).trans rfl⟩, ⟨_, (cell_heap q 4).trans rfl⟩, ⟨_, (cell_heap q 5).trans rfl⟩, frozen_heap q 0, frozen_heap q 1, frozen_heap q 2, frozen_heap q 3, frozen_heap q 4, frozen_heap q 5⟩
theorem set6_ne {w : World} {g k : Nat} (h : k ≠ g) (a' b' c' d' e' f' : Value) : ((((((w.setCell ⟨g, 0, none⟩ a').setCell ⟨g, 1, none⟩ b').setCell ⟨g, 2, none⟩ c').setCell ⟨g, 3, none⟩ d').setCell ⟨g, 4, none⟩ e').setCell ⟨g, 5, none⟩ f').heap[k]? = w.heap[k]? := by
  rw [heap_set_ne h.symm, heap_set_ne h.symm, heap_set_ne h.symm, heap_set_ne h.symm, heap_set_ne h.symm, heap_set_ne h.symm]
theorem bs_inj {a b : B} (h : bs a = bs b) : a = b := by have := congrArg tl h; exact this
theorem ns_len {ns : List B} {l : List Tg} (h : ns.Nodup) (hs : ∀ x ∈ ns, isT l (bs x) = true) : ns.length ≤ l.length := by
  have h1 : (ns.map bs).Nodup := List.Pairwise.map bs (fun a b hab e => hab (bs_inj e)) h
  have := List.Nodup.length_le_of_subset h1 (fun s hm => by
    obtain ⟨x, hx, rfl⟩ := List.mem_map.1 hm
    exact names_mem (hs x hx) : ns.map bs ⊆ names l)
  simpa [names] using this
end Go.Proofs.YtdidnlkilleljaaGreatDoor.Mn
/- MnAwakeP, what a claim needs of it (prune.py). -/
namespace Go.Proofs.YtdidnlkilleljaaGreatDoor.Mn
open Fs (B)
set_option linter.unusedVariables false
set_option maxRecDepth 100000
def nT : ByteArray := ⟨#[116]⟩
def nU : ByteArray := ⟨#[117]⟩
def exA : List Tg := [⟨nT, ⟨#[112, 117, 116, 32, 111, 117, 116, 47, 97, 32, 120, 10]⟩, [], []⟩]
def exB : List Tg := [⟨nT, ⟨#[110, 101, 101, 100, 32, 117, 10]⟩, [], []⟩, ⟨nU, ⟨#[110, 101, 101, 100, 32, 116, 10]⟩, [], []⟩]
def exC : List Tg := [⟨nT, ⟨#[]⟩, [], [⟨#[113]⟩]⟩]
theorem cA : Gr.checkF exA = 0 := by kernel_rfl
theorem cB : Gr.checkF exB = 0 := by kernel_rfl
theorem cC : Gr.checkF exC = 0 := by kernel_rfl
def tA : Tg := ⟨nT, ⟨#[112, 117, 116, 32, 111, 117, 116, 47, 97, 32, 120, 10]⟩, [], []⟩
def tB : Tg := ⟨nT, ⟨#[110, 101, 101, 100, 32, 117, 10]⟩, [], []⟩
def tU : Tg := ⟨nU, ⟨#[110, 101, 101, 100, 32, 116, 10]⟩, [], []⟩
theorem runA : runF 9 tA [] [] = Bx.o1 := (Bx.outcome_of (fu := 9) (names := []) Bx.p1 Bx.check_nil (by decide) (by decide)).trans Bx.r1
theorem runU : runF 9 tU [] [] = Bx.o2 := (Bx.outcome_of (fu := 9) (names := []) Bx.p2 Bx.check_nil (by decide) (by decide)).trans Bx.r2
def lB : List Lg.Stp := [⟨7, [[117]], 0, []⟩]
theorem pB : Lg.parse [110, 101, 101, 100, 32, 117, 10] = (lB, 0) := by kernel_rfl
def oB : Bx.Out := ⟨2, [], [117], 0, [], 1⟩
theorem rB : Bx.ended (Bx.run Bx.withF Bx.withoutF [] Bx.upB Bx.soB 9 lB []) = oB := by
  have : Bx.run Bx.withF Bx.withoutF [] Bx.upB Bx.soB 9 lB [] = ⟨[], 1, 2, [117], 0, []⟩ := Bx.all_single rfl (by rw [Bx.all_nil_fun]; kernel_rfl)
  exact (congrArg Bx.ended this).trans (by kernel_rfl)
theorem runB : runF 9 tB [] [] = oB := (Bx.outcome_of (fu := 9) (names := []) pB Bx.check_nil (by decide) (by decide)).trans rB
section
variable (run : Tg → List Fl → List B → Bx.Out)
theorem vA (h : run tA [] [] = Bx.o1) : (val (Gr.find exA) (Fs.get []) run 2 2 (fun _ => false) (fun _ => none) nT).1 = done [⟨⟨#[97]⟩, ⟨#[120, 10]⟩⟩] := by
  have : (val (Gr.find exA) (Fs.get []) run 2 2 (fun _ => false) (fun _ => none) nT).1 = (needsF (Gr.find exA) run (val (Gr.find exA) (Fs.get []) run 2 1 (upO (fun _ => false) nT true)) tA (1 + 1) [] [] (fun _ => none)).1 := by kernel_rfl
  refine this.trans ((congrArg Prod.fst (needs_done (by rw [h]; rfl))).trans ?_)
  show done (run tA [] []).files = _
  rw [h]
  rfl
theorem vB (h : run tB [] [] = oB) (h2 : run tU [] [] = Bx.o2) : (val (Gr.find exB) (Fs.get []) run 3 3 (fun _ => false) (fun _ => none) nT).1 = failed 31 nT ⟨#[]⟩ := by
  have e1 : (val (Gr.find exB) (Fs.get []) run 3 3 (fun _ => false) (fun _ => none) nT).1 = (needsF (Gr.find exB) run (val (Gr.find exB) (Fs.get []) run 3 2 (upO (fun _ => false) nT true)) tB (2 + 1) [] [] (fun _ => none)).1 := by kernel_rfl
  have e2 : (val (Gr.find exB) (Fs.get []) run 3 2 (upO (fun _ => false) nT true) (fun _ => none) nU).1 = (needsF (Gr.find exB) run (val (Gr.find exB) (Fs.get []) run 3 1 (upO (upO (fun _ => false) nT true) nU true)) tU (2 + 1) [] [] (fun _ => none)).1 := by kernel_rfl
  have e3 : (val (Gr.find exB) (Fs.get []) run 3 1 (upO (upO (fun _ => false) nT true) nU true) (fun _ => none) nT).1 = failed 31 nT ⟨#[]⟩ := by kernel_rfl
  have n1 : bs (run tB [] []).need = nU := by rw [h]; rfl
  have n2 : bs (run tU [] []).need = nT := by rw [h2]; rfl
  have f1 : Gr.find exB nU ≠ none := by rw [show Gr.find exB nU = some tU by kernel_rfl]; simp
  have f2 : Gr.find exB nT ≠ none := by rw [show Gr.find exB nT = some tB by kernel_rfl]; simp
  have e4 : (val (Gr.find exB) (Fs.get []) run 3 2 (upO (fun _ => false) nT true) (fun _ => none) nU).1 = failed 31 nT ⟨#[]⟩ := by
    rw [e2, needs_bad (by rw [h2]; rfl) (by rw [n2]; exact f2) (r := failed 31 nT ⟨#[]⟩) (by rw [n2, e3]; kernel_rfl)]
  rw [e1, needs_bad (by rw [h]; rfl) (by rw [n1]; exact f1) (r := failed 31 nT ⟨#[]⟩) (by rw [n1, e4]; kernel_rfl)]
end
theorem build_in {l : List Tg} {g : ByteArray} (h1 : Gr.checkF l = 0) (h2 : Gr.find l g ≠ none) : buildF l [] g 9 = valueF l [] g 9 := by
  unfold buildF
  rw [if_neg (by simp [h1]), if_neg (by simp [Bx.check_nil]), if_neg (by decide), if_neg h2]
theorem exA_is : buildF exA [] nT 9 = done [⟨⟨#[97]⟩, ⟨#[120, 10]⟩⟩] := (build_in cA (by rw [show Gr.find exA nT = some tA by kernel_rfl]; simp)).trans (vA _ runA)
theorem exB_is : buildF exB [] nT 9 = failed 31 nT ⟨#[]⟩ := (build_in cB (by rw [show Gr.find exB nT = some tB by kernel_rfl]; simp)).trans (vB _ runB runU)
theorem exC_is : buildF exC [] nT 9 = failed 32 nT ⟨#[113]⟩ := (build_in cC (by rw [show Gr.find exC nT = some ⟨nT, ⟨#[]⟩, [], [⟨#[113]⟩]⟩ by kernel_rfl]; simp)).trans (by kernel_rfl)
end Go.Proofs.YtdidnlkilleljaaGreatDoor.Mn
