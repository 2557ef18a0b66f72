/- Joined by mkmerged.py: OpMem, OpClone, OpKeep, OpFind, OpWrong. -/
import Derived.Test.YtmlaolmaopjhbaaGreatDoorMi02
import Derived.Test.YtmlaolmaopjhbaaGreatDoorMi21
import Derived.Test.YtmlaolmaopjhbaaGreatDoorMi18
import Derived.Test.YtmlaolmaopjhbaaGreatDoorMi03
import Derived.Lib.SliceRun
import Derived.Test.YtmlaolmaopjhbaaGreatDoorMi09
import Derived.Test.YtmlaolmaopjhbaaGreatDoorMi10
import Derived.Test.YtmlaolmaopjhbaaGreatDoorMi12
import Derived.Test.YtmlaolmaopjhbaaGreatDoorMi11
import Derived.Test.YtmlaolmaopjhbaaGreatDoorMi19
import Derived.Test.YtmlaolmaopjhbaaGreatDoorMi23
/- OpMem, what a claim needs of it (prune.py). -/
namespace Go.Proofs.YtmlaolmaopjhbaaGreatDoor.Ops
open Go.RowKit
set_option linter.unusedVariables false
def cellsOf (x : Op) (Ag : Option Addr) (cg : Nat) (Af : Option Addr) (cf : Nat) (Ar : Option Addr) (cr : Nat) : List Value :=
  [.string x.n, .slice Ag x.gr.length cg, .slice Af x.sn.length cf, .string x.go, .int .i64 x.st, .int .i64 x.r.e, .string x.r.at_, .string x.r.tx, .slice Ar x.r.fs.length cr]
def resOf (r : Rs) (Ar : Option Addr) (cr : Nat) : Value := .agg #[.int .i64 r.e, .string r.at_, .string r.tx, .slice Ar r.fs.length cr]
def valOf (x : Op) (Ag : Option Addr) (cg : Nat) (Af : Option Addr) (cf : Nat) (Ar : Option Addr) (cr : Nat) : Value :=
  .agg #[.string x.n, .slice Ag x.gr.length cg, .slice Af x.sn.length cf, .string x.go, .int .i64 x.st, .int .i64 x.r.e, .string x.r.at_, .string x.r.tx, .slice Ar x.r.fs.length cr]
def evOf (k : Int) (x : Op) (Ag : Option Addr) (cg : Nat) (Af : Option Addr) (cf : Nat) (Ar : Option Addr) (cr : Nat) : Value :=
  .agg #[.int .i64 k, .string x.n, .slice Ag x.gr.length cg, .slice Af x.sn.length cf, .string x.go, .int .i64 x.st, .int .i64 x.r.e, .string x.r.at_, .string x.r.tx, .slice Ar x.r.fs.length cr]
structure Parts (w : World) (x : Op) (Ag : Option Addr) (cg : Nat) (Af : Option Addr) (cf : Nat) (Ar : Option Addr) (cr : Nat) : Prop where
  g : Tgs w w.heap.size Ag x.gr
  f : Fs.Fls w Af x.sn
  r : Fs.Fls w Ar x.r.fs
  gc : x.gr.length ≤ cg
  fc : x.sn.length ≤ cf
  rc : x.r.fs.length ≤ cr
theorem fls_below {w w' : World} {A : Option Addr} {l : List Fl} (h : Fs.Fls w A l) (hb : Below w.heap.size w w') : Fs.Fls w' A l := (Reads.below h hb).more hb.size
theorem Parts.below {w w' : World} {x : Op} {Ag : Option Addr} {cg : Nat} {Af : Option Addr} {cf : Nat} {Ar : Option Addr} {cr : Nat} (h : Parts w x Ag cg Af cf Ar cr) (hb : Below w.heap.size w w') : Parts w' x Ag cg Af cf Ar cr :=
  ⟨(h.g.below hb).more hb.size, fls_below h.f hb, fls_below h.r hb, h.gc, h.fc, h.rc⟩
def OV (w : World) (x : Op) (cs : List Value) : Prop := ∃ Ag cg Af cf Ar cr, cs = cellsOf x Ag cg Af cf Ar cr ∧ Parts w x Ag cg Af cf Ar cr
theorem OV.len {w : World} {x : Op} {cs : List Value} (h : OV w x cs) : cs.length = 9 := by obtain ⟨_, _, _, _, _, _, rfl, _⟩ := h; rfl
theorem OV.below {w w' : World} {x : Op} {cs : List Value} (h : OV w x cs) (hb : Below w.heap.size w w') : OV w' x cs := by
  obtain ⟨Ag, cg, Af, cf, Ar, cr, e, hp⟩ := h
  exact ⟨Ag, cg, Af, cf, Ar, cr, e, hp.below hb⟩
def OVs (w : World) : List Op → List Value → Prop
  | [], cs => cs = []
  | x :: l, cs => ∃ a b, cs = a ++ b ∧ OV w x a ∧ OVs w l b
theorem OVs.len {w : World} : ∀ {l : List Op} {cs : List Value}, OVs w l cs → cs.length = l.length * 9
  | [], cs, h => by rw [show cs = [] from h]; rfl
  | x :: l, cs, ⟨a, b, e, h1, h2⟩ => by rw [e, List.length_append, h1.len, OVs.len h2, List.length_cons]; omega
theorem OVs.below {w w' : World} (hb : Below w.heap.size w w') : ∀ {l : List Op} {cs : List Value}, OVs w l cs → OVs w' l cs
  | [], cs, h => h
  | x :: l, cs, ⟨a, b, e, h1, h2⟩ => ⟨a, b, e, h1.below hb, OVs.below hb h2⟩
theorem OVs.app {w : World} : ∀ {l m : List Op} {cs ds : List Value}, OVs w l cs → OVs w m ds → OVs w (l ++ m) (cs ++ ds)
  | [], m, cs, ds, h, k => by rw [show cs = [] from h]; exact k
  | x :: l, m, cs, ds, ⟨a, b, e, h1, h2⟩, k => ⟨a, b ++ ds, by rw [e, List.append_assoc], h1, OVs.app h2 k⟩
theorem OVs.one {w : World} {x : Op} {cs : List Value} (h : OV w x cs) : OVs w [x] cs := ⟨cs, [], by simp, h, rfl⟩
theorem OVs.at_ {w : World} : ∀ {l : List Op} {cs : List Value} {k : Nat}, OVs w l cs → ∀ hk : k < l.length, ∃ a, OV w l[k] a ∧ ∀ j u, a[j]? = some u → cs[k * 9 + j]? = some u
  | [], cs, k, h, hk => absurd hk (by simp)
  | x :: l, cs, 0, ⟨a, b, e, h1, h2⟩, hk => ⟨a, h1, fun j u hu => by
      rw [e, Nat.zero_mul, Nat.zero_add, List.getElem?_append_left (List.getElem?_eq_some_iff.1 hu).1]; exact hu⟩
  | x :: l, cs, k + 1, ⟨a, b, e, h1, h2⟩, hk => by
    obtain ⟨c, h3, h4⟩ := OVs.at_ (k := k) h2 (by simpa using hk)
    refine ⟨c, h3, fun j u hu => ?_⟩
    rw [e, List.getElem?_append_right (by rw [h1.len]; omega), h1.len, show (k + 1) * 9 + j - 9 = k * 9 + j by omega]
    exact h4 j u hu
theorem OVs.take {w : World} : ∀ {l : List Op} {cs : List Value} (k : Nat), OVs w l cs → OVs w (l.take k) (cs.take (k * 9))
  | [], cs, k, h => by rw [show cs = [] from h]; simp [OVs]
  | x :: l, cs, 0, h => by simp [OVs]
  | x :: l, cs, k + 1, ⟨a, b, e, h1, h2⟩ => by
    refine ⟨a, b.take (k * 9), ?_, h1, OVs.take k h2⟩
    rw [e, List.take_append, h1.len, show (k + 1) * 9 - 9 = k * 9 by omega, List.take_of_length_le (by rw [h1.len]; omega)]
theorem OVs.drop {w : World} : ∀ {l : List Op} {cs : List Value} (k : Nat), OVs w l cs → OVs w (l.drop k) (cs.drop (k * 9))
  | [], cs, k, h => by rw [show cs = [] from h]; simp [OVs]
  | x :: l, cs, 0, h => by rw [Nat.zero_mul]; exact h
  | x :: l, cs, k + 1, ⟨a, b, e, h1, h2⟩ => by
    have e2 : cs.drop ((k + 1) * 9) = b.drop (k * 9) := by
      rw [e, List.drop_append, h1.len, show (k + 1) * 9 - 9 = k * 9 by omega, List.drop_of_length_le (l := a) (by rw [h1.len]; omega)]
      rfl
    rw [e2]
    exact OVs.drop k h2
theorem OVs.set {w : World} {l : List Op} {cs ds : List Value} {y : Op} {k : Nat} (h : OVs w l cs) (hk : k < l.length) (hy : OV w y ds) : OVs w (l.set k y) (cs.take (k * 9) ++ ds ++ cs.drop ((k + 1) * 9)) := by
  rw [List.set_eq_take_append_cons_drop, if_pos hk, List.append_assoc]
  exact OVs.app (OVs.take k h) ⟨ds, _, rfl, hy, OVs.drop (k + 1) h⟩
def Ops (w : World) (A : Option Addr) (l : List Op) : Prop := ∃ cs, OVs w l cs ∧ Reads w w.heap.size 9 A l.length cs
theorem Ops.below {w w' : World} {A : Option Addr} {l : List Op} (h : Ops w A l) (hb : Below w.heap.size w w') : Ops w' A l := by
  obtain ⟨cs, h1, h2⟩ := h
  exact ⟨cs, h1.below hb, (Reads.below h2 hb).more hb.size⟩
theorem Ops.none_ {w : World} {A : Option Addr} : Ops w A [] := ⟨[], rfl, by simp, fun h => absurd h (by simp)⟩
theorem Ops.at_ {w : World} {A : Option Addr} {l : List Op} (h : Ops w A l) {k : Nat} (hk : k < l.length) :
    ∃ ad Ag cg Af cf Ar cr, A = some ad ∧ ad.block < w.heap.size ∧ Parts w l[k] Ag cg Af cf Ar cr ∧ ∀ j u, (cellsOf l[k] Ag cg Af cf Ar cr)[j]? = some u → w.cell? (ad.add (k * 9 + j)) = some u := by
  obtain ⟨cs, h1, h2⟩ := h
  obtain ⟨ad, e, hb, hc⟩ := h2.2 (by omega)
  obtain ⟨a, ⟨Ag, cg, Af, cf, Ar, cr, rfl, hp⟩, h4⟩ := h1.at_ hk
  exact ⟨ad, Ag, cg, Af, cf, Ar, cr, e, hb, hp, fun j u hu => hc _ _ (h4 j u hu)⟩
theorem Ops.nine_at {w : World} {A : Option Addr} {l : List Op} (h : Ops w A l) {k : Nat} (hk : k < l.length) :
    ∃ ad Ag cg Af cf Ar cr, A = some ad ∧ ad.block < w.heap.size ∧ Parts w l[k] Ag cg Af cf Ar cr ∧
      w.cell? (ad.add (k * 9)) = some (.string l[k].n) ∧
      w.cell? ⟨(ad.add (k * 9)).block, (ad.add (k * 9)).off + 1, none⟩ = some (.slice Ag l[k].gr.length cg) ∧
      w.cell? ⟨(ad.add (k * 9)).block, (ad.add (k * 9)).off + 2, none⟩ = some (.slice Af l[k].sn.length cf) ∧
      w.cell? ⟨(ad.add (k * 9)).block, (ad.add (k * 9)).off + 3, none⟩ = some (.string l[k].go) ∧
      w.cell? ⟨(ad.add (k * 9)).block, (ad.add (k * 9)).off + 4, none⟩ = some (.int .i64 l[k].st) ∧
      w.cell? ⟨(ad.add (k * 9)).block, (ad.add (k * 9)).off + 5, none⟩ = some (.int .i64 l[k].r.e) ∧
      w.cell? ⟨(ad.add (k * 9)).block, (ad.add (k * 9)).off + 6, none⟩ = some (.string l[k].r.at_) ∧
      w.cell? ⟨(ad.add (k * 9)).block, (ad.add (k * 9)).off + 7, none⟩ = some (.string l[k].r.tx) ∧
      w.cell? ⟨(ad.add (k * 9)).block, (ad.add (k * 9)).off + 8, none⟩ = some (.slice Ar l[k].r.fs.length cr) := by
  obtain ⟨ad, Ag, cg, Af, cf, Ar, cr, e, hb, hp, hc⟩ := h.at_ hk
  have hj : ∀ j u, (cellsOf l[k] Ag cg Af cf Ar cr)[j]? = some u → w.cell? ((ad.add (k * 9)).add j) = some u := fun j u hu => by
    rw [add_of_add]; exact hc j u hu
  exact ⟨ad, Ag, cg, Af, cf, Ar, cr, e, hb, hp, hc 0 _ rfl, hj 1 _ rfl, hj 2 _ rfl, hj 3 _ rfl, hj 4 _ rfl, hj 5 _ rfl, hj 6 _ rfl, hj 7 _ rfl, hj 8 _ rfl⟩
structure OkO (x : Op) : Prop where
  n : x.n.size ≤ 100
  go : x.go.size ≤ 100
  gl : x.gr.length ≤ 20
  g : ∀ t ∈ x.gr, t.Ok
  fl : x.sn.length ≤ 60
  f : ∀ f ∈ x.sn, f.Ok
  rl : x.r.fs.length ≤ 60
  r : ∀ f ∈ x.r.fs, f.Ok
end Go.Proofs.YtmlaolmaopjhbaaGreatDoor.Ops
/- OpClone, what a claim needs of it (prune.py). -/
namespace Go.Proofs.YtmlaolmaopjhbaaGreatDoor.Ops
open Go.RowKit
set_option linter.unusedVariables false
set_option maxRecDepth 100000
theorem OV.cell {w : World} {x : Op} {cs : List Value} (h : OV w x cs) : ∀ u ∈ cs, u.oneCell' = true := by
  obtain ⟨Ag, cg, Af, cf, Ar, cr, rfl, _⟩ := h
  intro u hu
  simp only [cellsOf, List.mem_cons, List.not_mem_nil, or_false] at hu
  rcases hu with rfl | rfl | rfl | rfl | rfl | rfl | rfl | rfl | rfl <;> rfl
theorem OVs.cell {w : World} : ∀ {l : List Op} {cs : List Value}, OVs w l cs → ∀ u ∈ cs, u.oneCell' = true
  | [], cs, h => by rw [show cs = [] from h]; intro u hu; cases hu
  | x :: l, cs, ⟨a, b, e, h1, h2⟩ => by
    rw [e]
    intro u hu
    rcases List.mem_append.1 hu with h | h
    · exact h1.cell u h
    · exact OVs.cell h2 u h
theorem infoO : ∃ z, (Tryz.prog.info? 32).map (fun i => (i.zero, i.size, i.bytes)) = some (some z, 9, 152) ∧ z.cells.size = 9 := ⟨.agg #[.string ⟨#[]⟩, .slice none 0 0, .slice none 0 0, .string ⟨#[]⟩, .int .i64 0, .int .i64 0, .string ⟨#[]⟩, .string ⟨#[]⟩, .slice none 0 0], by kernel_rfl, rfl⟩
def OwnOps (B : Nat) (l : List Op) (w : World) (v : Value) : Prop := ∃ cs, w.ownsRow B 32 9 v l.length cs ∧ OVs w l cs
theorem OwnOps.nil (B : Nat) (w : World) : OwnOps B [] w (.slice none 0 0) := ⟨[], World.ownsRow_nil _ _ _ _, rfl⟩
theorem OwnOps.ops {B : Nat} {l : List Op} {w : World} {v : Value} (h : OwnOps B l w v) : ∃ A c, v = .slice A l.length c ∧ l.length ≤ c ∧ Ops w A l := by
  obtain ⟨cs, ho, h⟩ := h
  have hv : ∃ A c, v = .slice A l.length c ∧ l.length ≤ c := by
    rcases ho.2 with ⟨rfl, h0⟩ | ⟨g, cap, cur, rfl, hB, hg, h1, _⟩
    · exact ⟨none, 0, by rw [h0], by omega⟩
    · exact ⟨_, _, rfl, h1⟩
  obtain ⟨A, c, rfl, hc⟩ := hv
  exact ⟨A, c, rfl, hc, cs, h, Reads.of_own ho⟩
def CloneFrom (l : List Op) (w0 w : World) (e : Ending) (w' : World) : Prop := (∃ v cs, e = .returned v ∧ w'.ownsRow w.heap.size 32 9 v l.length cs ∧ OVs w0 l cs) ∧ Below w.heap.size w w'
set_option maxHeartbeats 2000000 in
theorem clone_from (A : Option Addr) (l : List Op) (c : Nat) (w0 w : World) (hr : Ops w0 A l) (h0 : Below w0.heap.size w0 w) (hl : l.length ≤ 1000000) :
    Calls Tryz.prog 37 #[.slice A l.length c] w (CloneFrom l w0 w) := by
  have qn : ∀ (w : World) (a : Option Addr) (n c n' c' : Nat), (binOp .eql 35 (.slice a n c) (.slice none n' c')).run Tryz.prog w = .ok (.bool a.isNone) w := fun w a n c n' c' => Lib.run_eql_slice_nil w _ _ a n c n' c' Tryz.underlying35
  rcases A with _ | ad
  · have h0 : l = [] := by
      rcases l with _ | ⟨x, l⟩
      · rfl
      · obtain ⟨cs, _, h⟩ := hr
        obtain ⟨ad, h, _⟩ := h.2 (by simp)
        cases h
    subst h0
    have EN : Hid (∀ e w', ((∃ v cs, e = .returned v ∧ w'.ownsRow w.heap.size 32 9 v ([] : List Op).length cs ∧ OVs w0 [] cs) ∧ Below w.heap.size w w') → CloneFrom [] w0 w e w') := Lib.hid fun e w' h => h
    generalize CloneFrom [] w0 w = Q at *
    go_enter Tryz.func37, Tryz.ntmps37
    go_wp2_with (fail)
    exact EN.out _ _ ⟨⟨_, [], rfl, World.ownsRow_nil _ _ _ _, rfl⟩, Below.refl _ _⟩
  · obtain ⟨cs, hv, hrd⟩ := hr
    obtain ⟨z, hzi, hzs⟩ := infoO
    obtain ⟨i0, hi, hz0, hz1, hz2⟩ := Lg.info_parts hzi
    have EN : Hid (∀ e w', ((∃ v cs, e = .returned v ∧ w'.ownsRow w.heap.size 32 9 v l.length cs ∧ OVs w0 l cs) ∧ Below w.heap.size w w') → CloneFrom l w0 w e w') := Lib.hid fun e w' h => h
    have HV := Lib.hid hv
    have HC := Lib.hid (OVs.cell hv)
    obtain ⟨W1, eW⟩ : ∃ W1, W1 = w.alloc (.cells #[] 32) := ⟨_, rfl⟩
    have hb1 : Below w.heap.size w W1 := by rw [eW]; exact (Below.refl _ _).alloc (Nat.le_refl _) _
    have own0 : W1.ownsRow w.heap.size 32 9 (.slice (some ⟨w.heap.size, 0, none⟩) 0 0) 0 [] := by rw [eW]; exact World.ownsRow_made w #[] 0 (Nat.le_refl _) (Nat.zero_le _) rfl
    have RD : Hid (Reads W1 w.heap.size 9 (some ad) l.length cs) := Lib.hid ((hrd.below (h0.trans (hb1.mono h0.size))).more h0.size)
    have HB := Lib.hid hb1
    clear hv hrd hb1 hzi h0
    generalize CloneFrom l w0 w = Q at *
    go_enter Tryz.func37, Tryz.ntmps37
    go_wp2_with (at_builtin; rw [← eW]; refine wpList_append_any _ rfl (.tmp 5) (.tmp 6) 35 rfl w.heap.size 32 i0 z 9 152 Tryz.underlying35 hi hz0 hz1 hz2 hzs (by decide) (.slice (some ⟨w.heap.size, 0, none⟩) 0 0) 0 [] rfl own0 w.heap.size (some ad) l.length c cs rfl RD.out HC.out (by simp only [maxLen]; omega) (by omega) HB.out.size ?_; intro v' w1 hown hg hat; have hb2 := HB.out.grown hg HB.out.size (fun k hk => by simp [Value.ownBlock] at hk; omega); rw [Nat.zero_add, List.nil_append] at hown)
    exact EN.out _ _ ⟨⟨v', cs, rfl, hown, HV.out⟩, hb2⟩
end Go.Proofs.YtmlaolmaopjhbaaGreatDoor.Ops
/- OpKeep, what a claim needs of it (prune.py). -/
namespace Go.Proofs.YtmlaolmaopjhbaaGreatDoor.Ops
open Go.RowKit
set_option linter.unusedVariables false
theorem fresh_ok {x : Op} (h : OkO x) : OkO (fresh x) := ⟨h.n, h.go, h.gl, h.g, h.fl, h.f, by simp [fresh, zeroR], fun f hf => by simp [fresh, zeroR] at hf⟩
theorem turned_ok {x y : Op} {e : Ev} (h : turned x e = some y) (hx : OkO x) (he : OkO e.x) : OkO y := by
  unfold turned at h
  by_cases k2 : e.k = 2
  · rw [if_pos k2] at h
    by_cases s1 : x.st = 1
    · rw [if_pos s1] at h; injection h with h; subst h; exact ⟨hx.n, hx.go, hx.gl, hx.g, hx.fl, hx.f, hx.rl, hx.r⟩
    · rw [if_neg s1] at h; cases h
  · rw [if_neg k2] at h
    by_cases k3 : e.k = 3
    · rw [if_pos k3] at h
      by_cases s2 : x.st = 2
      · rw [if_pos s2] at h; injection h with h; subst h; exact ⟨hx.n, hx.go, hx.gl, hx.g, hx.fl, hx.f, he.rl, he.r⟩
      · rw [if_neg s2] at h; cases h
    · rw [if_neg k3] at h
      by_cases s3 : x.st = 3
      · rw [if_pos s3] at h; cases h
      · rw [if_neg s3] at h; injection h with h; subst h; exact ⟨hx.n, hx.go, hx.gl, hx.g, hx.fl, hx.f, hx.rl, hx.r⟩
section
variable {W : ByteArray → List Tg → List Fl → ByteArray → Int} {O : List Tg → List Fl → ByteArray → ByteArray}
theorem submit_keeps {l m : List Op} {x : Op} {f : Int} (h : submit W O l x = (m, f)) (hl : ∀ x ∈ l, OkO x) (hx : OkO x) : (∀ y ∈ m, OkO y) ∧ m.length ≤ l.length + 1 := by
  by_cases hf : f = 0
  · subst hf
    unfold submit at h
    by_cases hw : wrong W x ≠ 0
    · rw [if_pos hw] at h; injection h with h1 h2; exact absurd h2 hw
    · rw [if_neg hw] at h
      cases hg : find l x.n with
      | some o =>
        simp only [hg] at h
        by_cases ho : ord O o = ord O x
        · rw [if_pos ho] at h; injection h with h1 h2; subst h1; exact ⟨hl, by omega⟩
        · rw [if_neg ho] at h; injection h with h1 h2; exact absurd h2 (by decide)
      | none =>
        simp only [hg] at h
        by_cases h16 : 16 ≤ l.length
        · rw [if_pos h16] at h; injection h with h1 h2; exact absurd h2 (by decide)
        · rw [if_neg h16] at h; injection h with h1 h2; subst h1
          refine ⟨fun y hy => ?_, by simp⟩
          rcases List.mem_append.1 hy with h | h
          · exact hl y h
          · rw [List.mem_singleton.1 h]; exact fresh_ok hx
  · rw [submit_fails h hf]; exact ⟨(fun y hy => by cases hy), by simp⟩
theorem apply_keeps {l m : List Op} {e : Ev} {f : Int} (h : apply W O l e = (m, f)) (hl : ∀ x ∈ l, OkO x) (hx : OkO e.x) : (∀ y ∈ m, OkO y) ∧ m.length ≤ l.length + 1 := by
  by_cases hf : f = 0
  · subst hf
    unfold apply at h
    by_cases h1 : e.k = 1
    · rw [if_pos h1] at h; exact submit_keeps h hl hx
    · rw [if_neg h1] at h
      by_cases h2 : e.k = 2 ∨ e.k = 3 ∨ e.k = 4
      · rw [if_pos h2] at h
        cases ho : l[at_ l e.x.n]? with
        | none => simp only [ho] at h; injection h with h1 h2; exact absurd h2 (by decide)
        | some x =>
          simp only [ho] at h
          cases ht : turned x e with
          | none => simp only [ht] at h; injection h with h1 h2; exact absurd h2 (by decide)
          | some y =>
            simp only [ht] at h; injection h with h3 h4; subst h3
            have hxn := List.mem_of_getElem? ho
            refine ⟨fun z hz => ?_, by simp⟩
            rcases List.mem_or_eq_of_mem_set hz with h | h
            · exact hl z h
            · rw [h]; exact turned_ok ht (hl x hxn) hx
      · rw [if_neg h2] at h; injection h with h1 h2; exact absurd h2 (by decide)
  · rw [apply_fails h hf]; exact ⟨(fun y hy => by cases hy), by simp⟩
end
def ApplySays (m : List Op) (f : Int) (w : World) (e : Ending) (w' : World) : Prop :=
  (∃ A' c', e = .returned (.tuple #[.slice A' m.length c', .int .i64 f]) ∧ m.length ≤ c' ∧ Ops w' A' m) ∧ Below w.heap.size w w'
theorem ApplySays.none_ {f : Int} {w : World} {e : Ending} {w' : World} (he : e = .returned (.tuple #[.slice none 0 0, .int .i64 f])) (hb : Below w.heap.size w w') : ApplySays [] f w e w' := ⟨⟨none, 0, he, Nat.le_refl _, Ops.none_⟩, hb⟩
abbrev cellsA (x : Op) (Ag : Option Addr) (cg : Nat) (Af : Option Addr) (cf : Nat) (Ar : Option Addr) (cr : Nat) : Array Value :=
  #[.string x.n, .slice Ag x.gr.length cg, .slice Af x.sn.length cf, .string x.go, .int .i64 x.st, .int .i64 x.r.e, .string x.r.at_, .string x.r.tx, .slice Ar x.r.fs.length cr]
theorem reads9 {w : World} {b : Nat} {x : Op} {Ag : Option Addr} {cg : Nat} {Af : Option Addr} {cf : Nat} {Ar : Option Addr} {cr : Nat} {T : TypeId} (h : w.heap[b]? = some (.cells (cellsA x Ag cg Af cf Ar cr) T (0, 0))) :
    Reads w (b + 1) 9 (some ⟨b, 0, none⟩) 1 (cellsOf x Ag cg Af cf Ar cr) := by
  refine ⟨rfl, fun _ => ⟨_, rfl, Nat.lt_succ_self _, fun j y hj => ?_⟩⟩
  rw [Lg.add_eq, Lg.cell_at h, ← Array.getElem?_toList]
  exact hj
end Go.Proofs.YtmlaolmaopjhbaaGreatDoor.Ops
/- OpFind, what a claim needs of it (prune.py). -/
namespace Go.Proofs.YtmlaolmaopjhbaaGreatDoor.Ops
open Go.RowKit
open Gr (idx NoneTo idx_hit idx_miss idx_cases)
set_option linter.unusedVariables false
set_option maxRecDepth 100000
set_option maxHeartbeats 2000000 in
theorem indexO_any (g : Nat) (lb : Array Value) (eg : ∀ args w, (callFunc g args).run Tryz.prog w = .ok (.enter g args) w) (p : Op → Bool) (A : Option Addr) (l : List Op) (c : Nat) (w : World) (hr : Ops w A l) (hl : l.length ≤ 1000000000)
    (hp : ∀ k (hk : k < l.length), ∀ Ag cg Af cf Ar cr W, Below w.heap.size w W →
      Calls Tryz.prog g (#[valOf l[k] Ag cg Af cf Ar cr] ++ lb) W fun e w' => e = .returned (.bool (p l[k])) ∧ Below W.heap.size W w') :
    Calls Tryz.prog 148 #[.slice A l.length c, .func (.func g) #[] lb] w fun e w' => e = .returned (.int .i64 (idx p l)) ∧ Below w.heap.size w w' := by
  have RD : Hid (∀ W, Below w.heap.size w W → Ops W A l) := Lib.hid fun W hW => hr.below hW
  have PR := Lib.hid hp
  clear hr hp
  go_enter Tryz.func148, Tryz.ntmps148
  go_wp2_with (fail)
  go_loopw [8] (fun i W => ∃ k : Nat, i = .int .i64 k ∧ k ≤ l.length ∧ NoneTo p l k ∧ Below w.heap.size w W) (fun i _ => l.length - (intOf i).toNat)
  case atStart => exact ⟨0, rfl, by omega, NoneTo.zero _ _, Below.refl _ _⟩
  case round =>
    obtain ⟨k, rfl, hk, ha, hb⟩ := hrel
    have HA := Lib.hid ha
    clear ha
    by_cases hlt : k < l.length
    · have hkI : (k : Int) < (l.length : Int) := by omega
      obtain ⟨ad, Ag, cg, Af, cf, Ar, cr, rfl, had, hps, c0, c1, c2, c3, c4, c5, c6, c7, c8⟩ := (RD.out _ hb).nine_at hlt
      have AF := Lib.hid (PR.out k hlt Ag cg Af cf Ar cr _ hb)
      unfold valOf at AF
      have NXT := Lib.hid (NoneTo.next hlt HA.out)
      have HIT := Lib.hid (idx_hit hlt HA.out)
      clear hps
      generalize l[k] = t at *
      cases hp : p t
      · rw [hp] at AF
        have F := Lib.hid (NXT.out hp)
        clear hp HIT
        go_wp2_with (go_at_fn g; ((with_reducible refine (AF.out).mono ?_); rintro e w1 ⟨rfl, hb1⟩))
        go_roundw
        case rel => exact ⟨k + 1, by go_num, by omega, F.out, hb.trans (hb1.mono hb.size)⟩
        case measure => simp [intOf]; omega
      · rw [hp] at AF
        have F := Lib.hid (HIT.out hp)
        clear hp NXT
        go_wp2_with (go_at_fn g; ((with_reducible refine (AF.out).mono ?_); rintro e w1 ⟨rfl, hb1⟩))
        go_ret
        exact ⟨Lg.ret_int F.out, hb.trans (hb1.mono hb.size)⟩
    · obtain rfl : k = l.length := by omega
      have F := Lib.hid (idx_miss HA.out)
      go_wp2_with (fail)
      go_ret
      exact ⟨Lg.ret_int F.out, hb⟩
theorem at1_any (x : Op) (Ag : Option Addr) (cg : Nat) (Af : Option Addr) (cf : Nat) (Ar : Option Addr) (cr : Nat) (s : ByteArray) (B : Nat) (W : World) (hB : B < W.heap.size) (hc : W.cell? ⟨B, 0, none⟩ = some (.string s)) :
    Calls Tryz.prog 149 #[valOf x Ag cg Af cf Ar cr, .pointer (some ⟨B, 0, none⟩)] W fun e w' => e = .returned (.bool (named s x)) ∧ Below W.heap.size W w' := by
  have hne : B ≠ W.heap.size := by omega
  unfold valOf named
  generalize x.n = n
  by_cases h : n = s
  · have F : Hid (decide (n = s) = true) := Lib.hid (decide_eq_true h)
    subst h
    go_enter Tryz.func149, Tryz.ntmps149
    go_wp2_with (fail)
    go_ret
    exact ⟨Lg.ret_bool F.out, (Below.refl _ _).alloc (Nat.le_refl _) _⟩
  · have F : Hid (decide (n = s) = false) := Lib.hid (decide_eq_false h)
    have g := Lg.s_ne h
    clear h
    go_enter Tryz.func149, Tryz.ntmps149
    go_wp2_with (fail)
    go_ret
    exact ⟨Lg.ret_bool F.out, (Below.refl _ _).alloc (Nat.le_refl _) _⟩
theorem at_any (A : Option Addr) (l : List Op) (c : Nat) (s : ByteArray) (w : World) (hr : Ops w A l) (hl : l.length ≤ 1000000000) :
    Calls Tryz.prog 77 #[.slice A l.length c, .string s] w fun e w' => e = .returned (.int .i64 (idx (named s) l)) ∧ Below w.heap.size w w' := by
  obtain ⟨W2, eW⟩ : ∃ W2, W2 = w.alloc (.cells #[.string s] 9) := ⟨_, rfl⟩
  have hb2 : Below w.heap.size w W2 := by rw [eW]; exact (Below.refl _ _).alloc (Nat.le_refl _) _
  have hsz : W2.heap.size = w.heap.size + 1 := by rw [eW]; simp
  have k0 : W2.heap[w.heap.size]? = some (.cells #[.string s] 9 (0, 0)) := by rw [eW]; exact heap_alloc_new w _
  have IX := Lib.hid (indexO_any 149 #[.pointer (some ⟨w.heap.size, 0, none⟩)] (enters_of Tryz.func149 (by kernel_rfl) rfl) (named s) A l c W2 (hr.below hb2) hl
    (fun k hk Ag cg Af cf Ar cr V hV => at1_any _ _ _ _ _ _ _ _ _ V (by have := hV.size; omega) ((hV.cell (p := ⟨w.heap.size, 0, none⟩) (by show w.heap.size < _; omega)).trans (Lg.cell_at k0 0))))
  generalize idx (named s) l = r at *
  clear hr k0 hsz
  go_enter Tryz.func77, Tryz.ntmps77
  go_wp2_with (go_at_call 148; rw [← eW]; (with_reducible refine (IX.out).mono ?_); rintro e w1 ⟨rfl, hb⟩)
  go_ret
  exact ⟨rfl, hb2.trans (hb.mono hb2.size)⟩
def FindSays (l : List Op) (s : ByteArray) (w0 w : World) (e : Ending) (w' : World) : Prop :=
  (∃ (x : Op) (Ag : Option Addr) (cg : Nat) (Af : Option Addr) (cf : Nat) (Ar : Option Addr) (cr : Nat), e = .returned (.tuple #[valOf x Ag cg Af cf Ar cr, .bool (find l s).isSome]) ∧ x = (find l s).getD zeroO ∧ Parts w0 x Ag cg Af cf Ar cr) ∧ Below w.heap.size w w'
theorem zero_parts (w : World) : Parts w zeroO none 0 none 0 none 0 := ⟨Tgs.none_ _ _ _, Reads.none_, Reads.none_, Nat.le_refl _, Nat.le_refl _, Nat.le_refl _⟩
abbrev zcells : Array Value := #[.string ⟨#[]⟩, .slice none 0 0, .slice none 0 0, .string ⟨#[]⟩, .int .i64 0, .int .i64 0, .string ⟨#[]⟩, .string ⟨#[]⟩, .slice none 0 0]
set_option maxHeartbeats 1000000 in
theorem find_any (A : Option Addr) (l : List Op) (c : Nat) (s : ByteArray) (w0 w : World) (hr : Ops w0 A l) (h0 : Below w0.heap.size w0 w) (hl : l.length ≤ 1000000000) :
    Calls Tryz.prog 146 #[.slice A l.length c, .string s] w (FindSays l s w0 w) := by
  obtain ⟨W2, eW⟩ : ∃ W2, W2 = w.alloc (.cells zcells 32) := ⟨_, rfl⟩
  have hb2 : Below w.heap.size w W2 := by rw [eW]; exact (Below.refl _ _).alloc (Nat.le_refl _) _
  have k1 : W2.heap[w.heap.size]? = some (.cells zcells 32 (0, 0)) := by rw [eW]; exact heap_alloc_new w _
  have hsz : W2.heap.size = w.heap.size + 1 := by rw [eW]; simp
  have IX := Lib.hid (at_any A l c s W2 ((hr.below h0).below hb2) hl)
  have K1 : Hid (∀ W, Below W2.heap.size W2 W → W.heap[w.heap.size]? = some (.cells zcells 32 (0, 0))) := Lib.hid fun W hW => (hW.block _ (by omega)).trans k1
  clear k1
  have h12 : w.heap.size < W2.heap.size := by omega
  clear hsz
  rcases idx_cases (named s) l with ⟨e1, e2⟩ | ⟨k, hk, e1, e2, _, _⟩
  · rw [e1] at IX
    have F : Hid (find l s = none) := Lib.hid e2
    clear e1 e2 hr
    go_enter Tryz.func146, Tryz.ntmps146
    go_wp2_with (go_at_call 77; rw [← eW]; (with_reducible refine (IX.out).mono ?_); rintro e w1 ⟨rfl, hb⟩; have K2 := Lib.hid (K1.out _ hb); obtain ⟨c0, c1, c2, c3, c4, c5, c6, c7, c8, f0, f1, f2, f3, f4, f5, f6, f7, f8⟩ := nine (K1.out _ hb); have hs1 := hb.size; clear eW)
    (try simp only [Exit.inBlock, Exit.then])
    refine bodyPost_ret_by (Lg.results_cell_row2 rfl _ _ (w.heap.size) 32 _ (0, 0) _ rfl (set9 K2.out _ _ _ _ _ _ _ _ _) rfl rfl (by kernel_rfl)) rfl ?_
    refine ⟨⟨zeroO, none, 0, none, 0, none, 0, by rw [F.out]; rfl, by rw [F.out]; rfl, zero_parts _⟩, ?_⟩
    exact set9_below (hb2.trans (hb.mono hb2.size)) (Nat.le_refl _) _ _ _ _ _ _ _ _ _
  · rw [e1] at IX
    have F : Hid (find l s = some l[k]) := Lib.hid e2
    clear e1 e2
    have hkI : (k : Int) < (l.length : Int) := by omega
    obtain ⟨ad, Ag, cg, Af, cf, Ar, cr, rfl, had, hps, d0, d1, d2, d3, d4, d5, d6, d7, d8⟩ := hr.nine_at hk
    have HP := Lib.hid hps
    have cat : ∀ (W : World), Below w0.heap.size w0 W → ∀ j u, w0.cell? ⟨(ad.add (k * 9)).block, j, none⟩ = some u → W.cell? ⟨(ad.add (k * 9)).block, j, none⟩ = some u := fun W hW j u h => (hW.cell (by show (ad.add (k * 9)).block < _; rw [block_of_add]; exact had)).trans h
    have CAT : Hid (∀ (W : World), Below w0.heap.size w0 W → W.cell? (ad.add (k * 9)) = some (.string l[k].n) ∧
      W.cell? ⟨(ad.add (k * 9)).block, (ad.add (k * 9)).off + 1, none⟩ = some (.slice Ag l[k].gr.length cg) ∧
      W.cell? ⟨(ad.add (k * 9)).block, (ad.add (k * 9)).off + 2, none⟩ = some (.slice Af l[k].sn.length cf) ∧
      W.cell? ⟨(ad.add (k * 9)).block, (ad.add (k * 9)).off + 3, none⟩ = some (.string l[k].go) ∧
      W.cell? ⟨(ad.add (k * 9)).block, (ad.add (k * 9)).off + 4, none⟩ = some (.int .i64 l[k].st) ∧
      W.cell? ⟨(ad.add (k * 9)).block, (ad.add (k * 9)).off + 5, none⟩ = some (.int .i64 l[k].r.e) ∧
      W.cell? ⟨(ad.add (k * 9)).block, (ad.add (k * 9)).off + 6, none⟩ = some (.string l[k].r.at_) ∧
      W.cell? ⟨(ad.add (k * 9)).block, (ad.add (k * 9)).off + 7, none⟩ = some (.string l[k].r.tx) ∧
      W.cell? ⟨(ad.add (k * 9)).block, (ad.add (k * 9)).off + 8, none⟩ = some (.slice Ar l[k].r.fs.length cr)) := Lib.hid fun W hW =>
      ⟨(hW.cell (by rw [block_of_add]; exact had)).trans d0, cat W hW _ _ d1, cat W hW _ _ d2, cat W hW _ _ d3, cat W hW _ _ d4, cat W hW _ _ d5, cat W hW _ _ d6, cat W hW _ _ d7, cat W hW _ _ d8⟩
    clear d0 d1 d2 d3 d4 d5 d6 d7 d8 hps hr cat
    generalize l[k] = t at *
    go_enter Tryz.func146, Tryz.ntmps146
    go_wp2_with (go_at_call 77; rw [← eW]; (with_reducible refine (IX.out).mono ?_); rintro e w1 ⟨rfl, hb⟩; have K2 := Lib.hid (K1.out _ hb); obtain ⟨c0, c1, c2, c3, c4, c5, c6, c7, c8, f0, f1, f2, f3, f4, f5, f6, f7, f8⟩ := nine (K1.out _ hb); have hs1 := hb.size; clear eW; have hbw := hb2.trans (hb.mono hb2.size); obtain ⟨e0, e1, e2, e3, e4, e5, e6, e7, e8⟩ := CAT.out _ (h0.trans (hbw.mono h0.size)))
    (try simp only [Exit.inBlock, Exit.then])
    refine bodyPost_ret_by (Lg.results_cell_row2 rfl _ _ (w.heap.size) 32 _ (0, 0) _ rfl (set9 K2.out _ _ _ _ _ _ _ _ _) rfl rfl (by kernel_rfl)) rfl ?_
    exact ⟨⟨t, Ag, cg, Af, cf, Ar, cr, by rw [F.out]; rfl, by rw [F.out]; rfl, HP.out⟩, set9_below hbw (Nat.le_refl _) _ _ _ _ _ _ _ _ _⟩
end Go.Proofs.YtmlaolmaopjhbaaGreatDoor.Ops
/- OpWrong, what a claim needs of it (prune.py). -/
namespace Go.Proofs.YtmlaolmaopjhbaaGreatDoor.Ops
open Go.RowKit
set_option linter.unusedVariables false
set_option maxRecDepth 100000
noncomputable def wrongV (n : ByteArray) (gr : List Tg) (sn : List Fl) (go : ByteArray) : Int :=
  if Gr.nameF n ≠ 0 then Gr.nameF n else if Gr.checkF gr ≠ 0 then Gr.checkF gr else if Fs.checkE sn ≠ 0 then Fs.checkE sn else if Gr.isT gr go = true then 0 else 30
theorem wrong_0 {n : ByteArray} {gr : List Tg} {sn : List Fl} {go : ByteArray} (h : Gr.nameF n ≠ 0) : wrongV n gr sn go = Gr.nameF n := if_pos h
theorem wrong_1 {n : ByteArray} {gr : List Tg} {sn : List Fl} {go : ByteArray} (h : Gr.nameF n = 0) (h1 : Gr.checkF gr ≠ 0) : wrongV n gr sn go = Gr.checkF gr := by unfold wrongV; rw [if_neg (by simp [h]), if_pos h1]
theorem wrong_2 {n : ByteArray} {gr : List Tg} {sn : List Fl} {go : ByteArray} (h : Gr.nameF n = 0) (h1 : Gr.checkF gr = 0) (h2 : Fs.checkE sn ≠ 0) : wrongV n gr sn go = Fs.checkE sn := by unfold wrongV; rw [if_neg (by simp [h]), if_neg (by simp [h1]), if_pos h2]
theorem wrong_3 {n : ByteArray} {gr : List Tg} {sn : List Fl} {go : ByteArray} (h : Gr.nameF n = 0) (h1 : Gr.checkF gr = 0) (h2 : Fs.checkE sn = 0) (h3 : Gr.isT gr go = false) : wrongV n gr sn go = 30 := by unfold wrongV; rw [if_neg (by simp [h]), if_neg (by simp [h1]), if_neg (by simp [h2]), if_neg (by simp [h3])]
theorem wrong_4 {n : ByteArray} {gr : List Tg} {sn : List Fl} {go : ByteArray} (h : Gr.nameF n = 0) (h1 : Gr.checkF gr = 0) (h2 : Fs.checkE sn = 0) (h3 : Gr.isT gr go = true) : wrongV n gr sn go = 0 := by unfold wrongV; rw [if_neg (by simp [h]), if_neg (by simp [h1]), if_neg (by simp [h2]), if_pos h3]
theorem Ok.fits {t : Tg} (h : t.Ok) : Gr.Fits t := ⟨by have := h.n; omega, by have := h.c; omega, by have := h.dl; omega, by have := h.sl; omega, fun x hx => by have := h.d x hx; omega, fun x hx => by have := h.s x hx; omega⟩
theorem fsEnv {w : World} (h : Lg.Env w) : Fs.Env w := ⟨h.1, h.2.1⟩
theorem at_put3 {W1 : World} {b : Nat} {cs : Array Value} {T : TypeId} (h : W1.heap[b]? = some (.cells cs T (0, 0))) (j : Nat) {u : Value} (hu : cs[j]? = some u) : ∀ w', Below W1.heap.size W1 w' → w'.cell? ⟨b, j, none⟩ = some u := fun w' hb => (cell_heap (heap_below hb (Lg.lt_heap h) h) j).trans hu
set_option maxHeartbeats 4000000 in
theorem wrong_any (x : Op) (Ag : Option Addr) (cg : Nat) (Af : Option Addr) (cf : Nat) (Ar : Option Addr) (cr : Nat) (w : World) (hE : Lg.Env w) (hx : OkO x) (hp : Parts w x Ag cg Af cf Ar cr) :
    Calls Tryz.prog 145 #[valOf x Ag cg Af cf Ar cr] w fun e w' => e = .returned (.int .i64 (wrongV x.n x.gr x.sn x.go)) ∧ Below w.heap.size w w' := by
  obtain ⟨W1, eW⟩ : ∃ W1, W1 = w.alloc (.cells #[.string x.n, .slice Ag x.gr.length cg, .slice Af x.sn.length cf, .string x.go, .int .i64 x.st, .int .i64 x.r.e, .string x.r.at_, .string x.r.tx, .slice Ar x.r.fs.length cr] 32) := ⟨_, rfl⟩
  have hb1 : Below w.heap.size w W1 := by rw [eW]; exact (Below.refl _ _).alloc (Nat.le_refl _) _
  have k0 : W1.heap[w.heap.size]? = some (.cells #[.string x.n, .slice Ag x.gr.length cg, .slice Af x.sn.length cf, .string x.go, .int .i64 x.st, .int .i64 x.r.e, .string x.r.at_, .string x.r.tx, .slice Ar x.r.fs.length cr] 32 (0, 0)) := by rw [eW]; exact heap_alloc_new w _
  have BW : Hid (∀ W, Below W1.heap.size W1 W → Below w.heap.size w W) := Lib.hid fun W hW => hb1.trans (hW.mono hb1.size)
  have D1 := Lib.hid (at_put3 k0 1 rfl)
  have D2 := Lib.hid (at_put3 k0 2 rfl)
  have D3 := Lib.hid (at_put3 k0 3 rfl)
  have hfs : ∀ f ∈ x.sn, f.p.size ≤ maxLen ∧ f.d.size ≤ maxLen := fun f hf => by have h1 := (hx.f f hf).p; have h2 := (hx.f f hf).d; unfold maxLen; omega
  have NA : Hid (Calls Tryz.prog 187 #[.string x.n] W1 fun e w' => e = .returned (.int .i64 (Gr.nameF x.n)) ∧ W1 = w') := Lib.hid (Lg.pname_any x.n (by have := hx.n; omega) W1)
  have CG : Hid (Calls Tryz.prog 188 #[.slice Ag x.gr.length cg] W1 fun e w' => e = .returned (.int .i64 (Gr.checkF x.gr)) ∧ Below W1.heap.size W1 w') := Lib.hid (Gr.pcheck_any Ag x.gr cg W1 (hE.below hb1) (hp.below hb1).g (by have := hx.gl; omega) hp.gc (fun t ht => Ok.fits (hx.g t ht)))
  have CF : Hid (∀ W, Below W1.heap.size W1 W → Calls Tryz.prog 189 #[.slice Af x.sn.length cf] W fun e w' => e = .returned (.int .i64 (Fs.checkE x.sn)) ∧ Below W.heap.size W w') := Lib.hid fun W hW => Fs.pcheck_any Af x.sn cf W (fsEnv (hE.below (BW.out _ hW))) (hp.below (BW.out _ hW)).f (by have := hx.fl; unfold maxLen; omega) hfs
  have GF : Hid (∀ b, Gr.isT x.gr x.go = b → ∀ W, Below W1.heap.size W1 W → Calls Tryz.prog 190 #[.slice Ag x.gr.length cg, .string x.go] W (Gr.FindB x.gr x.go b W W)) := Lib.hid fun b hb W hW => Gr.findB_any Ag x.gr cg x.go W W (hp.below (BW.out _ hW)).g (Below.refl _ _) (by have := hx.gl; omega) hb
  have W0 : Hid (Gr.nameF x.n ≠ 0 → wrongV x.n x.gr x.sn x.go = Gr.nameF x.n) := Lib.hid wrong_0
  have Q1 : Hid (Gr.nameF x.n = 0 → Gr.checkF x.gr ≠ 0 → wrongV x.n x.gr x.sn x.go = Gr.checkF x.gr) := Lib.hid wrong_1
  have Q2 : Hid (Gr.nameF x.n = 0 → Gr.checkF x.gr = 0 → Fs.checkE x.sn ≠ 0 → wrongV x.n x.gr x.sn x.go = Fs.checkE x.sn) := Lib.hid wrong_2
  have Q3 : Hid (Gr.nameF x.n = 0 → Gr.checkF x.gr = 0 → Fs.checkE x.sn = 0 → Gr.isT x.gr x.go = false → wrongV x.n x.gr x.sn x.go = 30) := Lib.hid wrong_3
  have Q4 : Hid (Gr.nameF x.n = 0 → Gr.checkF x.gr = 0 → Fs.checkE x.sn = 0 → Gr.isT x.gr x.go = true → wrongV x.n x.gr x.sn x.go = 0) := Lib.hid wrong_4
  clear hE hx hp k0 hb1 hfs
  generalize wrongV x.n x.gr x.sn x.go = v at *
  generalize Gr.nameF x.n = e0 at *
  generalize Gr.checkF x.gr = e1 at *
  generalize Fs.checkE x.sn = e2 at *
  unfold valOf
  by_cases h0 : e0 = 0
  · by_cases h1 : e1 = 0
    · by_cases h2 : e2 = 0
      · cases h3 : Gr.isT x.gr x.go
        · have F := Lib.hid (Q3.out h0 h1 h2 h3)
          have G1 := Lib.hid (GF.out _ h3)
          clear W0 Q1 Q2 Q3 Q4 GF h3
          subst h0 h1 h2
          go_enter Tryz.func145, Tryz.ntmps145
          go_wp2_with (first | (go_at_call 187; rw [← eW]; clear eW; (with_reducible refine (NA.out).mono ?_); rintro e w0 ⟨rfl, rfl⟩; have g1 := D1.out _ (Below.refl _ _)) | (go_at_call 188; (with_reducible refine (CG.out).mono ?_); rintro e w1 ⟨rfl, b1⟩; have g2 := D2.out _ b1) | (go_at_call 189; (with_reducible refine (CF.out _ b1).mono ?_); rintro e w2 ⟨rfl, b2'⟩; have b2 := b1.trans (b2'.mono b1.size); have p1 := D1.out _ b2; have p3 := D3.out _ b2) | (go_at_call 190; (with_reducible refine (G1.out _ b2).mono ?_); rintro e w3 ⟨⟨t, Ad, As, cd, cs, rfl, _, _, _⟩, b3'⟩; have b3 := b2.trans (b3'.mono b2.size)))
          go_ret
          exact ⟨Lg.ret_int F.out, by first | exact BW.out _ b3 | exact (BW.out _ b3).alloc (BW.out _ b3).size _⟩
        · have F := Lib.hid (Q4.out h0 h1 h2 h3)
          have G1 := Lib.hid (GF.out _ h3)
          clear W0 Q1 Q2 Q3 Q4 GF h3
          subst h0 h1 h2
          go_enter Tryz.func145, Tryz.ntmps145
          go_wp2_with (first | (go_at_call 187; rw [← eW]; clear eW; (with_reducible refine (NA.out).mono ?_); rintro e w0 ⟨rfl, rfl⟩; have g1 := D1.out _ (Below.refl _ _)) | (go_at_call 188; (with_reducible refine (CG.out).mono ?_); rintro e w1 ⟨rfl, b1⟩; have g2 := D2.out _ b1) | (go_at_call 189; (with_reducible refine (CF.out _ b1).mono ?_); rintro e w2 ⟨rfl, b2'⟩; have b2 := b1.trans (b2'.mono b1.size); have p1 := D1.out _ b2; have p3 := D3.out _ b2) | (go_at_call 190; (with_reducible refine (G1.out _ b2).mono ?_); rintro e w3 ⟨⟨t, Ad, As, cd, cs, rfl, _, _, _⟩, b3'⟩; have b3 := b2.trans (b3'.mono b2.size)))
          go_ret
          exact ⟨Lg.ret_int F.out, by first | exact BW.out _ b3 | exact (BW.out _ b3).alloc (BW.out _ b3).size _⟩
      · have F := Lib.hid (Q2.out h0 h1 h2)
        have je2 : (e2 != 0) = true := by simpa using h2
        clear W0 Q1 Q2 Q3 Q4 GF h2
        subst h0 h1
        go_enter Tryz.func145, Tryz.ntmps145
        go_wp2_with (first | (go_at_call 187; rw [← eW]; clear eW; (with_reducible refine (NA.out).mono ?_); rintro e w0 ⟨rfl, rfl⟩; have g1 := D1.out _ (Below.refl _ _)) | (go_at_call 188; (with_reducible refine (CG.out).mono ?_); rintro e w1 ⟨rfl, b1⟩; have g2 := D2.out _ b1) | (go_at_call 189; (with_reducible refine (CF.out _ b1).mono ?_); rintro e w2 ⟨rfl, b2'⟩; have b2 := b1.trans (b2'.mono b1.size); have p1 := D1.out _ b2; have p3 := D3.out _ b2))
        go_ret
        exact ⟨Lg.ret_int F.out, BW.out _ b2⟩
    · have F := Lib.hid (Q1.out h0 h1)
      have je1 : (e1 != 0) = true := by simpa using h1
      clear W0 Q1 Q2 Q3 Q4 GF h1
      subst h0
      go_enter Tryz.func145, Tryz.ntmps145
      go_wp2_with (first | (go_at_call 187; rw [← eW]; clear eW; (with_reducible refine (NA.out).mono ?_); rintro e w0 ⟨rfl, rfl⟩; have g1 := D1.out _ (Below.refl _ _)) | (go_at_call 188; (with_reducible refine (CG.out).mono ?_); rintro e w1 ⟨rfl, b1⟩; have g2 := D2.out _ b1))
      go_ret
      exact ⟨Lg.ret_int F.out, BW.out _ b1⟩
  · have F := Lib.hid (W0.out h0)
    have je0 : (e0 != 0) = true := by simpa using h0
    clear W0 Q1 Q2 Q3 Q4 GF h0
    go_enter Tryz.func145, Tryz.ntmps145
    go_wp2_with (go_at_call 187; rw [← eW]; clear eW; (with_reducible refine (NA.out).mono ?_); rintro e w0 ⟨rfl, rfl⟩; have g1 := D1.out _ (Below.refl _ _))
    go_ret
    exact ⟨Lg.ret_int F.out, BW.out _ (Below.refl _ _)⟩
theorem order_any (x : Op) (Ag : Option Addr) (cg : Nat) (Af : Option Addr) (cf : Nat) (Ar : Option Addr) (cr : Nat) (w : World) (ht : Tab w) (hx : OkO x) (hp : Parts w x Ag cg Af cf Ar cr) :
    Calls Tryz.prog 147 #[valOf x Ag cg Af cf Ar cr] w fun e w' => e = .returned (.string (orderB x.gr x.sn x.go)) ∧ Below w.heap.size w w' := by
  obtain ⟨W1, eW⟩ : ∃ W1, W1 = w.alloc (.cells #[.string x.n, .slice Ag x.gr.length cg, .slice Af x.sn.length cf, .string x.go, .int .i64 x.st, .int .i64 x.r.e, .string x.r.at_, .string x.r.tx, .slice Ar x.r.fs.length cr] 32) := ⟨_, rfl⟩
  have hb1 : Below w.heap.size w W1 := by rw [eW]; exact (Below.refl _ _).alloc (Nat.le_refl _) _
  have KO := Lib.hid (korder_any Ag Af x.gr x.sn cg cf x.go hx.go hx.gl hx.g hx.fl hx.f W1 (ht.on hb1) (hp.below hb1).g (fls_root (hp.below hb1).f))
  clear ht hx hp
  generalize orderB x.gr x.sn x.go = r at *
  unfold valOf
  go_enter Tryz.func147, Tryz.ntmps147
  go_wp2_with (go_at_call 191; rw [← eW]; (with_reducible refine (KO.out).mono ?_); rintro e w1 ⟨rfl, b1⟩)
  go_ret
  exact ⟨rfl, hb1.trans (b1.mono hb1.size)⟩
end Go.Proofs.YtmlaolmaopjhbaaGreatDoor.Ops
