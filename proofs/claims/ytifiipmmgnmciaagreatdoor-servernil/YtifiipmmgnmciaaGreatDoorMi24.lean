/- Joined by mkmerged.py: OpMem, OpClone, OpKeep, OpFind, OpWrong, OpSubmit, OpTurned, OpSet. -/
import Derived.Test.YtifiipmmgnmciaaGreatDoorMi02
import Derived.Test.YtifiipmmgnmciaaGreatDoorMi17
import Derived.Test.YtifiipmmgnmciaaGreatDoorMi21
import Derived.Test.YtifiipmmgnmciaaGreatDoorMi03
import Derived.Lib.SliceRun
import Derived.Test.YtifiipmmgnmciaaGreatDoorMi11
import Derived.Test.YtifiipmmgnmciaaGreatDoorMi12
import Derived.Test.YtifiipmmgnmciaaGreatDoorMi18
import Derived.Test.YtifiipmmgnmciaaGreatDoorMi23
import Derived.BigQuiet
import Derived.Deep.RegionHeld3
import Derived.Deep.CutRange
/- OpMem, what a claim needs of it (prune.py). -/
namespace Go.Proofs.YtifiipmmgnmciaaGreatDoor.Ops
open Go.RowKit
set_option linter.unusedVariables false
def cellsOf (x : Op) (Ag : Option Addr) (cg : Nat) (Af : Option Addr) (cf : Nat) (Ar : Option Addr) (cr : Nat) : List Value :=
  [.string x.n, .slice Ag x.gr.length cg, .slice Af x.sn.length cf, .string x.go, .int .i64 x.st, .int .i64 x.r.e, .string x.r.at_, .string x.r.tx, .slice Ar x.r.fs.length cr]
def valOf (x : Op) (Ag : Option Addr) (cg : Nat) (Af : Option Addr) (cf : Nat) (Ar : Option Addr) (cr : Nat) : Value :=
  .agg #[.string x.n, .slice Ag x.gr.length cg, .slice Af x.sn.length cf, .string x.go, .int .i64 x.st, .int .i64 x.r.e, .string x.r.at_, .string x.r.tx, .slice Ar x.r.fs.length cr]
def evOf (k : Int) (x : Op) (Ag : Option Addr) (cg : Nat) (Af : Option Addr) (cf : Nat) (Ar : Option Addr) (cr : Nat) : Value :=
  .agg #[.int .i64 k, .string x.n, .slice Ag x.gr.length cg, .slice Af x.sn.length cf, .string x.go, .int .i64 x.st, .int .i64 x.r.e, .string x.r.at_, .string x.r.tx, .slice Ar x.r.fs.length cr]
structure Parts (w : World) (x : Op) (Ag : Option Addr) (cg : Nat) (Af : Option Addr) (cf : Nat) (Ar : Option Addr) (cr : Nat) : Prop where
  g : Tgs w w.heap.size Ag x.gr
  f : Fs.Fls w Af x.sn
  r : Fs.Fls w Ar x.r.fs
  gc : x.gr.length ≤ cg
  fc : x.sn.length ≤ cf
  rc : x.r.fs.length ≤ cr
theorem fls_below {w w' : World} {A : Option Addr} {l : List Fl} (h : Fs.Fls w A l) (hb : Below w.heap.size w w') : Fs.Fls w' A l := (Reads.below h hb).more hb.size
theorem Parts.below {w w' : World} {x : Op} {Ag : Option Addr} {cg : Nat} {Af : Option Addr} {cf : Nat} {Ar : Option Addr} {cr : Nat} (h : Parts w x Ag cg Af cf Ar cr) (hb : Below w.heap.size w w') : Parts w' x Ag cg Af cf Ar cr :=
  ⟨(h.g.below hb).more hb.size, fls_below h.f hb, fls_below h.r hb, h.gc, h.fc, h.rc⟩
def OV (w : World) (x : Op) (cs : List Value) : Prop := ∃ Ag cg Af cf Ar cr, cs = cellsOf x Ag cg Af cf Ar cr ∧ Parts w x Ag cg Af cf Ar cr
theorem OV.len {w : World} {x : Op} {cs : List Value} (h : OV w x cs) : cs.length = 9 := by obtain ⟨_, _, _, _, _, _, rfl, _⟩ := h; rfl
theorem OV.below {w w' : World} {x : Op} {cs : List Value} (h : OV w x cs) (hb : Below w.heap.size w w') : OV w' x cs := by
  obtain ⟨Ag, cg, Af, cf, Ar, cr, e, hp⟩ := h
  exact ⟨Ag, cg, Af, cf, Ar, cr, e, hp.below hb⟩
def OVs (w : World) : List Op → List Value → Prop
  | [], cs => cs = []
  | x :: l, cs => ∃ a b, cs = a ++ b ∧ OV w x a ∧ OVs w l b
theorem OVs.len {w : World} : ∀ {l : List Op} {cs : List Value}, OVs w l cs → cs.length = l.length * 9
  | [], cs, h => by rw [show cs = [] from h]; rfl
  | x :: l, cs, ⟨a, b, e, h1, h2⟩ => by rw [e, List.length_append, h1.len, OVs.len h2, List.length_cons]; omega
theorem OVs.below {w w' : World} (hb : Below w.heap.size w w') : ∀ {l : List Op} {cs : List Value}, OVs w l cs → OVs w' l cs
  | [], cs, h => h
  | x :: l, cs, ⟨a, b, e, h1, h2⟩ => ⟨a, b, e, h1.below hb, OVs.below hb h2⟩
theorem OVs.app {w : World} : ∀ {l m : List Op} {cs ds : List Value}, OVs w l cs → OVs w m ds → OVs w (l ++ m) (cs ++ ds)
  | [], m, cs, ds, h, k => by rw [show cs = [] from h]; exact k
  | x :: l, m, cs, ds, ⟨a, b, e, h1, h2⟩, k => ⟨a, b ++ ds, by rw [e, List.append_assoc], h1, OVs.app h2 k⟩
theorem OVs.at_ {w : World} : ∀ {l : List Op} {cs : List Value} {k : Nat}, OVs w l cs → ∀ hk : k < l.length, ∃ a, OV w l[k] a ∧ ∀ j u, a[j]? = some u → cs[k * 9 + j]? = some u
  | [], cs, k, h, hk => absurd hk (by simp)
  | x :: l, cs, 0, ⟨a, b, e, h1, h2⟩, hk => ⟨a, h1, fun j u hu => by
      rw [e, Nat.zero_mul, Nat.zero_add, List.getElem?_append_left (List.getElem?_eq_some_iff.1 hu).1]; exact hu⟩
  | x :: l, cs, k + 1, ⟨a, b, e, h1, h2⟩, hk => by
    obtain ⟨c, h3, h4⟩ := OVs.at_ (k := k) h2 (by simpa using hk)
    refine ⟨c, h3, fun j u hu => ?_⟩
    rw [e, List.getElem?_append_right (by rw [h1.len]; omega), h1.len, show (k + 1) * 9 + j - 9 = k * 9 + j by omega]
    exact h4 j u hu
theorem OVs.take {w : World} : ∀ {l : List Op} {cs : List Value} (k : Nat), OVs w l cs → OVs w (l.take k) (cs.take (k * 9))
  | [], cs, k, h => by rw [show cs = [] from h]; simp [OVs]
  | x :: l, cs, 0, h => by simp [OVs]
  | x :: l, cs, k + 1, ⟨a, b, e, h1, h2⟩ => by
    refine ⟨a, b.take (k * 9), ?_, h1, OVs.take k h2⟩
    rw [e, List.take_append, h1.len, show (k + 1) * 9 - 9 = k * 9 by omega, List.take_of_length_le (by rw [h1.len]; omega)]
theorem OVs.drop {w : World} : ∀ {l : List Op} {cs : List Value} (k : Nat), OVs w l cs → OVs w (l.drop k) (cs.drop (k * 9))
  | [], cs, k, h => by rw [show cs = [] from h]; simp [OVs]
  | x :: l, cs, 0, h => by rw [Nat.zero_mul]; exact h
  | x :: l, cs, k + 1, ⟨a, b, e, h1, h2⟩ => by
    have e2 : cs.drop ((k + 1) * 9) = b.drop (k * 9) := by
      rw [e, List.drop_append, h1.len, show (k + 1) * 9 - 9 = k * 9 by omega, List.drop_of_length_le (l := a) (by rw [h1.len]; omega)]
      rfl
    rw [e2]
    exact OVs.drop k h2
theorem OVs.set {w : World} {l : List Op} {cs ds : List Value} {y : Op} {k : Nat} (h : OVs w l cs) (hk : k < l.length) (hy : OV w y ds) : OVs w (l.set k y) (cs.take (k * 9) ++ ds ++ cs.drop ((k + 1) * 9)) := by
  rw [List.set_eq_take_append_cons_drop, if_pos hk, List.append_assoc]
  exact OVs.app (OVs.take k h) ⟨ds, _, rfl, hy, OVs.drop (k + 1) h⟩
def Ops (w : World) (A : Option Addr) (l : List Op) : Prop := ∃ cs, OVs w l cs ∧ Reads w w.heap.size 9 A l.length cs
theorem Ops.below {w w' : World} {A : Option Addr} {l : List Op} (h : Ops w A l) (hb : Below w.heap.size w w') : Ops w' A l := by
  obtain ⟨cs, h1, h2⟩ := h
  exact ⟨cs, h1.below hb, (Reads.below h2 hb).more hb.size⟩
theorem Ops.none_ {w : World} {A : Option Addr} : Ops w A [] := ⟨[], rfl, by simp, fun h => absurd h (by simp)⟩
theorem Ops.at_ {w : World} {A : Option Addr} {l : List Op} (h : Ops w A l) {k : Nat} (hk : k < l.length) :
    ∃ ad Ag cg Af cf Ar cr, A = some ad ∧ ad.block < w.heap.size ∧ Parts w l[k] Ag cg Af cf Ar cr ∧ ∀ j u, (cellsOf l[k] Ag cg Af cf Ar cr)[j]? = some u → w.cell? (ad.add (k * 9 + j)) = some u := by
  obtain ⟨cs, h1, h2⟩ := h
  obtain ⟨ad, e, hb, hc⟩ := h2.2 (by omega)
  obtain ⟨a, ⟨Ag, cg, Af, cf, Ar, cr, rfl, hp⟩, h4⟩ := h1.at_ hk
  exact ⟨ad, Ag, cg, Af, cf, Ar, cr, e, hb, hp, fun j u hu => hc _ _ (h4 j u hu)⟩
theorem Ops.nine_at {w : World} {A : Option Addr} {l : List Op} (h : Ops w A l) {k : Nat} (hk : k < l.length) :
    ∃ ad Ag cg Af cf Ar cr, A = some ad ∧ ad.block < w.heap.size ∧ Parts w l[k] Ag cg Af cf Ar cr ∧
      w.cell? (ad.add (k * 9)) = some (.string l[k].n) ∧
      w.cell? ⟨(ad.add (k * 9)).block, (ad.add (k * 9)).off + 1, none⟩ = some (.slice Ag l[k].gr.length cg) ∧
      w.cell? ⟨(ad.add (k * 9)).block, (ad.add (k * 9)).off + 2, none⟩ = some (.slice Af l[k].sn.length cf) ∧
      w.cell? ⟨(ad.add (k * 9)).block, (ad.add (k * 9)).off + 3, none⟩ = some (.string l[k].go) ∧
      w.cell? ⟨(ad.add (k * 9)).block, (ad.add (k * 9)).off + 4, none⟩ = some (.int .i64 l[k].st) ∧
      w.cell? ⟨(ad.add (k * 9)).block, (ad.add (k * 9)).off + 5, none⟩ = some (.int .i64 l[k].r.e) ∧
      w.cell? ⟨(ad.add (k * 9)).block, (ad.add (k * 9)).off + 6, none⟩ = some (.string l[k].r.at_) ∧
      w.cell? ⟨(ad.add (k * 9)).block, (ad.add (k * 9)).off + 7, none⟩ = some (.string l[k].r.tx) ∧
      w.cell? ⟨(ad.add (k * 9)).block, (ad.add (k * 9)).off + 8, none⟩ = some (.slice Ar l[k].r.fs.length cr) := by
  obtain ⟨ad, Ag, cg, Af, cf, Ar, cr, e, hb, hp, hc⟩ := h.at_ hk
  have hj : ∀ j u, (cellsOf l[k] Ag cg Af cf Ar cr)[j]? = some u → w.cell? ((ad.add (k * 9)).add j) = some u := fun j u hu => by
    rw [add_of_add]; exact hc j u hu
  exact ⟨ad, Ag, cg, Af, cf, Ar, cr, e, hb, hp, hc 0 _ rfl, hj 1 _ rfl, hj 2 _ rfl, hj 3 _ rfl, hj 4 _ rfl, hj 5 _ rfl, hj 6 _ rfl, hj 7 _ rfl, hj 8 _ rfl⟩
structure OkO (x : Op) : Prop where
  n : x.n.size ≤ 100
  go : x.go.size ≤ 100
  gl : x.gr.length ≤ 20
  g : ∀ t ∈ x.gr, t.Ok
  fl : x.sn.length ≤ 60
  f : ∀ f ∈ x.sn, f.Ok
  rl : x.r.fs.length ≤ 60
  r : ∀ f ∈ x.r.fs, f.Ok
end Go.Proofs.YtifiipmmgnmciaaGreatDoor.Ops
/- OpClone, what a claim needs of it (prune.py). -/
namespace Go.Proofs.YtifiipmmgnmciaaGreatDoor.Ops
open Go.RowKit
set_option linter.unusedVariables false
set_option maxRecDepth 100000
theorem OV.cell {w : World} {x : Op} {cs : List Value} (h : OV w x cs) : ∀ u ∈ cs, u.oneCell' = true := by
  obtain ⟨Ag, cg, Af, cf, Ar, cr, rfl, _⟩ := h
  intro u hu
  simp only [cellsOf, List.mem_cons, List.not_mem_nil, or_false] at hu
  rcases hu with rfl | rfl | rfl | rfl | rfl | rfl | rfl | rfl | rfl <;> rfl
theorem OVs.cell {w : World} : ∀ {l : List Op} {cs : List Value}, OVs w l cs → ∀ u ∈ cs, u.oneCell' = true
  | [], cs, h => by rw [show cs = [] from h]; intro u hu; cases hu
  | x :: l, cs, ⟨a, b, e, h1, h2⟩ => by
    rw [e]
    intro u hu
    rcases List.mem_append.1 hu with h | h
    · exact h1.cell u h
    · exact OVs.cell h2 u h
theorem infoO : ∃ z, (Tryz.prog.info? 29).map (fun i => (i.zero, i.size, i.bytes)) = some (some z, 9, 152) ∧ z.cells.size = 9 := ⟨.agg #[.string ⟨#[]⟩, .slice none 0 0, .slice none 0 0, .string ⟨#[]⟩, .int .i64 0, .int .i64 0, .string ⟨#[]⟩, .string ⟨#[]⟩, .slice none 0 0], by kernel_rfl, rfl⟩
def OwnOps (B : Nat) (l : List Op) (w : World) (v : Value) : Prop := ∃ cs, w.ownsRow B 29 9 v l.length cs ∧ OVs w l cs
theorem OwnOps.ops {B : Nat} {l : List Op} {w : World} {v : Value} (h : OwnOps B l w v) : ∃ A c, v = .slice A l.length c ∧ l.length ≤ c ∧ Ops w A l := by
  obtain ⟨cs, ho, h⟩ := h
  have hv : ∃ A c, v = .slice A l.length c ∧ l.length ≤ c := by
    rcases ho.2 with ⟨rfl, h0⟩ | ⟨g, cap, cur, rfl, hB, hg, h1, _⟩
    · exact ⟨none, 0, by rw [h0], by omega⟩
    · exact ⟨_, _, rfl, h1⟩
  obtain ⟨A, c, rfl, hc⟩ := hv
  exact ⟨A, c, rfl, hc, cs, h, Reads.of_own ho⟩
def CloneFrom (l : List Op) (w0 w : World) (e : Ending) (w' : World) : Prop := (∃ v cs, e = .returned v ∧ w'.ownsRow w.heap.size 29 9 v l.length cs ∧ OVs w0 l cs) ∧ Below w.heap.size w w'
set_option maxHeartbeats 2000000 in
theorem clone_from (A : Option Addr) (l : List Op) (c : Nat) (w0 w : World) (hr : Ops w0 A l) (h0 : Below w0.heap.size w0 w) (hl : l.length ≤ 1000000) :
    Calls Tryz.prog 29 #[.slice A l.length c] w (CloneFrom l w0 w) := by
  have qn : ∀ (w : World) (a : Option Addr) (n c n' c' : Nat), (binOp .eql 39 (.slice a n c) (.slice none n' c')).run Tryz.prog w = .ok (.bool a.isNone) w := fun w a n c n' c' => Lib.run_eql_slice_nil w _ _ a n c n' c' Tryz.underlying39
  rcases A with _ | ad
  · have h0 : l = [] := by
      rcases l with _ | ⟨x, l⟩
      · rfl
      · obtain ⟨cs, _, h⟩ := hr
        obtain ⟨ad, h, _⟩ := h.2 (by simp)
        cases h
    subst h0
    have EN : Hid (∀ e w', ((∃ v cs, e = .returned v ∧ w'.ownsRow w.heap.size 29 9 v ([] : List Op).length cs ∧ OVs w0 [] cs) ∧ Below w.heap.size w w') → CloneFrom [] w0 w e w') := Lib.hid fun e w' h => h
    generalize CloneFrom [] w0 w = Q at *
    go_enter Tryz.func29, Tryz.ntmps29
    go_wp2_with (fail)
    exact EN.out _ _ ⟨⟨_, [], rfl, World.ownsRow_nil _ _ _ _, rfl⟩, Below.refl _ _⟩
  · obtain ⟨cs, hv, hrd⟩ := hr
    obtain ⟨z, hzi, hzs⟩ := infoO
    obtain ⟨i0, hi, hz0, hz1, hz2⟩ := Lg.info_parts hzi
    have EN : Hid (∀ e w', ((∃ v cs, e = .returned v ∧ w'.ownsRow w.heap.size 29 9 v l.length cs ∧ OVs w0 l cs) ∧ Below w.heap.size w w') → CloneFrom l w0 w e w') := Lib.hid fun e w' h => h
    have HV := Lib.hid hv
    have HC := Lib.hid (OVs.cell hv)
    obtain ⟨W1, eW⟩ : ∃ W1, W1 = w.alloc (.cells #[] 29) := ⟨_, rfl⟩
    have hb1 : Below w.heap.size w W1 := by rw [eW]; exact (Below.refl _ _).alloc (Nat.le_refl _) _
    have own0 : W1.ownsRow w.heap.size 29 9 (.slice (some ⟨w.heap.size, 0, none⟩) 0 0) 0 [] := by rw [eW]; exact World.ownsRow_made w #[] 0 (Nat.le_refl _) (Nat.zero_le _) rfl
    have RD : Hid (Reads W1 w.heap.size 9 (some ad) l.length cs) := Lib.hid ((hrd.below (h0.trans (hb1.mono h0.size))).more h0.size)
    have HB := Lib.hid hb1
    clear hv hrd hb1 hzi h0
    generalize CloneFrom l w0 w = Q at *
    go_enter Tryz.func29, Tryz.ntmps29
    go_wp2_with (at_builtin; rw [← eW]; refine wpList_append_any _ rfl (.tmp 5) (.tmp 6) 39 rfl w.heap.size 29 i0 z 9 152 Tryz.underlying39 hi hz0 hz1 hz2 hzs (by decide) (.slice (some ⟨w.heap.size, 0, none⟩) 0 0) 0 [] rfl own0 w.heap.size (some ad) l.length c cs rfl RD.out HC.out (by simp only [maxLen]; omega) (by omega) HB.out.size ?_; intro v' w1 hown hg hat; have hb2 := HB.out.grown hg HB.out.size (fun k hk => by simp [Value.ownBlock] at hk; omega); rw [Nat.zero_add, List.nil_append] at hown)
    exact EN.out _ _ ⟨⟨v', cs, rfl, hown, HV.out⟩, hb2⟩
end Go.Proofs.YtifiipmmgnmciaaGreatDoor.Ops
/- OpKeep, what a claim needs of it (prune.py). -/
namespace Go.Proofs.YtifiipmmgnmciaaGreatDoor.Ops
open Go.RowKit
set_option linter.unusedVariables false
section
variable {W : ByteArray → List Tg → List Fl → ByteArray → Int} {O : List Tg → List Fl → ByteArray → ByteArray}
end
def ApplySays (m : List Op) (f : Int) (w : World) (e : Ending) (w' : World) : Prop :=
  (∃ A' c', e = .returned (.tuple #[.slice A' m.length c', .int .i64 f]) ∧ m.length ≤ c' ∧ Ops w' A' m) ∧ Below w.heap.size w w'
end Go.Proofs.YtifiipmmgnmciaaGreatDoor.Ops
/- OpFind, what a claim needs of it (prune.py). -/
namespace Go.Proofs.YtifiipmmgnmciaaGreatDoor.Ops
open Go.RowKit
open Gr (idx NoneTo idx_hit idx_miss idx_cases)
set_option linter.unusedVariables false
set_option maxRecDepth 100000
set_option maxHeartbeats 2000000 in
theorem indexO_any (g : Nat) (lb : Array Value) (eg : ∀ args w, (callFunc g args).run Tryz.prog w = .ok (.enter g args) w) (p : Op → Bool) (A : Option Addr) (l : List Op) (c : Nat) (w : World) (hr : Ops w A l) (hl : l.length ≤ 1000000000)
    (hp : ∀ k (hk : k < l.length), ∀ Ag cg Af cf Ar cr W, Below w.heap.size w W →
      Calls Tryz.prog g (#[valOf l[k] Ag cg Af cf Ar cr] ++ lb) W fun e w' => e = .returned (.bool (p l[k])) ∧ Below W.heap.size W w') :
    Calls Tryz.prog 50 #[.slice A l.length c, .func (.func g) #[] lb] w fun e w' => e = .returned (.int .i64 (idx p l)) ∧ Below w.heap.size w w' := by
  have RD : Hid (∀ W, Below w.heap.size w W → Ops W A l) := Lib.hid fun W hW => hr.below hW
  have PR := Lib.hid hp
  clear hr hp
  go_enter Tryz.func50, Tryz.ntmps50
  go_wp2_with (fail)
  go_loopw [8] (fun i W => ∃ k : Nat, i = .int .i64 k ∧ k ≤ l.length ∧ NoneTo p l k ∧ Below w.heap.size w W) (fun i _ => l.length - (intOf i).toNat)
  case atStart => exact ⟨0, rfl, by omega, NoneTo.zero _ _, Below.refl _ _⟩
  case round =>
    obtain ⟨k, rfl, hk, ha, hb⟩ := hrel
    have HA := Lib.hid ha
    clear ha
    by_cases hlt : k < l.length
    · have hkI : (k : Int) < (l.length : Int) := by omega
      obtain ⟨ad, Ag, cg, Af, cf, Ar, cr, rfl, had, hps, c0, c1, c2, c3, c4, c5, c6, c7, c8⟩ := (RD.out _ hb).nine_at hlt
      have AF := Lib.hid (PR.out k hlt Ag cg Af cf Ar cr _ hb)
      unfold valOf at AF
      have NXT := Lib.hid (NoneTo.next hlt HA.out)
      have HIT := Lib.hid (idx_hit hlt HA.out)
      clear hps
      generalize l[k] = t at *
      cases hp : p t
      · rw [hp] at AF
        have F := Lib.hid (NXT.out hp)
        clear hp HIT
        go_wp2_with (go_at_fn g; ((with_reducible refine (AF.out).mono ?_); rintro e w1 ⟨rfl, hb1⟩))
        go_roundw
        case rel => exact ⟨k + 1, by go_num, by omega, F.out, hb.trans (hb1.mono hb.size)⟩
        case measure => simp [intOf]; omega
      · rw [hp] at AF
        have F := Lib.hid (HIT.out hp)
        clear hp NXT
        go_wp2_with (go_at_fn g; ((with_reducible refine (AF.out).mono ?_); rintro e w1 ⟨rfl, hb1⟩))
        go_ret
        exact ⟨Lg.ret_int F.out, hb.trans (hb1.mono hb.size)⟩
    · obtain rfl : k = l.length := by omega
      have F := Lib.hid (idx_miss HA.out)
      go_wp2_with (fail)
      go_ret
      exact ⟨Lg.ret_int F.out, hb⟩
theorem at1_any (x : Op) (Ag : Option Addr) (cg : Nat) (Af : Option Addr) (cf : Nat) (Ar : Option Addr) (cr : Nat) (s : ByteArray) (B : Nat) (W : World) (hB : B < W.heap.size) (hc : W.cell? ⟨B, 0, none⟩ = some (.string s)) :
    Calls Tryz.prog 51 #[valOf x Ag cg Af cf Ar cr, .pointer (some ⟨B, 0, none⟩)] W fun e w' => e = .returned (.bool (named s x)) ∧ Below W.heap.size W w' := by
  have hne : B ≠ W.heap.size := by omega
  unfold valOf named
  generalize x.n = n
  by_cases h : n = s
  · have F : Hid (decide (n = s) = true) := Lib.hid (decide_eq_true h)
    subst h
    go_enter Tryz.func51, Tryz.ntmps51
    go_wp2_with (fail)
    go_ret
    exact ⟨Lg.ret_bool F.out, (Below.refl _ _).alloc (Nat.le_refl _) _⟩
  · have F : Hid (decide (n = s) = false) := Lib.hid (decide_eq_false h)
    have g := Lg.s_ne h
    clear h
    go_enter Tryz.func51, Tryz.ntmps51
    go_wp2_with (fail)
    go_ret
    exact ⟨Lg.ret_bool F.out, (Below.refl _ _).alloc (Nat.le_refl _) _⟩
theorem at_any (A : Option Addr) (l : List Op) (c : Nat) (s : ByteArray) (w : World) (hr : Ops w A l) (hl : l.length ≤ 1000000000) :
    Calls Tryz.prog 28 #[.slice A l.length c, .string s] w fun e w' => e = .returned (.int .i64 (idx (named s) l)) ∧ Below w.heap.size w w' := by
  obtain ⟨W2, eW⟩ : ∃ W2, W2 = w.alloc (.cells #[.string s] 9) := ⟨_, rfl⟩
  have hb2 : Below w.heap.size w W2 := by rw [eW]; exact (Below.refl _ _).alloc (Nat.le_refl _) _
  have hsz : W2.heap.size = w.heap.size + 1 := by rw [eW]; simp
  have k0 : W2.heap[w.heap.size]? = some (.cells #[.string s] 9 (0, 0)) := by rw [eW]; exact heap_alloc_new w _
  have IX := Lib.hid (indexO_any 51 #[.pointer (some ⟨w.heap.size, 0, none⟩)] (enters_of Tryz.func51 (by kernel_rfl) rfl) (named s) A l c W2 (hr.below hb2) hl
    (fun k hk Ag cg Af cf Ar cr V hV => at1_any _ _ _ _ _ _ _ _ _ V (by have := hV.size; omega) ((hV.cell (p := ⟨w.heap.size, 0, none⟩) (by show w.heap.size < _; omega)).trans (Lg.cell_at k0 0))))
  generalize idx (named s) l = r at *
  clear hr k0 hsz
  go_enter Tryz.func28, Tryz.ntmps28
  go_wp2_with (go_at_call 50; rw [← eW]; (with_reducible refine (IX.out).mono ?_); rintro e w1 ⟨rfl, hb⟩)
  go_ret
  exact ⟨rfl, hb2.trans (hb.mono hb2.size)⟩
def FindSays (l : List Op) (s : ByteArray) (w0 w : World) (e : Ending) (w' : World) : Prop :=
  (∃ (x : Op) (Ag : Option Addr) (cg : Nat) (Af : Option Addr) (cf : Nat) (Ar : Option Addr) (cr : Nat), e = .returned (.tuple #[valOf x Ag cg Af cf Ar cr, .bool (find l s).isSome]) ∧ x = (find l s).getD zeroO ∧ Parts w0 x Ag cg Af cf Ar cr) ∧ Below w.heap.size w w'
theorem zero_parts (w : World) : Parts w zeroO none 0 none 0 none 0 := ⟨Tgs.none_ _ _ _, Reads.none_, Reads.none_, Nat.le_refl _, Nat.le_refl _, Nat.le_refl _⟩
abbrev zcells : Array Value := #[.string ⟨#[]⟩, .slice none 0 0, .slice none 0 0, .string ⟨#[]⟩, .int .i64 0, .int .i64 0, .string ⟨#[]⟩, .string ⟨#[]⟩, .slice none 0 0]
set_option maxHeartbeats 1000000 in
theorem find_any (A : Option Addr) (l : List Op) (c : Nat) (s : ByteArray) (w0 w : World) (hr : Ops w0 A l) (h0 : Below w0.heap.size w0 w) (hl : l.length ≤ 1000000000) :
    Calls Tryz.prog 14 #[.slice A l.length c, .string s] w (FindSays l s w0 w) := by
  obtain ⟨W2, eW⟩ : ∃ W2, W2 = w.alloc (.cells zcells 29) := ⟨_, rfl⟩
  have hb2 : Below w.heap.size w W2 := by rw [eW]; exact (Below.refl _ _).alloc (Nat.le_refl _) _
  have k1 : W2.heap[w.heap.size]? = some (.cells zcells 29 (0, 0)) := by rw [eW]; exact heap_alloc_new w _
  have hsz : W2.heap.size = w.heap.size + 1 := by rw [eW]; simp
  have IX := Lib.hid (at_any A l c s W2 ((hr.below h0).below hb2) hl)
  have K1 : Hid (∀ W, Below W2.heap.size W2 W → W.heap[w.heap.size]? = some (.cells zcells 29 (0, 0))) := Lib.hid fun W hW => (hW.block _ (by omega)).trans k1
  clear k1
  have h12 : w.heap.size < W2.heap.size := by omega
  clear hsz
  rcases idx_cases (named s) l with ⟨e1, e2⟩ | ⟨k, hk, e1, e2, _, _⟩
  · rw [e1] at IX
    have F : Hid (find l s = none) := Lib.hid e2
    clear e1 e2 hr
    go_enter Tryz.func14, Tryz.ntmps14
    go_wp2_with (go_at_call 28; rw [← eW]; (with_reducible refine (IX.out).mono ?_); rintro e w1 ⟨rfl, hb⟩; have K2 := Lib.hid (K1.out _ hb); obtain ⟨c0, c1, c2, c3, c4, c5, c6, c7, c8, f0, f1, f2, f3, f4, f5, f6, f7, f8⟩ := nine (K1.out _ hb); have hs1 := hb.size; clear eW)
    (try simp only [Exit.inBlock, Exit.then])
    refine bodyPost_ret_by (Lg.results_cell_row2 rfl _ _ (w.heap.size) 29 _ (0, 0) _ rfl (set9 K2.out _ _ _ _ _ _ _ _ _) rfl rfl (by kernel_rfl)) rfl ?_
    refine ⟨⟨zeroO, none, 0, none, 0, none, 0, by rw [F.out]; rfl, by rw [F.out]; rfl, zero_parts _⟩, ?_⟩
    exact set9_below (hb2.trans (hb.mono hb2.size)) (Nat.le_refl _) _ _ _ _ _ _ _ _ _
  · rw [e1] at IX
    have F : Hid (find l s = some l[k]) := Lib.hid e2
    clear e1 e2
    have hkI : (k : Int) < (l.length : Int) := by omega
    obtain ⟨ad, Ag, cg, Af, cf, Ar, cr, rfl, had, hps, d0, d1, d2, d3, d4, d5, d6, d7, d8⟩ := hr.nine_at hk
    have HP := Lib.hid hps
    have cat : ∀ (W : World), Below w0.heap.size w0 W → ∀ j u, w0.cell? ⟨(ad.add (k * 9)).block, j, none⟩ = some u → W.cell? ⟨(ad.add (k * 9)).block, j, none⟩ = some u := fun W hW j u h => (hW.cell (by show (ad.add (k * 9)).block < _; rw [block_of_add]; exact had)).trans h
    have CAT : Hid (∀ (W : World), Below w0.heap.size w0 W → W.cell? (ad.add (k * 9)) = some (.string l[k].n) ∧
      W.cell? ⟨(ad.add (k * 9)).block, (ad.add (k * 9)).off + 1, none⟩ = some (.slice Ag l[k].gr.length cg) ∧
      W.cell? ⟨(ad.add (k * 9)).block, (ad.add (k * 9)).off + 2, none⟩ = some (.slice Af l[k].sn.length cf) ∧
      W.cell? ⟨(ad.add (k * 9)).block, (ad.add (k * 9)).off + 3, none⟩ = some (.string l[k].go) ∧
      W.cell? ⟨(ad.add (k * 9)).block, (ad.add (k * 9)).off + 4, none⟩ = some (.int .i64 l[k].st) ∧
      W.cell? ⟨(ad.add (k * 9)).block, (ad.add (k * 9)).off + 5, none⟩ = some (.int .i64 l[k].r.e) ∧
      W.cell? ⟨(ad.add (k * 9)).block, (ad.add (k * 9)).off + 6, none⟩ = some (.string l[k].r.at_) ∧
      W.cell? ⟨(ad.add (k * 9)).block, (ad.add (k * 9)).off + 7, none⟩ = some (.string l[k].r.tx) ∧
      W.cell? ⟨(ad.add (k * 9)).block, (ad.add (k * 9)).off + 8, none⟩ = some (.slice Ar l[k].r.fs.length cr)) := Lib.hid fun W hW =>
      ⟨(hW.cell (by rw [block_of_add]; exact had)).trans d0, cat W hW _ _ d1, cat W hW _ _ d2, cat W hW _ _ d3, cat W hW _ _ d4, cat W hW _ _ d5, cat W hW _ _ d6, cat W hW _ _ d7, cat W hW _ _ d8⟩
    clear d0 d1 d2 d3 d4 d5 d6 d7 d8 hps hr cat
    generalize l[k] = t at *
    go_enter Tryz.func14, Tryz.ntmps14
    go_wp2_with (go_at_call 28; rw [← eW]; (with_reducible refine (IX.out).mono ?_); rintro e w1 ⟨rfl, hb⟩; have K2 := Lib.hid (K1.out _ hb); obtain ⟨c0, c1, c2, c3, c4, c5, c6, c7, c8, f0, f1, f2, f3, f4, f5, f6, f7, f8⟩ := nine (K1.out _ hb); have hs1 := hb.size; clear eW; have hbw := hb2.trans (hb.mono hb2.size); obtain ⟨e0, e1, e2, e3, e4, e5, e6, e7, e8⟩ := CAT.out _ (h0.trans (hbw.mono h0.size)))
    (try simp only [Exit.inBlock, Exit.then])
    refine bodyPost_ret_by (Lg.results_cell_row2 rfl _ _ (w.heap.size) 29 _ (0, 0) _ rfl (set9 K2.out _ _ _ _ _ _ _ _ _) rfl rfl (by kernel_rfl)) rfl ?_
    exact ⟨⟨t, Ag, cg, Af, cf, Ar, cr, by rw [F.out]; rfl, by rw [F.out]; rfl, HP.out⟩, set9_below hbw (Nat.le_refl _) _ _ _ _ _ _ _ _ _⟩
end Go.Proofs.YtifiipmmgnmciaaGreatDoor.Ops
/- OpWrong, what a claim needs of it (prune.py). -/
namespace Go.Proofs.YtifiipmmgnmciaaGreatDoor.Ops
open Go.RowKit
set_option linter.unusedVariables false
set_option maxRecDepth 100000
noncomputable def wrongV (n : ByteArray) (gr : List Tg) (sn : List Fl) (go : ByteArray) : Int :=
  if Gr.nameF n ≠ 0 then Gr.nameF n else if Gr.checkF gr ≠ 0 then Gr.checkF gr else if Fs.checkE sn ≠ 0 then Fs.checkE sn else if Gr.isT gr go = true then 0 else 30
theorem fsEnv {w : World} (h : Lg.Env w) : Fs.Env w := ⟨h.1, h.2.1⟩
theorem at_put3 {W1 : World} {b : Nat} {cs : Array Value} {T : TypeId} (h : W1.heap[b]? = some (.cells cs T (0, 0))) (j : Nat) {u : Value} (hu : cs[j]? = some u) : ∀ w', Below W1.heap.size W1 w' → w'.cell? ⟨b, j, none⟩ = some u := fun w' hb => (cell_heap (heap_below hb (Lg.lt_heap h) h) j).trans hu
end Go.Proofs.YtifiipmmgnmciaaGreatDoor.Ops
/- OpSubmit, what a claim needs of it (prune.py). -/
namespace Go.Proofs.YtifiipmmgnmciaaGreatDoor.Ops
open Go.RowKit
set_option linter.unusedVariables false
set_option maxRecDepth 100000
theorem fresh_below {w0 w : World} {B b : Nat} (h : Below B w0 w) (hb : B ≤ b) : Below B w0 (((((w.setCell ⟨b, 4, none⟩ (.int .i64 1)).setCell ⟨b, 5, none⟩ (.int .i64 0)).setCell ⟨b, 6, none⟩ (.string ⟨#[]⟩)).setCell ⟨b, 7, none⟩ (.string ⟨#[]⟩)).setCell ⟨b, 8, none⟩ (.slice none 0 0)) := ((((h.setCell hb _).setCell hb _).setCell hb _).setCell hb _).setCell hb _
theorem app_belowO {W1 w1 w2 : World} {v1 : Value} {n : Nat} {xs : List Value} (hb : Below W1.heap.size W1 w1) (ho : w1.ownsRow W1.heap.size 29 9 v1 n xs) (hg : w1.grownBy w2 v1.ownBlock) : Below W1.heap.size W1 w2 :=
  hb.grown hg hb.size (fun j hj => by
    rcases ho.2 with ⟨rfl, _⟩ | ⟨g, cap, cur, rfl, hgB, _⟩
    · simp [Value.ownBlock] at hj
    · have : g = j := by simpa [Value.ownBlock] using hj
      omega)
theorem own_baseO {w : World} {B B' : Nat} {v : Value} {n : Nat} {xs : List Value} (hown : w.ownsRow B 29 9 v n xs) (hB : B' ≤ B) : w.ownsRow B' 29 9 v n xs := by
  refine ⟨hown.1, ?_⟩
  rcases hown.2 with h0 | ⟨g, cap, cur, hv, hg, hcc⟩
  · exact .inl h0
  · exact .inr ⟨g, cap, cur, hv, Nat.le_trans hB hg, hcc⟩
end Go.Proofs.YtifiipmmgnmciaaGreatDoor.Ops
/- OpTurned, what a claim needs of it (prune.py). -/
namespace Go.Proofs.YtifiipmmgnmciaaGreatDoor.Ops
open Go.RowKit
set_option linter.unusedVariables false
set_option maxRecDepth 100000
theorem heap3 {w : World} {A B C : Obj} : (((w.alloc A).alloc B).alloc C).heap[w.heap.size + 1 + 1]? = some C := by
  have := heap_alloc2_new (w.alloc A) B C
  simpa using this
theorem below3 {w : World} {A B C : Obj} : Below w.heap.size w (((w.alloc A).alloc B).alloc C) := (((Below.refl _ _).alloc (Nat.le_refl _) _).alloc (by simp) _).alloc (by simp; omega) _
def TurnSays (v : Value) (b : Bool) (w : World) (e : Ending) (w' : World) : Prop := e = .returned (.tuple #[v, .bool b]) ∧ Below w.heap.size w w'
set_option maxHeartbeats 2000000 in
theorem turned2_any (x z : Op) (Ag : Option Addr) (cg : Nat) (Af : Option Addr) (cf : Nat) (Ar : Option Addr) (cr : Nat) (Eg : Option Addr) (eg : Nat) (Ef : Option Addr) (ef : Nat) (Er : Option Addr) (er : Nat) (w : World) :
    Calls Tryz.prog 95 #[valOf x Ag cg Af cf Ar cr, evOf 2 z Eg eg Ef ef Er er] w (TurnSays (valOf { x with st := 2 } Ag cg Af cf Ar cr) (decide (x.st = 1)) w) := by
  unfold valOf evOf
  go_enter Tryz.func95, Tryz.ntmps95
  go_wp2_with (fail)
  (try simp only [Exit.inBlock, Exit.then])
  refine bodyPost_ret_by (Lg.results_cell_row2 rfl _ _ (w.heap.size + 1 + 1) 29 _ (0, 0) _ rfl heap3 rfl rfl (by kernel_rfl)) rfl ?_
  exact ⟨rfl, below3⟩
set_option maxHeartbeats 2000000 in
theorem turned4_any (x z : Op) (Ag : Option Addr) (cg : Nat) (Af : Option Addr) (cf : Nat) (Ar : Option Addr) (cr : Nat) (Eg : Option Addr) (eg : Nat) (Ef : Option Addr) (ef : Nat) (Er : Option Addr) (er : Nat) (w : World) :
    Calls Tryz.prog 95 #[valOf x Ag cg Af cf Ar cr, evOf 4 z Eg eg Ef ef Er er] w (TurnSays (valOf { x with st := 4 } Ag cg Af cf Ar cr) (x.st != 3) w) := by
  unfold valOf evOf
  go_enter Tryz.func95, Tryz.ntmps95
  go_wp2_with (fail)
  (try simp only [Exit.inBlock, Exit.then])
  refine bodyPost_ret_by (Lg.results_cell_row2 rfl _ _ (w.heap.size + 1 + 1) 29 _ (0, 0) _ rfl heap3 rfl rfl (by kernel_rfl)) rfl ?_
  exact ⟨rfl, below3⟩
set_option maxHeartbeats 4000000 in
theorem turned3_any (x z : Op) (Ag : Option Addr) (cg : Nat) (Af : Option Addr) (cf : Nat) (Ar : Option Addr) (cr : Nat) (Eg : Option Addr) (eg : Nat) (Ef : Option Addr) (ef : Nat) (Er : Option Addr) (er : Nat) (w : World) :
    Calls Tryz.prog 95 #[valOf x Ag cg Af cf Ar cr, evOf 3 z Eg eg Ef ef Er er] w (TurnSays (valOf { x with st := 3, r := z.r } Ag cg Af cf Er er) (decide (x.st = 2)) w) := by
  unfold valOf evOf
  go_enter Tryz.func95, Tryz.ntmps95
  go_wp2_with (fail)
  go_region
  all_goals
    go_wp2_with (fail)
    (try simp only [Exit.inBlock, Exit.then])
    refine bodyPost_ret_by (Lg.results_cell_row2 rfl _ _ (w.heap.size + 1 + 1) 29 _ (0, 0) _ rfl heap3 rfl rfl (by kernel_rfl)) rfl ?_
    exact ⟨rfl, below3.drew⟩
theorem turned_any (x z : Op) (k : Int) (hk : k = 2 ∨ k = 3 ∨ k = 4) (Ag : Option Addr) (cg : Nat) (Af : Option Addr) (cf : Nat) (Ar : Option Addr) (cr : Nat) (Eg : Option Addr) (eg : Nat) (Ef : Option Addr) (ef : Nat) (Er : Option Addr) (er : Nat) (w0 w : World) (hp : Parts w0 x Ag cg Af cf Ar cr) (hq : Parts w0 z Eg eg Ef ef Er er) {b : Bool} (hb : (turned x ⟨k, z⟩).isSome = b) :
    Calls Tryz.prog 95 #[valOf x Ag cg Af cf Ar cr, evOf k z Eg eg Ef ef Er er] w fun e w' => (∃ (y : Op) (Yr : Option Addr) (yr : Nat), e = .returned (.tuple #[valOf y Ag cg Af cf Yr yr, .bool b]) ∧ (∀ y', turned x ⟨k, z⟩ = some y' → y' = y) ∧ Parts w0 y Ag cg Af cf Yr yr) ∧ Below w.heap.size w w' := by
  rcases hk with rfl | rfl | rfl
  · have ht : turned x ⟨2, z⟩ = if x.st = 1 then some { x with st := 2 } else none := rfl
    refine (turned2_any x z Ag cg Af cf Ar cr Eg eg Ef ef Er er w).mono ?_
    rintro e w' ⟨h, hw⟩
    refine ⟨⟨{ x with st := 2 }, Ar, cr, ?_, fun y' h' => ?_, ⟨hp.g, hp.f, hp.r, hp.gc, hp.fc, hp.rc⟩⟩, hw⟩
    · rw [h, ← hb, ht]
      by_cases hs : x.st = 1 <;> simp [hs]
    · rw [ht] at h'
      by_cases hs : x.st = 1
      · rw [if_pos hs] at h'; injection h' with h'; exact h'.symm
      · rw [if_neg hs] at h'; cases h'
  · have ht : turned x ⟨3, z⟩ = if x.st = 2 then some { x with st := 3, r := z.r } else none := rfl
    refine (turned3_any x z Ag cg Af cf Ar cr Eg eg Ef ef Er er w).mono ?_
    rintro e w' ⟨h, hw⟩
    refine ⟨⟨{ x with st := 3, r := z.r }, Er, er, ?_, fun y' h' => ?_, ⟨hp.g, hp.f, hq.r, hp.gc, hp.fc, hq.rc⟩⟩, hw⟩
    · rw [h, ← hb, ht]
      by_cases hs : x.st = 2 <;> simp [hs]
    · rw [ht] at h'
      by_cases hs : x.st = 2
      · rw [if_pos hs] at h'; injection h' with h'; exact h'.symm
      · rw [if_neg hs] at h'; cases h'
  · have ht : turned x ⟨4, z⟩ = if x.st = 3 then none else some { x with st := 4 } := rfl
    refine (turned4_any x z Ag cg Af cf Ar cr Eg eg Ef ef Er er w).mono ?_
    rintro e w' ⟨h, hw⟩
    refine ⟨⟨{ x with st := 4 }, Ar, cr, ?_, fun y' h' => ?_, ⟨hp.g, hp.f, hp.r, hp.gc, hp.fc, hp.rc⟩⟩, hw⟩
    · rw [h, ← hb, ht]
      by_cases hs : x.st = 3 <;> simp [hs]
    · rw [ht] at h'
      by_cases hs : x.st = 3
      · rw [if_pos hs] at h'; cases h'
      · rw [if_neg hs] at h'; injection h' with h'; exact h'.symm
end Go.Proofs.YtifiipmmgnmciaaGreatDoor.Ops
/- OpSet, what a claim needs of it (prune.py). -/
namespace Go.Proofs.YtifiipmmgnmciaaGreatDoor.Ops
open Go.RowKit
set_option linter.unusedVariables false
set_option maxRecDepth 100000
theorem set_run : ∀ (ds xs : List Value) (a : Nat), a + ds.length ≤ xs.length → (ds.foldl (fun (p : List Value × Nat) d => (p.1.set p.2 d, p.2 + 1)) (xs, a)).1 = xs.take a ++ ds ++ xs.drop (a + ds.length)
  | [], xs, a, h => by simp
  | d :: ds, xs, a, h => by
    rw [List.foldl_cons, set_run ds (xs.set a d) (a + 1) (by simp at h ⊢; omega)]
    have h1 : a < xs.length := by simp at h; omega
    have e1 : (xs.set a d).take (a + 1) = xs.take a ++ [d] := by
      rw [List.set_eq_take_append_cons_drop, if_pos h1, List.take_append, List.length_take, Nat.min_eq_left (Nat.le_of_lt h1), List.take_of_length_le (l := xs.take a) (by simp; omega), show a + 1 - a = 1 by omega]
      rfl
    have e2 : (xs.set a d).drop (a + 1 + ds.length) = xs.drop (a + (d :: ds).length) := by
      rw [List.drop_set, if_pos (by omega), List.length_cons, show a + 1 + ds.length = a + (ds.length + 1) by omega]
    rw [e1, e2, List.append_assoc, List.append_assoc, List.append_assoc]
    rfl
theorem own9 {w : World} {B n cap g : Nat} {xs : List Value} {T : TypeId} (h : w.ownsRow B T 9 (.slice (some ⟨g, 0, none⟩) n cap) n xs) {i : Nat} (hi : i < n) (d0 d1 d2 d3 d4 d5 d6 d7 d8 : Value) :
    (((((((((w.setCell ⟨g, i * 9, none⟩ d0).setCell ⟨g, i * 9 + 1, none⟩ d1).setCell ⟨g, i * 9 + 2, none⟩ d2).setCell ⟨g, i * 9 + 3, none⟩ d3).setCell ⟨g, i * 9 + 4, none⟩ d4).setCell ⟨g, i * 9 + 5, none⟩ d5).setCell ⟨g, i * 9 + 6, none⟩ d6).setCell ⟨g, i * 9 + 7, none⟩ d7).setCell ⟨g, i * 9 + 8, none⟩ d8).ownsRow B T 9 (.slice (some ⟨g, 0, none⟩) n cap) n
      (xs.take (i * 9) ++ [d0, d1, d2, d3, d4, d5, d6, d7, d8] ++ xs.drop (i * 9 + 9)) := by
  have hl : xs.length = n * 9 := h.1
  have e := set_run [d0, d1, d2, d3, d4, d5, d6, d7, d8] xs (i * 9) (by simp; omega)
  simp only [List.foldl_cons, List.foldl_nil, List.length_cons, List.length_nil] at e
  rw [show xs.drop (i * 9 + 9) = xs.drop (i * 9 + (0 + 1 + 1 + 1 + 1 + 1 + 1 + 1 + 1 + 1)) from rfl, ← e]
  have q0 := own_set h (j := i * 9) (by omega) d0
  have q1 := own_set q0 (j := i * 9 + 1) (by omega) d1
  have q2 := own_set q1 (j := i * 9 + 2) (by omega) d2
  have q3 := own_set q2 (j := i * 9 + 3) (by omega) d3
  have q4 := own_set q3 (j := i * 9 + 4) (by omega) d4
  have q5 := own_set q4 (j := i * 9 + 5) (by omega) d5
  have q6 := own_set q5 (j := i * 9 + 6) (by omega) d6
  have q7 := own_set q6 (j := i * 9 + 7) (by omega) d7
  exact own_set q7 (j := i * 9 + 8) (by omega) d8
end Go.Proofs.YtifiipmmgnmciaaGreatDoor.Ops
