/- Joined by mkmerged.py: OpSubmit, OpTurned, OpSet. -/
import Derived.Test.YtmlaolmaopjhbaaGreatDoorMi24
import Derived.BigQuiet
import Derived.Deep.RegionHeld3
import Derived.Deep.CutRange
/- OpSubmit, what a claim needs of it (prune.py). -/
namespace Go.Proofs.YtmlaolmaopjhbaaGreatDoor.Ops
open Go.RowKit
set_option linter.unusedVariables false
set_option maxRecDepth 100000
theorem submit_wrong {l : List Op} {x : Op} (h : wrongV x.n x.gr x.sn x.go ≠ 0) : submit wrongV orderB l x = ([], wrongV x.n x.gr x.sn x.go) := if_pos h
theorem submit_there {l : List Op} {x o : Op} (h : wrongV x.n x.gr x.sn x.go = 0) (hf : find l x.n = some o) (ho : orderB o.gr o.sn o.go = orderB x.gr x.sn x.go) : submit wrongV orderB l x = (l, 0) := by
  unfold submit; rw [if_neg (by intro k; exact k h), hf]; exact if_pos ho
theorem submit_other {l : List Op} {x o : Op} (h : wrongV x.n x.gr x.sn x.go = 0) (hf : find l x.n = some o) (ho : ¬ orderB o.gr o.sn o.go = orderB x.gr x.sn x.go) : submit wrongV orderB l x = ([], 42) := by
  unfold submit; rw [if_neg (by intro k; exact k h), hf]; exact if_neg ho
theorem submit_full {l : List Op} {x : Op} (h : wrongV x.n x.gr x.sn x.go = 0) (hf : find l x.n = none) (hl : 16 ≤ l.length) : submit wrongV orderB l x = ([], 41) := by
  unfold submit; rw [if_neg (by intro k; exact k h), hf]; exact if_pos hl
theorem submit_more {l : List Op} {x : Op} (h : wrongV x.n x.gr x.sn x.go = 0) (hf : find l x.n = none) (hl : ¬ 16 ≤ l.length) : submit wrongV orderB l x = (l ++ [fresh x], 0) := by
  unfold submit; rw [if_neg (by intro k; exact k h), hf]; exact if_neg hl
theorem find_in (A : Option Addr) (l : List Op) (c : Nat) (s : ByteArray) (w : World) (hr : Ops w A l) (hl : l.length ≤ 1000000000) {b : Bool} {x : Op} (hb : (find l s).isSome = b) (hx : (find l s).getD zeroO = x) :
    Calls Tryz.prog 146 #[.slice A l.length c, .string s] w fun e w' => (∃ (Og : Option Addr) (og : Nat) (Of : Option Addr) (of : Nat) (Or : Option Addr) (or_ : Nat), e = .returned (.tuple #[.agg #[.string x.n, .slice Og x.gr.length og, .slice Of x.sn.length of, .string x.go, .int .i64 x.st, .int .i64 x.r.e, .string x.r.at_, .string x.r.tx, .slice Or x.r.fs.length or_], .bool b]) ∧ Parts w x Og og Of of Or or_) ∧ Below w.heap.size w w' := by
  refine (find_any A l c s w w hr (Below.refl _ _) hl).mono ?_
  rintro e w' ⟨⟨o, Ag, cg, Af, cf, Ar, cr, h1, h2, h3⟩, hw⟩
  obtain rfl : o = x := h2.trans hx
  rw [hb] at h1
  exact ⟨⟨Ag, cg, Af, cf, Ar, cr, h1, h3⟩, hw⟩
theorem fresh_set {w : World} {b : Nat} {x : Op} {Ag : Option Addr} {cg : Nat} {Af : Option Addr} {cf : Nat} {Ar : Option Addr} {cr : Nat} {T : TypeId} (h : w.heap[b]? = some (.cells #[.string x.n, .slice Ag x.gr.length cg, .slice Af x.sn.length cf, .string x.go, .int .i64 x.st, .int .i64 x.r.e, .string x.r.at_, .string x.r.tx, .slice Ar x.r.fs.length cr] T (0, 0))) :
    (((((w.setCell ⟨b, 4, none⟩ (.int .i64 1)).setCell ⟨b, 5, none⟩ (.int .i64 0)).setCell ⟨b, 6, none⟩ (.string ⟨#[]⟩)).setCell ⟨b, 7, none⟩ (.string ⟨#[]⟩)).setCell ⟨b, 8, none⟩ (.slice none 0 0)).heap[b]? = some (.cells #[.string x.n, .slice Ag x.gr.length cg, .slice Af x.sn.length cf, .string x.go, .int .i64 1, .int .i64 0, .string ⟨#[]⟩, .string ⟨#[]⟩, .slice none 0 0] T (0, 0)) :=
  heap_setCell_same _ _ 8 _ _ _ (heap_setCell_same _ _ 7 _ _ _ (heap_setCell_same _ _ 6 _ _ _ (heap_setCell_same _ _ 5 _ _ _ (heap_setCell_same _ _ 4 _ _ _ h))))
theorem fresh_below {w0 w : World} {B b : Nat} (h : Below B w0 w) (hb : B ≤ b) : Below B w0 (((((w.setCell ⟨b, 4, none⟩ (.int .i64 1)).setCell ⟨b, 5, none⟩ (.int .i64 0)).setCell ⟨b, 6, none⟩ (.string ⟨#[]⟩)).setCell ⟨b, 7, none⟩ (.string ⟨#[]⟩)).setCell ⟨b, 8, none⟩ (.slice none 0 0)) := ((((h.setCell hb _).setCell hb _).setCell hb _).setCell hb _).setCell hb _
theorem app_belowO {W1 w1 w2 : World} {v1 : Value} {n : Nat} {xs : List Value} (hb : Below W1.heap.size W1 w1) (ho : w1.ownsRow W1.heap.size 32 9 v1 n xs) (hg : w1.grownBy w2 v1.ownBlock) : Below W1.heap.size W1 w2 :=
  hb.grown hg hb.size (fun j hj => by
    rcases ho.2 with ⟨rfl, _⟩ | ⟨g, cap, cur, rfl, hgB, _⟩
    · simp [Value.ownBlock] at hj
    · have : g = j := by simpa [Value.ownBlock] using hj
      omega)
theorem own_sliceO {w : World} {base : Nat} {v : Value} {n : Nat} {xs : List Value} (h : w.ownsRow base 32 9 v n xs) : ∃ A cap, v = .slice A n cap ∧ n ≤ cap := by
  rcases h.2 with ⟨rfl, rfl⟩ | ⟨g, cap, cur, rfl, _, _, h1, _⟩
  · exact ⟨_, _, rfl, Nat.le_refl _⟩
  · exact ⟨_, _, rfl, h1⟩
theorem own_baseO {w : World} {B B' : Nat} {v : Value} {n : Nat} {xs : List Value} (hown : w.ownsRow B 32 9 v n xs) (hB : B' ≤ B) : w.ownsRow B' 32 9 v n xs := by
  refine ⟨hown.1, ?_⟩
  rcases hown.2 with h0 | ⟨g, cap, cur, hv, hg, hcc⟩
  · exact .inl h0
  · exact .inr ⟨g, cap, cur, hv, Nat.le_trans hB hg, hcc⟩
theorem more_fin {w w2 : World} {A2 : Option Addr} {c2 B : Nat} {l : List Op} {x : Op} {cs : List Value} {Ag : Option Addr} {cg : Nat} {Af : Option Addr} {cf : Nat} (hb : Below w.heap.size w w2) (hv : OVs w l cs) (hg : Tgs w w.heap.size Ag x.gr) (hf : Fs.Fls w Af x.sn) (hgc : x.gr.length ≤ cg) (hfc : x.sn.length ≤ cf) (hc : l.length + 1 ≤ c2)
    (ho : w2.ownsRow B 32 9 (.slice A2 (l.length + 1) c2) (l.length + 1) (cs ++ cellsOf (fresh x) Ag cg Af cf none 0)) : ApplySays (l ++ [fresh x]) 0 w (.returned (.tuple #[.slice A2 (l.length + 1) c2, .int .i64 0])) w2 := by
  have e : (l ++ [fresh x]).length = l.length + 1 := by simp
  refine ⟨⟨A2, c2, by rw [e], by rw [e]; exact hc, cs ++ cellsOf (fresh x) Ag cg Af cf none 0, OVs.app (hv.below hb) (OVs.one ⟨Ag, cg, Af, cf, none, 0, rfl, ?_⟩), by rw [e]; exact Reads.of_own ho⟩, hb⟩
  exact Parts.below ⟨hg, hf, Reads.none_, hgc, hfc, Nat.le_refl _⟩ hb
set_option maxHeartbeats 8000000 in
theorem submit_any (A : Option Addr) (l : List Op) (c : Nat) (x : Op) (Ag : Option Addr) (cg : Nat) (Af : Option Addr) (cf : Nat) (Ar : Option Addr) (cr : Nat) (w : World) (hE : Lg.Env w) (hl : ∀ y ∈ l, OkO y) (hx : OkO x) (hr : Ops w A l) (hll : l.length ≤ 1000) (hlc : l.length ≤ c) (hp : Parts w x Ag cg Af cf Ar cr) :
    Calls Tryz.prog 76 #[.slice A l.length c, valOf x Ag cg Af cf Ar cr] w (ApplySays (submit wrongV orderB l x).1 (submit wrongV orderB l x).2 w) := by
  obtain ⟨W1, eW⟩ : ∃ W1, W1 = w.alloc (.cells #[.string x.n, .slice Ag x.gr.length cg, .slice Af x.sn.length cf, .string x.go, .int .i64 x.st, .int .i64 x.r.e, .string x.r.at_, .string x.r.tx, .slice Ar x.r.fs.length cr] 32) := ⟨_, rfl⟩
  have hb1 : Below w.heap.size w W1 := by rw [eW]; exact (Below.refl _ _).alloc (Nat.le_refl _) _
  have k0 : W1.heap[w.heap.size]? = some (.cells #[.string x.n, .slice Ag x.gr.length cg, .slice Af x.sn.length cf, .string x.go, .int .i64 x.st, .int .i64 x.r.e, .string x.r.at_, .string x.r.tx, .slice Ar x.r.fs.length cr] 32 (0, 0)) := by rw [eW]; exact heap_alloc_new w _
  have BW : Hid (∀ W, Below W1.heap.size W1 W → Below w.heap.size w W) := Lib.hid fun W hW => hb1.trans (hW.mono hb1.size)
  have KX : Hid (∀ W, Below W1.heap.size W1 W → W.heap[w.heap.size]? = some (.cells #[.string x.n, .slice Ag x.gr.length cg, .slice Af x.sn.length cf, .string x.go, .int .i64 x.st, .int .i64 x.r.e, .string x.r.at_, .string x.r.tx, .slice Ar x.r.fs.length cr] 32 (0, 0))) := Lib.hid fun W hW => (hW.block _ (Lg.lt_heap k0)).trans k0
  have WR : Hid (Calls Tryz.prog 145 #[.agg #[.string x.n, .slice Ag x.gr.length cg, .slice Af x.sn.length cf, .string x.go, .int .i64 x.st, .int .i64 x.r.e, .string x.r.at_, .string x.r.tx, .slice Ar x.r.fs.length cr]] W1 fun e w' => e = .returned (.int .i64 (wrongV x.n x.gr x.sn x.go)) ∧ Below W1.heap.size W1 w') := Lib.hid (wrong_any x Ag cg Af cf Ar cr W1 (hE.below hb1) hx (hp.below hb1))
  obtain ⟨d0, d1, d2, d3, d4, d5, d6, d7, d8, _⟩ := nine k0
  have W0 := Lib.hid (@submit_wrong l x)
  have HF := Lib.hid (fun b o (hb : (find l x.n).isSome = b) (ho : (find l x.n).getD zeroO = o) W (hW : Below W1.heap.size W1 W) => find_in A l c x.n W (hr.below (BW.out _ hW)) (by omega) hb ho)
  have HL := Lib.hid hl
  have HX := Lib.hid hx
  have HP := Lib.hid hp
  have HR := Lib.hid hr
  have HE := Lib.hid hE
  have hB1 := Lib.hid hb1
  clear hE hl hx hr hp k0 hb1
  unfold valOf
  by_cases hw : wrongV x.n x.gr x.sn x.go = 0
  · cases hf : find l x.n with
    | some o =>
      have FD := Lib.hid (HF.out true o (by rw [hf]; rfl) (by rw [hf]; rfl))
      have HO := Lib.hid (HL.out o (find_some hf).1)
      clear HF
      by_cases ho : orderB o.gr o.sn o.go = orderB x.gr x.sn x.go
      · rw [submit_there hw hf ho]
        have eo : ((orderB o.gr o.sn o.go).toList == (orderB x.gr x.sn x.go).toList) = true := by rw [ho]; simp
        have WR : Hid (Calls Tryz.prog 145 #[.agg #[.string x.n, .slice Ag x.gr.length cg, .slice Af x.sn.length cf, .string x.go, .int .i64 x.st, .int .i64 x.r.e, .string x.r.at_, .string x.r.tx, .slice Ar x.r.fs.length cr]] W1 fun e w' => e = .returned (.int .i64 0) ∧ Below W1.heap.size W1 w') := Lib.hid (by have := WR.out; rw [hw] at this; exact this)
        clear W0 ho hf hw
        go_enter Tryz.func76, Tryz.ntmps76
        go_wp2_with (first | (go_at_call 145; rw [← eW]; clear eW; (with_reducible refine (WR.out).mono ?_); rintro e w1 ⟨rfl, hb⟩; obtain ⟨x0, x1, x2, x3, x4, x5, x6, x7, x8, _⟩ := nine (KX.out _ hb)) | (go_at_call 146; (with_reducible refine (FD.out _ hb).mono ?_); rintro e w2 ⟨⟨Og, og, Of, of, Or, or_, rfl, hop⟩, hb2'⟩; have hb2 := hb.trans (hb2'.mono hb.size); have HOP := Lib.hid (hop.below hb2'); clear hop))
        generalize e4 : w2.alloc (.cells #[.string o.n, .slice Og o.gr.length og, .slice Of o.sn.length of, .string o.go, .int .i64 o.st, .int .i64 o.r.e, .string o.r.at_, .string o.r.tx, .slice Or o.r.fs.length or_] 32) = W4
        have hb4 : Below W1.heap.size W1 W4 := by rw [← e4]; exact hb2.alloc hb2.size _
        have k4 : W4.heap[w2.heap.size]? = some (.cells #[.string o.n, .slice Og o.gr.length og, .slice Of o.sn.length of, .string o.go, .int .i64 o.st, .int .i64 o.r.e, .string o.r.at_, .string o.r.tx, .slice Or o.r.fs.length or_] 32 (0, 0)) := by rw [← e4]; exact heap_alloc_new w2 _
        have k5 := KX.out _ hb4
        have D0 := at_put3 k5 0 rfl
        have D1 := at_put3 k5 1 rfl
        have D2 := at_put3 k5 2 rfl
        have D3 := at_put3 k5 3 rfl
        have D4 := at_put3 k5 4 rfl
        have D5 := at_put3 k5 5 rfl
        have D6 := at_put3 k5 6 rfl
        have D7 := at_put3 k5 7 rfl
        have D8 := at_put3 k5 8 rfl
        have E0 := at_put3 k4 0 rfl
        have E1 := at_put3 k4 1 rfl
        have E2 := at_put3 k4 2 rfl
        have E3 := at_put3 k4 3 rfl
        have E4 := at_put3 k4 4 rfl
        have E5 := at_put3 k4 5 rfl
        have E6 := at_put3 k4 6 rfl
        have E7 := at_put3 k4 7 rfl
        have E8 := at_put3 k4 8 rfl
        have BV : Hid (∀ W, Below W4.heap.size W4 W → Below w.heap.size w W) := Lib.hid fun W hW => BW.out _ (hb4.trans (hW.mono hb4.size))
        have P4 : Parts W4 o Og og Of of Or or_ := by rw [← e4]; exact HOP.out.below ((Below.refl _ _).alloc (Nat.le_refl _) _)
        have KO : Hid (∀ W, Below W4.heap.size W4 W → Calls Tryz.prog 147 #[.agg #[.string o.n, .slice Og o.gr.length og, .slice Of o.sn.length of, .string o.go, .int .i64 o.st, .int .i64 o.r.e, .string o.r.at_, .string o.r.tx, .slice Or o.r.fs.length or_]] W fun e w' => e = .returned (.string (orderB o.gr o.sn o.go)) ∧ Below W.heap.size W w') := Lib.hid fun W hW => order_any o Og og Of of Or or_ W ((show Tab w from HE.out.2.1).on (BV.out _ hW)) HO.out (P4.below hW)
        have KY : Hid (∀ W, Below W4.heap.size W4 W → Calls Tryz.prog 147 #[.agg #[.string x.n, .slice Ag x.gr.length cg, .slice Af x.sn.length cf, .string x.go, .int .i64 x.st, .int .i64 x.r.e, .string x.r.at_, .string x.r.tx, .slice Ar x.r.fs.length cr]] W fun e w' => e = .returned (.string (orderB x.gr x.sn x.go)) ∧ Below W.heap.size W w') := Lib.hid fun W hW => order_any x Ag cg Af cf Ar cr W ((show Tab w from HE.out.2.1).on (BV.out _ hW)) HX.out (HP.out.below (BV.out _ hW))
        clear e4 k4 k5 P4 d0 d1 d2 d3 d4 d5 d6 d7 d8 x0 x1 x2 x3 x4 x5 x6 x7 x8
        generalize orderB o.gr o.sn o.go = go1 at *
        generalize orderB x.gr x.sn x.go = go2 at *
        refine wp_region_cls (C := fun w' => Below W4.heap.size W4 w') (by kernel_rfl) (by kernel_rfl) (Below.refl _ _).drew ?_
        repeat (first | go_big_quiet_skip | quiet_step (first | (intro _; rfl) | (intro hss; simp only [D0 _ hss, D1 _ hss, D2 _ hss, D3 _ hss, D4 _ hss, D5 _ hss, D6 _ hss, D7 _ hss, D8 _ hss, E0 _ hss, E1 _ hss, E2 _ hss, E3 _ hss, E4 _ hss, E5 _ hss, E6 _ hss, E7 _ hss, E8 _ hss, Result.andThen]; first | exact ⟨rfl, rfl⟩ | exact ⟨trivial, rfl⟩ | exact rfl) | (intro hss; go_at_call 147; first | ((with_reducible refine (KO.out _ hss).mono ?_); rintro e w4 ⟨rfl, hb4⟩; exact ⟨rfl, hss.trans (hb4.mono hss.size)⟩) | ((with_reducible refine (KY.out _ hss).mono ?_); rintro e w4 ⟨rfl, hb4⟩; exact ⟨rfl, hss.trans (hb4.mono hss.size)⟩))))
        refine wpQuiet_nil ?_
        intro w5 hb5
        go_wp2
        go_ret2
        exact ⟨⟨A, c, rfl, hlc, HR.out.below (BV.out _ hb5)⟩, BV.out _ hb5⟩
      · rw [submit_other hw hf ho]
        have eo := Lg.s_ne ho
        have WR : Hid (Calls Tryz.prog 145 #[.agg #[.string x.n, .slice Ag x.gr.length cg, .slice Af x.sn.length cf, .string x.go, .int .i64 x.st, .int .i64 x.r.e, .string x.r.at_, .string x.r.tx, .slice Ar x.r.fs.length cr]] W1 fun e w' => e = .returned (.int .i64 0) ∧ Below W1.heap.size W1 w') := Lib.hid (by have := WR.out; rw [hw] at this; exact this)
        clear W0 ho hf hw
        go_enter Tryz.func76, Tryz.ntmps76
        go_wp2_with (first | (go_at_call 145; rw [← eW]; clear eW; (with_reducible refine (WR.out).mono ?_); rintro e w1 ⟨rfl, hb⟩; obtain ⟨x0, x1, x2, x3, x4, x5, x6, x7, x8, _⟩ := nine (KX.out _ hb)) | (go_at_call 146; (with_reducible refine (FD.out _ hb).mono ?_); rintro e w2 ⟨⟨Og, og, Of, of, Or, or_, rfl, hop⟩, hb2'⟩; have hb2 := hb.trans (hb2'.mono hb.size); have HOP := Lib.hid (hop.below hb2'); clear hop))
        generalize e4 : w2.alloc (.cells #[.string o.n, .slice Og o.gr.length og, .slice Of o.sn.length of, .string o.go, .int .i64 o.st, .int .i64 o.r.e, .string o.r.at_, .string o.r.tx, .slice Or o.r.fs.length or_] 32) = W4
        have hb4 : Below W1.heap.size W1 W4 := by rw [← e4]; exact hb2.alloc hb2.size _
        have k4 : W4.heap[w2.heap.size]? = some (.cells #[.string o.n, .slice Og o.gr.length og, .slice Of o.sn.length of, .string o.go, .int .i64 o.st, .int .i64 o.r.e, .string o.r.at_, .string o.r.tx, .slice Or o.r.fs.length or_] 32 (0, 0)) := by rw [← e4]; exact heap_alloc_new w2 _
        have k5 := KX.out _ hb4
        have D0 := at_put3 k5 0 rfl
        have D1 := at_put3 k5 1 rfl
        have D2 := at_put3 k5 2 rfl
        have D3 := at_put3 k5 3 rfl
        have D4 := at_put3 k5 4 rfl
        have D5 := at_put3 k5 5 rfl
        have D6 := at_put3 k5 6 rfl
        have D7 := at_put3 k5 7 rfl
        have D8 := at_put3 k5 8 rfl
        have E0 := at_put3 k4 0 rfl
        have E1 := at_put3 k4 1 rfl
        have E2 := at_put3 k4 2 rfl
        have E3 := at_put3 k4 3 rfl
        have E4 := at_put3 k4 4 rfl
        have E5 := at_put3 k4 5 rfl
        have E6 := at_put3 k4 6 rfl
        have E7 := at_put3 k4 7 rfl
        have E8 := at_put3 k4 8 rfl
        have BV : Hid (∀ W, Below W4.heap.size W4 W → Below w.heap.size w W) := Lib.hid fun W hW => BW.out _ (hb4.trans (hW.mono hb4.size))
        have P4 : Parts W4 o Og og Of of Or or_ := by rw [← e4]; exact HOP.out.below ((Below.refl _ _).alloc (Nat.le_refl _) _)
        have KO : Hid (∀ W, Below W4.heap.size W4 W → Calls Tryz.prog 147 #[.agg #[.string o.n, .slice Og o.gr.length og, .slice Of o.sn.length of, .string o.go, .int .i64 o.st, .int .i64 o.r.e, .string o.r.at_, .string o.r.tx, .slice Or o.r.fs.length or_]] W fun e w' => e = .returned (.string (orderB o.gr o.sn o.go)) ∧ Below W.heap.size W w') := Lib.hid fun W hW => order_any o Og og Of of Or or_ W ((show Tab w from HE.out.2.1).on (BV.out _ hW)) HO.out (P4.below hW)
        have KY : Hid (∀ W, Below W4.heap.size W4 W → Calls Tryz.prog 147 #[.agg #[.string x.n, .slice Ag x.gr.length cg, .slice Af x.sn.length cf, .string x.go, .int .i64 x.st, .int .i64 x.r.e, .string x.r.at_, .string x.r.tx, .slice Ar x.r.fs.length cr]] W fun e w' => e = .returned (.string (orderB x.gr x.sn x.go)) ∧ Below W.heap.size W w') := Lib.hid fun W hW => order_any x Ag cg Af cf Ar cr W ((show Tab w from HE.out.2.1).on (BV.out _ hW)) HX.out (HP.out.below (BV.out _ hW))
        clear e4 k4 k5 P4 d0 d1 d2 d3 d4 d5 d6 d7 d8 x0 x1 x2 x3 x4 x5 x6 x7 x8
        generalize orderB o.gr o.sn o.go = go1 at *
        generalize orderB x.gr x.sn x.go = go2 at *
        refine wp_region_cls (C := fun w' => Below W4.heap.size W4 w') (by kernel_rfl) (by kernel_rfl) (Below.refl _ _).drew ?_
        repeat (first | go_big_quiet_skip | quiet_step (first | (intro _; rfl) | (intro hss; simp only [D0 _ hss, D1 _ hss, D2 _ hss, D3 _ hss, D4 _ hss, D5 _ hss, D6 _ hss, D7 _ hss, D8 _ hss, E0 _ hss, E1 _ hss, E2 _ hss, E3 _ hss, E4 _ hss, E5 _ hss, E6 _ hss, E7 _ hss, E8 _ hss, Result.andThen]; first | exact ⟨rfl, rfl⟩ | exact ⟨trivial, rfl⟩ | exact rfl) | (intro hss; go_at_call 147; first | ((with_reducible refine (KO.out _ hss).mono ?_); rintro e w4 ⟨rfl, hb4⟩; exact ⟨rfl, hss.trans (hb4.mono hss.size)⟩) | ((with_reducible refine (KY.out _ hss).mono ?_); rintro e w4 ⟨rfl, hb4⟩; exact ⟨rfl, hss.trans (hb4.mono hss.size)⟩))))
        refine wpQuiet_nil ?_
        intro w5 hb5
        go_wp2
        go_ret2
        exact ApplySays.none_ rfl (BV.out _ hb5)
    | none =>
      have FD := Lib.hid (HF.out false zeroO (by rw [hf]; rfl) (by rw [hf]; rfl))
      clear HF
      by_cases h16 : 16 ≤ l.length
      · rw [submit_full hw hf h16]
        have i16 : ((l.length : Int) ≥ 16) := by omega
        have WR : Hid (Calls Tryz.prog 145 #[.agg #[.string x.n, .slice Ag x.gr.length cg, .slice Af x.sn.length cf, .string x.go, .int .i64 x.st, .int .i64 x.r.e, .string x.r.at_, .string x.r.tx, .slice Ar x.r.fs.length cr]] W1 fun e w' => e = .returned (.int .i64 0) ∧ Below W1.heap.size W1 w') := Lib.hid (by have := WR.out; rw [hw] at this; exact this)
        clear W0 hf hw
        unfold zeroO zeroR at FD
        go_enter Tryz.func76, Tryz.ntmps76
        go_wp2_with (first | (go_at_call 145; rw [← eW]; clear eW; (with_reducible refine (WR.out).mono ?_); rintro e w1 ⟨rfl, hb⟩; obtain ⟨x0, x1, x2, x3, x4, x5, x6, x7, x8, _⟩ := nine (KX.out _ hb)) | (go_at_call 146; (with_reducible refine (FD.out _ hb).mono ?_); rintro e w2 ⟨⟨Og, og, Of, of, Or, or_, rfl, hop⟩, hb2'⟩; have hb2 := hb.trans (hb2'.mono hb.size); have HOP := Lib.hid (hop.below hb2'); clear hop))
        generalize e4 : w2.alloc (.cells #[.string ⟨#[]⟩, .slice Og 0 og, .slice Of 0 of, .string ⟨#[]⟩, .int .i64 0, .int .i64 0, .string ⟨#[]⟩, .string ⟨#[]⟩, .slice Or 0 or_] 32) = W4
        have hb4 : Below W1.heap.size W1 W4 := by rw [← e4]; exact hb2.alloc hb2.size _
        have k5 := KX.out _ hb4
        clear e4 d0 d1 d2 d3 d4 d5 d6 d7 d8 x0 x1 x2 x3 x4 x5 x6 x7 x8
        go_quiet (fail)
        generalize hW : W4.drewN _ = W5
        have hb5 : Below W1.heap.size W1 W5 := by rw [← hW]; exact belowDN hb4 _
        have k6 := KX.out _ hb5
        clear k5 hW
        go_wp2_with (fail)
        go_ret2
        exact ApplySays.none_ rfl (BW.out _ hb5)
      · rw [submit_more hw hf h16]
        have i16 : ¬ ((l.length : Int) ≥ 16) := by omega
        have WR : Hid (Calls Tryz.prog 145 #[.agg #[.string x.n, .slice Ag x.gr.length cg, .slice Af x.sn.length cf, .string x.go, .int .i64 x.st, .int .i64 x.r.e, .string x.r.at_, .string x.r.tx, .slice Ar x.r.fs.length cr]] W1 fun e w' => e = .returned (.int .i64 0) ∧ Below W1.heap.size W1 w') := Lib.hid (by have := WR.out; rw [hw] at this; exact this)
        clear W0 hf hw
        unfold zeroO zeroR at FD
        go_enter Tryz.func76, Tryz.ntmps76
        go_wp2_with (first | (go_at_call 145; rw [← eW]; clear eW; (with_reducible refine (WR.out).mono ?_); rintro e w1 ⟨rfl, hb⟩; obtain ⟨x0, x1, x2, x3, x4, x5, x6, x7, x8, _⟩ := nine (KX.out _ hb)) | (go_at_call 146; (with_reducible refine (FD.out _ hb).mono ?_); rintro e w2 ⟨⟨Og, og, Of, of, Or, or_, rfl, hop⟩, hb2'⟩; have hb2 := hb.trans (hb2'.mono hb.size); have HOP := Lib.hid (hop.below hb2'); clear hop))
        generalize e4 : w2.alloc (.cells #[.string ⟨#[]⟩, .slice Og 0 og, .slice Of 0 of, .string ⟨#[]⟩, .int .i64 0, .int .i64 0, .string ⟨#[]⟩, .string ⟨#[]⟩, .slice Or 0 or_] 32) = W4
        have hb4 : Below W1.heap.size W1 W4 := by rw [← e4]; exact hb2.alloc hb2.size _
        have k5 := KX.out _ hb4
        clear e4 d0 d1 d2 d3 d4 d5 d6 d7 d8 x0 x1 x2 x3 x4 x5 x6 x7 x8
        go_quiet (fail)
        generalize hW : W4.drewN _ = W5
        have hb5 : Below W1.heap.size W1 W5 := by rw [← hW]; exact belowDN hb4 _
        have k6 := KX.out _ hb5
        clear k5 hW
        obtain ⟨x0, x1, x2, x3, x4, x5, x6, x7, x8, f0, f1, f2, f3, f4, f5, f6, f7, f8⟩ := nine k6
        go_wp2_with (fail)
        generalize e6 : ((((W5.setCell ⟨w.heap.size, 4, none⟩ (.int .i64 1)).setCell ⟨w.heap.size, 5, none⟩ (.int .i64 0)).setCell ⟨w.heap.size, 6, none⟩ (.string ⟨#[]⟩)).setCell ⟨w.heap.size, 7, none⟩ (.string ⟨#[]⟩)).setCell ⟨w.heap.size, 8, none⟩ (.slice none 0 0) = W6
        have hb6 : Below w.heap.size w W6 := by rw [← e6]; exact fresh_below (BW.out _ hb5) (Nat.le_refl _)
        have k7 : W6.heap[w.heap.size]? = some (.cells #[.string x.n, .slice Ag x.gr.length cg, .slice Af x.sn.length cf, .string x.go, .int .i64 1, .int .i64 0, .string ⟨#[]⟩, .string ⟨#[]⟩, .slice none 0 0] 32 (0, 0)) := by rw [← e6]; exact fresh_set k6
        obtain ⟨z, hzi, hzs⟩ := infoO
        obtain ⟨i0, hi, hz0, hz1, hz2⟩ := Lg.info_parts hzi
        have BZ : Hid (∀ W, Below W6.heap.size W6 W → Below w.heap.size w W) := Lib.hid fun W hW => hb6.trans (hW.mono hb6.size)
        have CL : Hid (∀ W, Below W6.heap.size W6 W → Calls Tryz.prog 37 #[.slice A l.length c] W fun e w' => ∃ v cs, e = .returned v ∧ w'.ownsRow W6.heap.size 32 9 v l.length cs ∧ OVs w l cs ∧ Below W6.heap.size W6 w' ∧ Below W.heap.size W w') := Lib.hid fun W hW => by
          refine (clone_from A l c w W HR.out (BZ.out _ hW) (by omega)).mono ?_
          rintro e w' ⟨⟨v, cs, h1, h2, h3⟩, h4⟩
          exact ⟨v, cs, h1, own_baseO h2 hW.size, h3, hW.trans (h4.mono hW.size), h4⟩
        have SX : Hid (∀ w', Below W6.heap.size W6 w' → w'.cell? ⟨w.heap.size, 0, none⟩ = some (.string x.n) ∧ w'.cell? ⟨w.heap.size, 1, none⟩ = some (.slice Ag x.gr.length cg) ∧ w'.cell? ⟨w.heap.size, 2, none⟩ = some (.slice Af x.sn.length cf) ∧ w'.cell? ⟨w.heap.size, 3, none⟩ = some (.string x.go) ∧ w'.cell? ⟨w.heap.size, 4, none⟩ = some (.int .i64 1) ∧ w'.cell? ⟨w.heap.size, 5, none⟩ = some (.int .i64 0) ∧ w'.cell? ⟨w.heap.size, 6, none⟩ = some (.string ⟨#[]⟩) ∧ w'.cell? ⟨w.heap.size, 7, none⟩ = some (.string ⟨#[]⟩) ∧ w'.cell? ⟨w.heap.size, 8, none⟩ = some (.slice none 0 0)) := Lib.hid fun W hW => ⟨at_put3 k7 0 rfl W hW, at_put3 k7 1 rfl W hW, at_put3 k7 2 rfl W hW, at_put3 k7 3 rfl W hW, at_put3 k7 4 rfl W hW, at_put3 k7 5 rfl W hW, at_put3 k7 6 rfl W hW, at_put3 k7 7 rfl W hW, at_put3 k7 8 rfl W hW⟩
        have FC : Hid (∀ u ∈ cellsOf (fresh x) Ag cg Af cf none 0, u.oneCell' = true) := Lib.hid (OV.cell (w := W6) ⟨Ag, cg, Af, cf, none, 0, rfl, Parts.below ⟨HP.out.g, HP.out.f, Reads.none_, HP.out.gc, HP.out.fc, Nat.le_refl _⟩ hb6⟩)
        have xB : ((W6.alloc (.cells #[.string x.n, .slice Ag x.gr.length cg, .slice Af x.sn.length cf, .string x.go, .int .i64 1, .int .i64 0, .string ⟨#[]⟩, .string ⟨#[]⟩, .slice none 0 0] 32)).drew).heap[W6.heap.size]? = some (.cells #[.string x.n, .slice Ag x.gr.length cg, .slice Af x.sn.length cf, .string x.go, .int .i64 1, .int .i64 0, .string ⟨#[]⟩, .string ⟨#[]⟩, .slice none 0 0] 32 (0, 0)) := heap_alloc_new W6 _
        have dA : Below W6.heap.size W6 W6.drew := (Below.refl _ _).drew
        have dB : Below W6.heap.size W6 (W6.alloc (.cells #[.string x.n, .slice Ag x.gr.length cg, .slice Af x.sn.length cf, .string x.go, .int .i64 1, .int .i64 0, .string ⟨#[]⟩, .string ⟨#[]⟩, .slice none 0 0] 32)).drew := ((Below.refl _ _).alloc (Nat.le_refl _) _).drew
        clear e6 k6 k7 x0 x1 x2 x3 x4 x5 x6 x7 x8 f0 f1 f2 f3 f4 f5 f6 f7 f8
        obtain ⟨x0, x1, x2, x3, x4, x5, x6, x7, x8⟩ := SX.out _ (Below.refl _ _)
        go_region_held3 (fun w' => w'.cell? ⟨w.heap.size, 0, none⟩ = some (.string x.n) ∧ w'.cell? ⟨w.heap.size, 1, none⟩ = some (.slice Ag x.gr.length cg) ∧ w'.cell? ⟨w.heap.size, 2, none⟩ = some (.slice Af x.sn.length cf) ∧ w'.cell? ⟨w.heap.size, 3, none⟩ = some (.string x.go) ∧ w'.cell? ⟨w.heap.size, 4, none⟩ = some (.int .i64 1) ∧ w'.cell? ⟨w.heap.size, 5, none⟩ = some (.int .i64 0) ∧ w'.cell? ⟨w.heap.size, 6, none⟩ = some (.string ⟨#[]⟩) ∧ w'.cell? ⟨w.heap.size, 7, none⟩ = some (.string ⟨#[]⟩) ∧ w'.cell? ⟨w.heap.size, 8, none⟩ = some (.slice none 0 0))
          (first | go_keep | exact SX.out _ (by assumption))
          (first | ((go_at_call 37; refine (CL.out _ (by first | exact dA | exact dB)).mono ?_; rintro e w2 ⟨v1, cs, rfl, ho1, hv1, hb2, hb3⟩)) | ((refine step_append_any _ rfl (.tmp 41) (.tmp 43) _ rfl W6.heap.size 32 i0 z 9 152 Tryz.underlying35 hi hz0 hz1 hz2 hzs (by decide) v1 l.length cs (by rfl) (ho1.alloc _) _ (some ⟨w2.heap.size, 0, none⟩) 1 1 (cellsOf (fresh x) Ag cg Af cf none 0) (by rfl) (reads9 (heap_alloc_new w2 _)) FC.out (by simp only [maxLen]; omega) (by omega) (by have := hb2.size; simp; omega) ?_; intro v2 w3 hown2 hg2 hat2; have hb7 := app_belowO (hb2.alloc hb2.size _) (ho1.alloc _) hg2; obtain ⟨A2, cap2, rfl, hcap⟩ := own_sliceO hown2; have HO2 := Lib.hid hown2; clear hown2 hg2 hat2)) | ((refine step_append_any _ rfl (.tmp 41) (.tmp 43) _ rfl W6.heap.size 32 i0 z 9 152 Tryz.underlying35 hi hz0 hz1 hz2 hzs (by decide) v1 l.length cs (by rfl) ho1 _ (some ⟨W6.heap.size, 0, none⟩) 1 1 (cellsOf (fresh x) Ag cg Af cf none 0) (by rfl) (reads9 ((hb3.block _ (Lg.lt_heap xB)).trans xB)) FC.out (by simp only [maxLen]; omega) (by omega) (hb2.size) ?_; intro v2 w3 hown2 hg2 hat2; have hb7 := app_belowO hb2 ho1 hg2; obtain ⟨A2, cap2, rfl, hcap⟩ := own_sliceO hown2; have HO2 := Lib.hid hown2; clear hown2 hg2 hat2)))
        all_goals
          go_wp2_with (fail)
          go_ret2
          exact more_fin (BZ.out _ hb7) hv1 HP.out.g HP.out.f HP.out.gc HP.out.fc hcap HO2.out
  · rw [W0.out hw]
    have j : ((wrongV x.n x.gr x.sn x.go) != 0) = true := by simpa using hw
    clear W0 HF
    generalize wrongV x.n x.gr x.sn x.go = v at *
    go_enter Tryz.func76, Tryz.ntmps76
    go_wp2_with (go_at_call 145; rw [← eW]; (with_reducible refine (WR.out).mono ?_); rintro e w1 ⟨rfl, hb⟩)
    go_ret2
    exact ApplySays.none_ rfl (BW.out _ hb)
end Go.Proofs.YtmlaolmaopjhbaaGreatDoor.Ops
/- OpTurned, what a claim needs of it (prune.py). -/
namespace Go.Proofs.YtmlaolmaopjhbaaGreatDoor.Ops
open Go.RowKit
set_option linter.unusedVariables false
set_option maxRecDepth 100000
theorem heap3 {w : World} {A B C : Obj} : (((w.alloc A).alloc B).alloc C).heap[w.heap.size + 1 + 1]? = some C := by
  have := heap_alloc2_new (w.alloc A) B C
  simpa using this
theorem below3 {w : World} {A B C : Obj} : Below w.heap.size w (((w.alloc A).alloc B).alloc C) := (((Below.refl _ _).alloc (Nat.le_refl _) _).alloc (by simp) _).alloc (by simp; omega) _
def TurnSays (v : Value) (b : Bool) (w : World) (e : Ending) (w' : World) : Prop := e = .returned (.tuple #[v, .bool b]) ∧ Below w.heap.size w w'
set_option maxHeartbeats 2000000 in
theorem turned2_any (x z : Op) (Ag : Option Addr) (cg : Nat) (Af : Option Addr) (cf : Nat) (Ar : Option Addr) (cr : Nat) (Eg : Option Addr) (eg : Nat) (Ef : Option Addr) (ef : Nat) (Er : Option Addr) (er : Nat) (w : World) :
    Calls Tryz.prog 78 #[valOf x Ag cg Af cf Ar cr, evOf 2 z Eg eg Ef ef Er er] w (TurnSays (valOf { x with st := 2 } Ag cg Af cf Ar cr) (decide (x.st = 1)) w) := by
  unfold valOf evOf
  go_enter Tryz.func78, Tryz.ntmps78
  go_wp2_with (fail)
  (try simp only [Exit.inBlock, Exit.then])
  refine bodyPost_ret_by (Lg.results_cell_row2 rfl _ _ (w.heap.size + 1 + 1) 32 _ (0, 0) _ rfl heap3 rfl rfl (by kernel_rfl)) rfl ?_
  exact ⟨rfl, below3⟩
set_option maxHeartbeats 2000000 in
theorem turned4_any (x z : Op) (Ag : Option Addr) (cg : Nat) (Af : Option Addr) (cf : Nat) (Ar : Option Addr) (cr : Nat) (Eg : Option Addr) (eg : Nat) (Ef : Option Addr) (ef : Nat) (Er : Option Addr) (er : Nat) (w : World) :
    Calls Tryz.prog 78 #[valOf x Ag cg Af cf Ar cr, evOf 4 z Eg eg Ef ef Er er] w (TurnSays (valOf { x with st := 4 } Ag cg Af cf Ar cr) (x.st != 3) w) := by
  unfold valOf evOf
  go_enter Tryz.func78, Tryz.ntmps78
  go_wp2_with (fail)
  (try simp only [Exit.inBlock, Exit.then])
  refine bodyPost_ret_by (Lg.results_cell_row2 rfl _ _ (w.heap.size + 1 + 1) 32 _ (0, 0) _ rfl heap3 rfl rfl (by kernel_rfl)) rfl ?_
  exact ⟨rfl, below3⟩
set_option maxHeartbeats 4000000 in
theorem turned3_any (x z : Op) (Ag : Option Addr) (cg : Nat) (Af : Option Addr) (cf : Nat) (Ar : Option Addr) (cr : Nat) (Eg : Option Addr) (eg : Nat) (Ef : Option Addr) (ef : Nat) (Er : Option Addr) (er : Nat) (w : World) :
    Calls Tryz.prog 78 #[valOf x Ag cg Af cf Ar cr, evOf 3 z Eg eg Ef ef Er er] w (TurnSays (valOf { x with st := 3, r := z.r } Ag cg Af cf Er er) (decide (x.st = 2)) w) := by
  unfold valOf evOf
  go_enter Tryz.func78, Tryz.ntmps78
  go_wp2_with (fail)
  go_region
  all_goals
    go_wp2_with (fail)
    (try simp only [Exit.inBlock, Exit.then])
    refine bodyPost_ret_by (Lg.results_cell_row2 rfl _ _ (w.heap.size + 1 + 1) 32 _ (0, 0) _ rfl heap3 rfl rfl (by kernel_rfl)) rfl ?_
    exact ⟨rfl, below3.drew⟩
theorem turned_any (x z : Op) (k : Int) (hk : k = 2 ∨ k = 3 ∨ k = 4) (Ag : Option Addr) (cg : Nat) (Af : Option Addr) (cf : Nat) (Ar : Option Addr) (cr : Nat) (Eg : Option Addr) (eg : Nat) (Ef : Option Addr) (ef : Nat) (Er : Option Addr) (er : Nat) (w0 w : World) (hp : Parts w0 x Ag cg Af cf Ar cr) (hq : Parts w0 z Eg eg Ef ef Er er) {b : Bool} (hb : (turned x ⟨k, z⟩).isSome = b) :
    Calls Tryz.prog 78 #[valOf x Ag cg Af cf Ar cr, evOf k z Eg eg Ef ef Er er] w fun e w' => (∃ (y : Op) (Yr : Option Addr) (yr : Nat), e = .returned (.tuple #[valOf y Ag cg Af cf Yr yr, .bool b]) ∧ (∀ y', turned x ⟨k, z⟩ = some y' → y' = y) ∧ Parts w0 y Ag cg Af cf Yr yr) ∧ Below w.heap.size w w' := by
  rcases hk with rfl | rfl | rfl
  · have ht : turned x ⟨2, z⟩ = if x.st = 1 then some { x with st := 2 } else none := rfl
    refine (turned2_any x z Ag cg Af cf Ar cr Eg eg Ef ef Er er w).mono ?_
    rintro e w' ⟨h, hw⟩
    refine ⟨⟨{ x with st := 2 }, Ar, cr, ?_, fun y' h' => ?_, ⟨hp.g, hp.f, hp.r, hp.gc, hp.fc, hp.rc⟩⟩, hw⟩
    · rw [h, ← hb, ht]
      by_cases hs : x.st = 1 <;> simp [hs]
    · rw [ht] at h'
      by_cases hs : x.st = 1
      · rw [if_pos hs] at h'; injection h' with h'; exact h'.symm
      · rw [if_neg hs] at h'; cases h'
  · have ht : turned x ⟨3, z⟩ = if x.st = 2 then some { x with st := 3, r := z.r } else none := rfl
    refine (turned3_any x z Ag cg Af cf Ar cr Eg eg Ef ef Er er w).mono ?_
    rintro e w' ⟨h, hw⟩
    refine ⟨⟨{ x with st := 3, r := z.r }, Er, er, ?_, fun y' h' => ?_, ⟨hp.g, hp.f, hq.r, hp.gc, hp.fc, hq.rc⟩⟩, hw⟩
    · rw [h, ← hb, ht]
      by_cases hs : x.st = 2 <;> simp [hs]
    · rw [ht] at h'
      by_cases hs : x.st = 2
      · rw [if_pos hs] at h'; injection h' with h'; exact h'.symm
      · rw [if_neg hs] at h'; cases h'
  · have ht : turned x ⟨4, z⟩ = if x.st = 3 then none else some { x with st := 4 } := rfl
    refine (turned4_any x z Ag cg Af cf Ar cr Eg eg Ef ef Er er w).mono ?_
    rintro e w' ⟨h, hw⟩
    refine ⟨⟨{ x with st := 4 }, Ar, cr, ?_, fun y' h' => ?_, ⟨hp.g, hp.f, hp.r, hp.gc, hp.fc, hp.rc⟩⟩, hw⟩
    · rw [h, ← hb, ht]
      by_cases hs : x.st = 3 <;> simp [hs]
    · rw [ht] at h'
      by_cases hs : x.st = 3
      · rw [if_pos hs] at h'; cases h'
      · rw [if_neg hs] at h'; injection h' with h'; exact h'.symm
end Go.Proofs.YtmlaolmaopjhbaaGreatDoor.Ops
/- OpSet, what a claim needs of it (prune.py). -/
namespace Go.Proofs.YtmlaolmaopjhbaaGreatDoor.Ops
open Go.RowKit
set_option linter.unusedVariables false
set_option maxRecDepth 100000
theorem set_run : ∀ (ds xs : List Value) (a : Nat), a + ds.length ≤ xs.length → (ds.foldl (fun (p : List Value × Nat) d => (p.1.set p.2 d, p.2 + 1)) (xs, a)).1 = xs.take a ++ ds ++ xs.drop (a + ds.length)
  | [], xs, a, h => by simp
  | d :: ds, xs, a, h => by
    rw [List.foldl_cons, set_run ds (xs.set a d) (a + 1) (by simp at h ⊢; omega)]
    have h1 : a < xs.length := by simp at h; omega
    have e1 : (xs.set a d).take (a + 1) = xs.take a ++ [d] := by
      rw [List.set_eq_take_append_cons_drop, if_pos h1, List.take_append, List.length_take, Nat.min_eq_left (Nat.le_of_lt h1), List.take_of_length_le (l := xs.take a) (by simp; omega), show a + 1 - a = 1 by omega]
      rfl
    have e2 : (xs.set a d).drop (a + 1 + ds.length) = xs.drop (a + (d :: ds).length) := by
      rw [List.drop_set, if_pos (by omega), List.length_cons, show a + 1 + ds.length = a + (ds.length + 1) by omega]
    rw [e1, e2, List.append_assoc, List.append_assoc, List.append_assoc]
    rfl
theorem own9 {w : World} {B n cap g : Nat} {xs : List Value} {T : TypeId} (h : w.ownsRow B T 9 (.slice (some ⟨g, 0, none⟩) n cap) n xs) {i : Nat} (hi : i < n) (d0 d1 d2 d3 d4 d5 d6 d7 d8 : Value) :
    (((((((((w.setCell ⟨g, i * 9, none⟩ d0).setCell ⟨g, i * 9 + 1, none⟩ d1).setCell ⟨g, i * 9 + 2, none⟩ d2).setCell ⟨g, i * 9 + 3, none⟩ d3).setCell ⟨g, i * 9 + 4, none⟩ d4).setCell ⟨g, i * 9 + 5, none⟩ d5).setCell ⟨g, i * 9 + 6, none⟩ d6).setCell ⟨g, i * 9 + 7, none⟩ d7).setCell ⟨g, i * 9 + 8, none⟩ d8).ownsRow B T 9 (.slice (some ⟨g, 0, none⟩) n cap) n
      (xs.take (i * 9) ++ [d0, d1, d2, d3, d4, d5, d6, d7, d8] ++ xs.drop (i * 9 + 9)) := by
  have hl : xs.length = n * 9 := h.1
  have e := set_run [d0, d1, d2, d3, d4, d5, d6, d7, d8] xs (i * 9) (by simp; omega)
  simp only [List.foldl_cons, List.foldl_nil, List.length_cons, List.length_nil] at e
  rw [show xs.drop (i * 9 + 9) = xs.drop (i * 9 + (0 + 1 + 1 + 1 + 1 + 1 + 1 + 1 + 1 + 1)) from rfl, ← e]
  have q0 := own_set h (j := i * 9) (by omega) d0
  have q1 := own_set q0 (j := i * 9 + 1) (by omega) d1
  have q2 := own_set q1 (j := i * 9 + 2) (by omega) d2
  have q3 := own_set q2 (j := i * 9 + 3) (by omega) d3
  have q4 := own_set q3 (j := i * 9 + 4) (by omega) d4
  have q5 := own_set q4 (j := i * 9 + 5) (by omega) d5
  have q6 := own_set q5 (j := i * 9 + 6) (by omega) d6
  have q7 := own_set q6 (j := i * 9 + 7) (by omega) d7
  exact own_set q7 (j := i * 9 + 8) (by omega) d8
end Go.Proofs.YtmlaolmaopjhbaaGreatDoor.Ops
