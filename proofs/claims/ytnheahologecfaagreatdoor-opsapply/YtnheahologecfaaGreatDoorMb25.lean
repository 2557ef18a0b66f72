/- Joined by mkmerged.py: Rk, SameG2, RgFiles, RgGraph, KeyOrd. -/
import Derived.Test.YtnheahologecfaaGreatDoorRows
import Derived.WalkKit
import Derived.ProofKit
import Derived.OpenShut
import Derived.ShutString
import Derived.Below
import Derived.ChangeSame
import Derived.Deep.Slices
import Derived.Deep.Fields
import Derived.ReadAgain
import Derived.ChangeBears
import Derived.SliceStrings
import Derived.ChangeMaps5
import Derived.Test.YtnheahologecfaaGreatDoorMb02
import Derived.Test.YtnheahologecfaaGreatDoorMb24
import Derived.Deep.Draws
import Derived.BigQuiet
import Derived.Test.YtnheahologecfaaGreatDoorMb03
import Derived.Test.YtnheahologecfaaGreatDoorMb22
/- Rk, what a claim needs of it (prune.py). -/
namespace Go.Proofs.YtnheahologecfaaGreatDoor
open Go.RowKit Go.WideShapes Go.ChangeShapes
section
variable {H : Type} {enc : TypeId × Value → H} {P : Program}
theorem post_of_below {f : Func} {s : ChangeSpec} {apart fresh handsOn again : Bool} {W W' : World} {args : Array Value} {v : Value} {ds gs : List (DataW H)} {before pa pv : List MemPlace}
    (hW : DataW.Whole enc P f.params.toList s.vars apart W args.toList ds gs before)
    (hres : ∀ (b : Nat) (sp : Nat → Bool) (hd : Bool), DataW.TrodAll enc P W' b sp hd f.resultTypes.toList (v.resultList f.resultTypes.size) (s.fn H (ds ++ gs)).results [])
    (hargs : ∀ sp : Nat → Bool, (∀ p ∈ before, sp p.block = true) → DataW.TrodAll enc P W' 0 sp true f.params.toList args.toList (s.fn H (ds ++ gs)).args pa)
    (hvars : ∀ sp : Nat → Bool, (∀ p ∈ before, sp p.block = true) → DataW.TrodVars enc P W' sp s.vars (s.fn H (ds ++ gs)).vars pv)
    (hps : before = pa ++ pv) (hb : Below W.heap.size W W')
    (hok : ∀ (j : Nat) (t : TypeId) (r : Value), f.resultTypes[j]? = some t → (v.resultList f.resultTypes.size)[j]? = some r → Value.okWide P W' .any 0 t r) :
    s.post enc P f apart fresh handsOn again W args v W' := by
  have hlt : ∀ p ∈ before, p.block < W.heap.size := fun p hp => hW.lt p hp
  have hold : ∀ p ∈ before, (fun b => decide (b < W.heap.size)) p.block = true := fun p hp => by simpa using hlt p hp
  refine ⟨ds, gs, before, [], pa, pv, hW, hres _ _ _, hargs _ hold, hvars _ hold, World.keptBut_mono (fun p hp => ⟨hp, ?_⟩) (hb.frame (· ∈ before)), fun _ => ?_⟩
  · rw [hps, List.mem_append] at hp
    exact Or.inr hp
  · obtain ⟨_, _, _, _, _, hz, hn⟩ := hW
    refine ⟨hok, _, _, ([] ++ pa) ++ pv, ⟨[] ++ pa, pv, trodAll_append (hargs _ (fun _ _ => rfl)) (hres _ _ _), hvars _ (fun _ _ => rfl), rfl, ?_, ?_⟩, ?_⟩
    · intro b off hp
      have hin : MemPlace.cell b off ∈ before := by rw [hps]; simpa using hp
      rw [hb.frozen (hlt _ hin)]
      exact hz b off hin
    · intro ha
      have := hn ha
      rw [hps] at this
      simpa using this
    · intro p hp _
      rw [hps]
      simpa using hp
end
end Go.Proofs.YtnheahologecfaaGreatDoor
namespace Go.Proofs.YtnheahologecfaaGreatDoor
open Go.ChangeShapes Go.WideShapes Go.Deep Go.RowKit Go.ChangeMaps
set_option linter.unusedVariables false
set_option maxRecDepth 100000
section
variable {H : Type} {enc : TypeId × Value → H} {P : Program} {w : World} {base : Nat} {spare : Nat → Bool} {held : Bool}
theorem open_slice_fields {t e : TypeId} {fs : Array Field} {fuel : Nat} {cs : List Value} {x : DataW H × List MemPlace} (ht : P.underlying t = some (.slice e)) (he : P.underlying e = some (.struct fs))
    (hone : oneCellFields P fs = true) (hC : P.cellsOf e = fs.size) (h : DataW.trod enc P w base spare held fuel t cs = some x) :
    (cs = [.slice none 0 0] ∧ x = (.nil, [])) ∨
    ∃ (a : Addr) (len cap m : Nat) (D : Nat → DataW H) (Pl : Nat → List MemPlace), cs = [.slice (some a) len cap] ∧ base ≤ a.block ∧ len ≤ cap ∧ cap ≤ maxLen ∧ m = (if spare a.block then cap else len) ∧
      x = (.slice ((List.range len).map D) ((List.range (m - len)).map fun j => D (len + j)), MemPlace.row a (m * fs.size) ++ (List.range m).flatMap Pl) ∧
      ∀ i, i < m → ∃ (ys : List (DataW H × List MemPlace)) (n : Nat), D i = .agg (ys.map (·.1)) ∧ Pl i = ys.flatMap (·.2) ∧ ys.length = fs.size ∧
        ∀ (j : Nat) (f : Field), fs[j]? = some f → ∃ (v : Value) (y : DataW H × List MemPlace), w.cell? (a.add (i * fs.size + j)) = some v ∧ ys[j]? = some y ∧ DataW.trod enc P w base spare held n f.type [v] = some y := by
  rcases open_slice ht h with h0 | ⟨a, len, cap, m, n, D, Pl, hcs, hb, hl, hm, hmm, hx, hi⟩
  · exact .inl h0
  · refine .inr ⟨a, len, cap, m, D, Pl, hcs, hb, hl, hm, hmm, by rw [hC] at hx; exact hx, fun i him => ?_⟩
    obtain ⟨cs', hc, ht'⟩ := hi i him
    rw [hC] at hc
    obtain ⟨ys, n', hn', hy, hlen, hyl, hf⟩ := DataW.trod_struct he ht'
    obtain ⟨_, hcl, hat⟩ := World.cells?_some hc
    simp only [Prod.mk.injEq] at hy
    refine ⟨ys, n', hy.1, hy.2, hyl, fun j f hj => ?_⟩
    obtain ⟨ho, hk⟩ := hone_of hone j f hj
    have hjl : j < fs.size := (Array.getElem?_eq_some_iff.1 hj).1
    have hcell := hat j hjl
    have hv : cs'[j]? = some (cs'[j]'(by omega)) := List.getElem?_eq_getElem (by omega)
    have h1 := hf j f hj
    rw [ho, hk] at h1
    have hone' : (cs'.drop j).take 1 = [cs'[j]'(by omega)] := by
      rw [List.drop_eq_getElem_cons (by omega)]
      rfl
    rw [hone'] at h1
    have hys : ys[j]? = some (ys[j]'(by omega)) := List.getElem?_eq_getElem (by omega)
    refine ⟨_, _, ?_, hys, h1.trans hys⟩
    rw [← Go.Deep.add_add, hcell, hv]
end
theorem list_of {α : Type} {Q : Nat → α → Prop} : ∀ (n : Nat), (∀ i, i < n → ∃ t, Q i t) → ∃ l : List α, l.length = n ∧ ∀ k (h : k < l.length), Q k l[k]
  | 0, _ => ⟨[], rfl, fun k h => absurd h (by simp)⟩
  | n + 1, h => by
    obtain ⟨l, hl, hq⟩ := list_of n (fun i hi => h i (by omega))
    obtain ⟨t, ht⟩ := h n (by omega)
    refine ⟨l ++ [t], by simp [hl], fun k hk => ?_⟩
    rcases Nat.lt_or_ge k l.length with h1 | h1
    · rw [List.getElem_append_left h1]; exact hq k h1
    · have : k = l.length := by simp at hk; omega
      subst this
      rw [List.getElem_append_right (Nat.le_refl _)]
      simpa [hl] using ht
theorem lt_of_cell {w : World} {a : Addr} {v : Value} (h : w.cell? a = some v) : a.block < w.heap.size := by
  unfold World.cell? at h
  rcases Nat.lt_or_ge a.block w.heap.size with h1 | h1
  · exact h1
  · rw [Array.getElem?_eq_none h1] at h; cases h
section
variable {H : Type} {enc : TypeId × Value → H} {W : World}
theorem sameAt_below {W W' : World} (hb : Below W.heap.size W W') (p : MemPlace) (h : p.block < W.heap.size) : W.sameAt W' p := by
  cases p with
  | cell b off => exact hb.cell (p := ⟨b, off, none⟩) h
  | map b => exact hb.block b h
theorem trodAll_carry {P : Program} {w w' : World} {sp : Nat → Bool} : ∀ {ts : List TypeId} {vs : List Value} {ds : List (DataW H)} {ps : List MemPlace}, DataW.TrodAll enc P w 0 sp true ts vs ds ps → (∀ p ∈ ps, w.sameAt w' p) → DataW.TrodAll enc P w' 0 sp true ts vs ds ps
  | [], [], [], _, h, _ => h
  | _ :: _, _ :: _, _ :: _, _, ⟨p, q, ⟨n, h1⟩, h2, e⟩, hs => ⟨p, q, ⟨n, DataW.trod_carry _ _ _ _ h1 (fun x hx => hs x (by rw [e]; exact List.mem_append_left _ hx))⟩, trodAll_carry h2 (fun x hx => hs x (by rw [e]; exact List.mem_append_right _ hx)), e⟩
theorem args_stay {P : Program} {W W' : World} (hl : laidOutB P = true) (hm : mapsRowed P = true) (hf : ((List.range P.types.size).all fun t => match P.underlying t with | some (.slice e) => decide (0 < P.cellsOf e) | _ => true) = true)
    {ts : List TypeId} {vs : List Value} {ds : List (DataW H)} {ps : List MemPlace} (hT : ts.all (fun t => decide (t < P.types.size)) = true) (h : DataW.TrodAll enc P W 0 (fun _ => true) true ts vs ds ps) (hlt : ∀ p ∈ ps, p.block < W.heap.size) (hb : Below W.heap.size W W')
    (sp : Nat → Bool) (hs : ∀ p ∈ ps, sp p.block = true) : DataW.TrodAll enc P W' 0 sp true ts vs ds ps :=
  trodAll_carry (DataW.TrodAll.respare (kids_rows hl hm) (slices_full_of P hf) (fun t ht => of_decide_eq_true (List.all_eq_true.1 hT t ht)) h hs) (fun p hp => sameAt_below hb p (hlt p hp))
end
end Go.Proofs.YtnheahologecfaaGreatDoor
/- SameG2, what a claim needs of it (prune.py). -/
namespace Go.Proofs.YtnheahologecfaaGreatDoor.Ops
open Go.RowKit
set_option linter.unusedVariables false
set_option maxRecDepth 100000
def Upto {α : Type} (l m : List α) (k : Nat) : Prop := ∀ j (hj : j < l.length) (hm : j < m.length), j < k → l[j] = m[j]
theorem Upto.zero {α : Type} (l m : List α) : Upto l m 0 := fun j _ _ h => by omega
theorem Upto.next {α : Type} {l m : List α} {k : Nat} (hk : k < l.length) (hm : k < m.length) (h : Upto l m k) (h1 : l[k] = m[k]) : Upto l m (k + 1) := fun j hj hjm hjk => by
  rcases Nat.lt_or_ge j k with h2 | h2
  · exact h j hj hjm h2
  · obtain rfl : j = k := by omega
    exact h1
theorem Upto.all {α : Type} {l m : List α} (he : l.length = m.length) (h : Upto l m l.length) : l = m := List.ext_getElem he fun j hj hm => h j hj hm hj
theorem Upto.ne {α : Type} {l m : List α} {k : Nat} (hk : k < l.length) (hm : k < m.length) (h : l[k] ≠ m[k]) : l ≠ m := fun e => h (by subst e; rfl)
theorem belowDN {B : Nat} {w w' : World} (h : Below B w w') (n : Nat) : Below B w (w'.drewN n) := ⟨h.os, h.tape, h.output, h.size, h.block⟩
set_option maxHeartbeats 2000000 in
theorem texts2_any (A F : Option Addr) (l m : List ByteArray) (c d B B' : Nat) (w : World) (hl : l.length ≤ 9223372036854775807) (hm : m.length ≤ 9223372036854775807) (hr : Strs w B A l) (hq : Strs w B' F m) {b : Bool} (hb : b = decide (l = m)) :
    Calls Tryz.prog 93 #[.slice A l.length c, .slice F m.length d] w fun e w' => e = .returned (.bool b) ∧ ∃ n, w' = w.drewN n := by
  have YES : Hid (l.length = m.length → Upto l m l.length → b = true) := Lib.hid fun h h1 => by rw [hb]; exact decide_eq_true (h1.all h)
  have NE : Hid (l ≠ m → b = false) := Lib.hid fun h => by rw [hb]; exact decide_eq_false h
  clear hb
  by_cases he : l.length = m.length
  · have i0 : ((l.length : Int) != (m.length : Int)) = false := by rw [he]; simp
    have HE := Lib.hid he
    go_enter Tryz.func93, Tryz.ntmps93
    go_wp2_with (fail)
    go_loopw [5] (fun i wx => ∃ k n : Nat, i = .int .i64 k ∧ k ≤ l.length ∧ Upto l m k ∧ wx = w.drewN n) (fun i _ => l.length - (intOf i).toNat)
    case atStart => exact ⟨0, 0, rfl, by omega, Upto.zero _ _, rfl⟩
    case round =>
      obtain ⟨k, n, rfl, hk, hup, rfl⟩ := hrel
      have UP := Lib.hid hup
      clear hup
      by_cases hlt : k < l.length
      · have hltm : k < m.length := by omega
        obtain ⟨ad, rfl, _, hc⟩ := hr.at_ hlt
        obtain ⟨bd, rfl, _, hd⟩ := hq.at_ hltm
        have hkI : (k : Int) < (l.length : Int) := by omega
        have hkM : (k : Int) < (m.length : Int) := by omega
        have NX := Lib.hid (fun h => Upto.next hlt hltm UP.out h)
        have NN := Lib.hid (fun h => NE.out (Upto.ne hlt hltm h))
        clear hr hq he i0
        generalize l[k] = f at *
        generalize m[k] = g at *
        by_cases hfg : f = g
        · have F := Lib.hid (NX.out hfg)
          subst hfg
          clear NX NN
          go_wp2_with (fail)
          go_quiet (fail)
          go_wp2
          go_roundw
          case rel => exact ⟨k + 1, _, by go_num, by omega, F.out, by first | rfl | exact World.drewN_drewN _ _ _⟩
          case measure => simp [intOf]; omega
        · have F := Lib.hid (NN.out hfg)
          have s1 := Lg.s_ne hfg
          clear NX NN hfg
          go_wp2_with (fail)
          go_quiet (fail)
          go_wp2
          go_ret
          exact ⟨Lg.ret_bool F.out, _, by first | rfl | exact World.drewN_drewN _ _ _⟩
      · obtain rfl : k = l.length := by omega
        have F := Lib.hid (YES.out HE.out UP.out)
        go_wp2_with (fail)
        go_ret
        exact ⟨Lg.ret_bool F.out, n, rfl⟩
  · have i0 : ((l.length : Int) != (m.length : Int)) = true := by rw [bne_iff_ne]; omega
    have F := Lib.hid (NE.out (fun e => he (by rw [e])))
    go_enter Tryz.func93, Tryz.ntmps93
    go_wp2_with (fail)
    go_ret
    exact ⟨Lg.ret_bool F.out, 0, rfl⟩
theorem strs_dn {w : World} {B : Nat} {A : Option Addr} {l : List ByteArray} (h : Strs w B A l) (n : Nat) : Strs (w.drewN n) B A l := h.below (belowDN (Below.refl _ _) n)
set_option maxHeartbeats 4000000 in
theorem sameG2_any (A F : Option Addr) (l m : List Tg) (c d B B' : Nat) (w : World) (hl : l.length ≤ 9223372036854775807) (hm : m.length ≤ 9223372036854775807) (hz : ∀ t ∈ l, t.ds.length ≤ 9223372036854775807 ∧ t.ss.length ≤ 9223372036854775807) (hzm : ∀ t ∈ m, t.ds.length ≤ 9223372036854775807 ∧ t.ss.length ≤ 9223372036854775807)
    (hr : Tgs w B A l) (hq : Tgs w B' F m) {b : Bool} (hb : b = decide (l = m)) :
    Calls Tryz.prog 48 #[.slice A l.length c, .slice F m.length d] w fun e w' => e = .returned (.bool b) ∧ ∃ n, w' = w.drewN n := by
  have YES : Hid (l.length = m.length → Upto l m l.length → b = true) := Lib.hid fun h h1 => by rw [hb]; exact decide_eq_true (h1.all h)
  have NE : Hid (l ≠ m → b = false) := Lib.hid fun h => by rw [hb]; exact decide_eq_false h
  clear hb
  by_cases he : l.length = m.length
  · have i0 : ((l.length : Int) != (m.length : Int)) = false := by rw [he]; simp
    have HE := Lib.hid he
    go_enter Tryz.func48, Tryz.ntmps48
    go_wp2_with (fail)
    go_loopw [5] (fun i wx => ∃ k n : Nat, i = .int .i64 k ∧ k ≤ l.length ∧ Upto l m k ∧ wx = w.drewN n) (fun i _ => l.length - (intOf i).toNat)
    case atStart => exact ⟨0, 0, rfl, by omega, Upto.zero _ _, rfl⟩
    case round =>
      obtain ⟨k, n, rfl, hk, hup, rfl⟩ := hrel
      have UP := Lib.hid hup
      clear hup
      by_cases hlt : k < l.length
      · have hltm : k < m.length := by omega
        obtain ⟨ad, rfl, _, hc⟩ := hr (by omega)
        obtain ⟨bd, rfl, _, hd⟩ := hq (by omega)
        obtain ⟨Ad, cd, As, cs, a0, a1, a2, a3, hsd, hss⟩ := hc k hlt
        obtain ⟨Ed, ed, Es, es, b0, b1, b2, b3, hed, hes⟩ := hd k hltm
        obtain ⟨fd, fs⟩ := hz _ (List.getElem_mem hlt)
        obtain ⟨gd, gs⟩ := hzm _ (List.getElem_mem hltm)
        have hkI : (k : Int) < (l.length : Int) := by omega
        have hkM : (k : Int) < (m.length : Int) := by omega
        have NX := Lib.hid (fun h => Upto.next hlt hltm UP.out h)
        have NN := Lib.hid (fun h => NE.out (Upto.ne hlt hltm h))
        clear hc hd hr hq hz hzm he i0
        generalize l[k] = f at *
        generalize m[k] = g at *
        have TD := Lib.hid (fun (v : Bool) (hv : v = decide (f.ds = g.ds)) q => texts2_any Ad Ed f.ds g.ds cd ed B B' (w.drewN q) (by omega) (by omega) (strs_dn hsd q) (strs_dn hed q) hv)
        have TS := Lib.hid (fun (v : Bool) (hv : v = decide (f.ss = g.ss)) q => texts2_any As Es f.ss g.ss cs es B B' (w.drewN q) (by omega) (by omega) (strs_dn hss q) (strs_dn hes q) hv)
        have A1 : w.cell? ⟨(ad.add (k * 4)).block, (ad.add (k * 4)).off + 1, none⟩ = some (.string f.c) := a1
        have A2 : w.cell? ⟨(ad.add (k * 4)).block, (ad.add (k * 4)).off + 2, none⟩ = some (.slice Ad f.ds.length cd) := a2
        have A3 : w.cell? ⟨(ad.add (k * 4)).block, (ad.add (k * 4)).off + 3, none⟩ = some (.slice As f.ss.length cs) := a3
        have B1 : w.cell? ⟨(bd.add (k * 4)).block, (bd.add (k * 4)).off + 1, none⟩ = some (.string g.c) := b1
        have B2 : w.cell? ⟨(bd.add (k * 4)).block, (bd.add (k * 4)).off + 2, none⟩ = some (.slice Ed g.ds.length ed) := b2
        have B3 : w.cell? ⟨(bd.add (k * 4)).block, (bd.add (k * 4)).off + 3, none⟩ = some (.slice Es g.ss.length es) := b3
        have EX : Hid (f.n = g.n → f.c = g.c → f.ds = g.ds → f.ss = g.ss → f = g) := Lib.hid (by cases f; cases g; simp only; rintro rfl rfl rfl rfl; rfl)
        clear a1 a2 a3 b1 b2 b3 hsd hss hed hes fd fs gd gs
        by_cases h0 : f.n = g.n
        · by_cases h1 : f.c = g.c
          · by_cases h2 : f.ds = g.ds
            · have T2 := Lib.hid (TD.out true (decide_eq_true h2).symm)
              by_cases h3 : f.ss = g.ss
              · have T3 := Lib.hid (TS.out true (decide_eq_true h3).symm)
                have F := Lib.hid (NX.out (EX.out h0 h1 h2 h3))
                rw [← h0] at b0
                rw [← h1] at B1
                clear NN NX EX h0 h1 h2 h3 TD TS
                go_wp2_with (fail)
                refine wp_region_cls (C := fun w' => ∃ m, w' = w.drewN m) (by kernel_rfl) (by kernel_rfl) ⟨n + 1, rfl⟩ ?_
                repeat (first | go_big_quiet_skip | quiet_step (first | (with_reducible exact Calls.quiet_of (T2.out _)) | (with_reducible exact Calls.quiet_of (T3.out _)) | (fail)))
                refine wpQuiet_nil ?_
                rintro w2 ⟨m, rfl⟩
                go_wp2
                go_roundw
                case rel => exact ⟨k + 1, _, by go_num, by omega, F.out, by first | rfl | exact World.drewN_drewN _ _ _⟩
                case measure => simp [intOf]; omega
              · have T3 := Lib.hid (TS.out false (decide_eq_false h3).symm)
                have F := Lib.hid (NN.out (fun e => h3 (by rw [e])))
                rw [← h0] at b0
                rw [← h1] at B1
                clear NN NX EX h0 h1 h2 h3 TD TS
                go_wp2_with (fail)
                refine wp_region_cls (C := fun w' => ∃ m, w' = w.drewN m) (by kernel_rfl) (by kernel_rfl) ⟨n + 1, rfl⟩ ?_
                repeat (first | go_big_quiet_skip | quiet_step (first | (with_reducible exact Calls.quiet_of (T2.out _)) | (with_reducible exact Calls.quiet_of (T3.out _)) | (fail)))
                refine wpQuiet_nil ?_
                rintro w2 ⟨m, rfl⟩
                go_wp2
                go_ret
                exact ⟨Lg.ret_bool F.out, _, by first | rfl | exact World.drewN_drewN _ _ _⟩
            · have T2 := Lib.hid (TD.out false (decide_eq_false h2).symm)
              have F := Lib.hid (NN.out (fun e => h2 (by rw [e])))
              rw [← h0] at b0
              rw [← h1] at B1
              clear NN NX EX h0 h1 h2 TD TS
              go_wp2_with (fail)
              refine wp_region_cls (C := fun w' => ∃ m, w' = w.drewN m) (by kernel_rfl) (by kernel_rfl) ⟨n + 1, rfl⟩ ?_
              repeat (first | go_big_quiet_skip | quiet_step (first | (with_reducible exact Calls.quiet_of (T2.out _)) | (fail)))
              refine wpQuiet_nil ?_
              rintro w2 ⟨m, rfl⟩
              go_wp2
              go_ret
              exact ⟨Lg.ret_bool F.out, _, by first | rfl | exact World.drewN_drewN _ _ _⟩
          · have F := Lib.hid (NN.out (fun e => h1 (by rw [e])))
            have s1 := Lg.s_ne h1
            rw [← h0] at b0
            clear NN NX EX h0 h1 TD TS
            go_wp2_with (fail)
            go_quiet (fail)
            go_wp2
            go_ret
            exact ⟨Lg.ret_bool F.out, _, by first | rfl | exact World.drewN_drewN _ _ _⟩
        · have F := Lib.hid (NN.out (fun e => h0 (by rw [e])))
          have s1 := Lg.s_ne h0
          clear NN NX EX h0 TD TS
          go_wp2_with (fail)
          go_quiet (fail)
          go_wp2
          go_ret
          exact ⟨Lg.ret_bool F.out, _, by first | rfl | exact World.drewN_drewN _ _ _⟩
      · obtain rfl : k = l.length := by omega
        have F := Lib.hid (YES.out HE.out UP.out)
        go_wp2_with (fail)
        go_ret
        exact ⟨Lg.ret_bool F.out, n, rfl⟩
  · have i0 : ((l.length : Int) != (m.length : Int)) = true := by rw [bne_iff_ne]; omega
    have F := Lib.hid (NE.out (fun e => he (by rw [e])))
    go_enter Tryz.func48, Tryz.ntmps48
    go_wp2_with (fail)
    go_ret
    exact ⟨Lg.ret_bool F.out, 0, rfl⟩
end Go.Proofs.YtnheahologecfaaGreatDoor.Ops
/- RgFiles, what a claim needs of it (prune.py). -/
namespace Go.Proofs.YtnheahologecfaaGreatDoor
open Go.RowKit
set_option linter.unusedVariables false
set_option maxRecDepth 100000
set_option maxHeartbeats 2000000 in
theorem rfiles_any (A : Option Addr) (l : List Fl) (c : Nat) (hl : l.length ≤ 60) (hok : ∀ t ∈ l, t.Ok) (w : World) (hr : Fls w w.heap.size A l) :
    Calls Tryz.prog 208 #[.slice A l.length c] w fun e w' => e = .returned (.string (bs (Pk.list (l.map Fl.b)))) ∧ Below w.heap.size w w' := by
  go_enter Tryz.func208, Tryz.ntmps208
  go_wp2_with (fail)
  go_loopw [3, 4] (fun v i wx => ∃ k : Nat, i = .int .i64 k ∧ k ≤ l.length ∧ wx.ownsRow w.heap.size 9 1 v k ((l.take k).map fun t => Value.string (bs t.b)) ∧ Below w.heap.size w wx) (fun _ i _ => l.length - (intOf i).toNat)
  case atStart => exact ⟨0, rfl, by omega, by simpa using World.ownsRow_nil _ _ _ _, Below.refl _ _⟩
  case round =>
    obtain ⟨k, rfl, hk, hown, hbx⟩ := hrel
    rename World => wx
    by_cases hlt : k < l.length
    · obtain ⟨ad, rfl, had, hcs⟩ := hr (by omega)
      have hkI : (k : Int) < (l.length : Int) := by omega
      have c0 : ∀ w', Below wx.heap.size wx w' → w'.cell? (ad.add (k * 2)) = some (.string l[k].p) := fun w' h => (((hbx.trans (h.mono hbx.size)).cell (by rw [block_of_add]; exact had))).trans (hcs k hlt).1
      have c1 : ∀ w', Below wx.heap.size wx w' → w'.cell? ⟨(ad.add (k * 2)).block, (ad.add (k * 2)).off + 1, none⟩ = some (.string l[k].d) := fun w' h => ((hbx.trans (h.mono hbx.size)).cell (p := (ad.add (k * 2)).add 1) (by rw [block_of_add, block_of_add]; exact had)).trans (hcs k hlt).2
      have hok1 := hok _ (List.getElem_mem hlt)
      have TK : Hid (((l.take (k + 1)).map fun t => Value.string (bs t.b)) = ((l.take k).map fun t => Value.string (bs t.b)) ++ [.string (bs l[k].b)]) := Lib.hid (by rw [List.take_succ_eq_append_getElem hlt, List.map_append]; rfl)
      clear hcs
      generalize l[k] = t at *
      have FB : Hid (bs (Pk.text (tl t.p)) ++ bs (Pk.text (tl t.d)) = bs t.b) := Lib.hid (bs_append _ _)
      have x1 := textlen_le t.p (by have := hok1.p; omega)
      have x2 := textlen_le t.d (by have := hok1.d; omega)
      obtain ⟨X, eX⟩ : ∃ X, X = bs (Pk.text (tl t.p)) := ⟨_, rfl⟩
      obtain ⟨Y, eY⟩ : ∃ X, X = bs (Pk.text (tl t.d)) := ⟨_, rfl⟩
      have p1 := hok1.p
      have p2 := hok1.d
      have TP : Hid (∀ W, Calls Tryz.prog 209 #[.string t.p] W fun e w' => e = .returned (.string X) ∧ Below W.heap.size W w') := Lib.hid (by rw [eX]; exact fun W => reftext_any t.p (by omega) W)
      have TD : Hid (∀ W, Calls Tryz.prog 209 #[.string t.d] W fun e w' => e = .returned (.string Y) ∧ Below W.heap.size W w') := Lib.hid (by rw [eY]; exact fun W => reftext_any t.d (by omega) W)
      rw [← eX, ← eY] at FB
      rw [← eX] at x1
      rw [← eY] at x2
      have hXY : X.size + Y.size ≤ 9223372036854775807 := by omega
      have hk9 : k + 1 ≤ 1000000000 := by omega
      clear eX eY hok1 x1 x2 p1 p2
      go_wp2_with (fail)
      refine wp_region_mix (C := fun w' => Below wx.heap.size wx w') 14 (by kernel_rfl) (by kernel_rfl) (fun _ _ d _ _ h => by cases d <;> exact h) (Below.refl _ _).drew ?_
      simp only [List.take_succ_cons, List.take_zero, List.drop_succ_cons, List.drop_zero]
      repeat (quiet_step (first | (intro _; rfl) | (intro _; rw [if_neg (by omega)]; exact ⟨rfl, rfl⟩) | (intro hss; (first | rw [c0 _ hss] | rw [c1 _ hss]); exact ⟨rfl, rfl⟩) | (intro hss; go_at_call 209; first | ((with_reducible refine (TP.out _).mono ?_); rintro e w' ⟨rfl, hb'⟩; exact ⟨rfl, hss.trans (hb'.mono hss.size)⟩) | ((with_reducible refine (TD.out _).mono ?_); rintro e w' ⟨rfl, hb'⟩; exact ⟨rfl, hss.trans (hb'.mono hss.size)⟩))))
      refine wpQuiet_nil ?_
      intro w1 hb1
      have hown1 := own_later hown hb1
      have hbx2 := hbx.trans (hb1.mono hbx.size)
      have hB := hbx2.size
      clear hown
      go_wp2_with (at_builtin; refine append_one rfl (.tmp 11) (.tmp 25) 38 rfl w.heap.size 9 _ 16 Tryz.underlying38 str_info rfl (by decide) _ k _ rfl hown1 (.string (X ++ Y)) rfl rfl hk9 hB hbx2 ?_; intro v' w2 hown2 hb2 _)
      go_roundw
      case rel =>
        refine ⟨k + 1, by go_num, by omega, ?_, hb2⟩
        rw [TK.out, ← FB.out]
        exact hown2
      case measure => simp [intOf]; omega
    · obtain rfl : k = l.length := by omega
      rw [List.take_length] at hown
      obtain ⟨p, m, c', rfl⟩ := own_form hown
      have hm : m = l.length := by
        rcases hown.2 with ⟨h1, h2⟩ | ⟨g, cap, cur, h1, _⟩
        · injection h1; omega
        · injection h1
      subst hm
      have hst : Strs wx wx.heap.size p (l.map fun t => bs t.b) := by
        have := Reads.of_own hown
        unfold Strs
        rw [List.length_map, List.map_map]
        exact this
      have hfl : (((l.map fun t => bs t.b).map tl).flatMap Pk.text).length ≤ 500000000 := by
        have h1 := flat_le (l.map fun t => bs t.b) 4000 (by omega) (fun x hx => by
          obtain ⟨t, h1, rfl⟩ := List.mem_map.1 hx
          exact (hok t h1).b_le)
        have h2 : (l.map fun t => bs t.b).length * (4000 + 21) ≤ 60 * (4000 + 21) := Nat.mul_le_mul_right _ (by simpa using hl)
        omega
      have LC := reflist_any p (l.map fun t => bs t.b) c' wx hst hfl
      rw [List.length_map, show ((l.map fun t => bs t.b).map tl) = l.map Fl.b by rw [List.map_map]; rfl] at LC
      have LCH := Lib.hid LC
      clear LC hst hfl hown
      go_wp2_with (go_at_call 235; ((with_reducible refine (LCH.out).mono ?_); rintro e w1 ⟨rfl, hb1⟩))
      go_ret
      exact ⟨rfl, hbx.trans (hb1.mono hbx.size)⟩
end Go.Proofs.YtnheahologecfaaGreatDoor
/- RgGraph, what a claim needs of it (prune.py). -/
namespace Go.Proofs.YtnheahologecfaaGreatDoor
open Go.RowKit
set_option linter.unusedVariables false
set_option maxRecDepth 100000
set_option maxHeartbeats 4000000 in
theorem rgraph_any (A : Option Addr) (l : List Tg) (c : Nat) (hl : l.length ≤ 20) (hok : ∀ t ∈ l, t.Ok) (w : World) (hr : Tgs w w.heap.size A l) :
    Calls Tryz.prog 207 #[.slice A l.length c] w fun e w' => e = .returned (.string (bs (Pk.list (l.map Tg.b)))) ∧ Below w.heap.size w w' := by
  go_enter Tryz.func207, Tryz.ntmps207
  go_wp2_with (fail)
  go_loopw [3, 4] (fun v i wx => ∃ k : Nat, i = .int .i64 k ∧ k ≤ l.length ∧ wx.ownsRow w.heap.size 9 1 v k ((l.take k).map fun t => Value.string (bs t.b)) ∧ Below w.heap.size w wx) (fun _ i _ => l.length - (intOf i).toNat)
  case atStart => exact ⟨0, rfl, by omega, by simpa using World.ownsRow_nil _ _ _ _, Below.refl _ _⟩
  case round =>
    obtain ⟨k, rfl, hk, hown, hbx⟩ := hrel
    rename World => wx
    by_cases hlt : k < l.length
    · obtain ⟨ad, rfl, had, hcs⟩ := hr (by omega)
      obtain ⟨Ad, cd, As, cs, d0, d1, d2, d3, hd, hs⟩ := hcs k hlt
      have hkI : (k : Int) < (l.length : Int) := by omega
      have hB4 : (ad.add (k * 4)).block < w.heap.size := by rw [block_of_add]; exact had
      have hin : ∀ w', Below wx.heap.size wx w' → Below w.heap.size w w' := fun w' h => hbx.trans (h.mono hbx.size)
      have c0 : ∀ w', Below wx.heap.size wx w' → w'.cell? (ad.add (k * 4)) = some (.string l[k].n) := fun w' h => ((hin w' h).cell hB4).trans d0
      have c1 : ∀ w', Below wx.heap.size wx w' → w'.cell? ⟨(ad.add (k * 4)).block, (ad.add (k * 4)).off + 1, none⟩ = some (.string l[k].c) := fun w' h => ((hin w' h).cell (p := (ad.add (k * 4)).add 1) hB4).trans d1
      have c2 : ∀ w', Below wx.heap.size wx w' → w'.cell? ⟨(ad.add (k * 4)).block, (ad.add (k * 4)).off + 2, none⟩ = some (.slice Ad l[k].ds.length cd) := fun w' h => ((hin w' h).cell (p := (ad.add (k * 4)).add 2) hB4).trans d2
      have c3 : ∀ w', Below wx.heap.size wx w' → w'.cell? ⟨(ad.add (k * 4)).block, (ad.add (k * 4)).off + 3, none⟩ = some (.slice As l[k].ss.length cs) := fun w' h => ((hin w' h).cell (p := (ad.add (k * 4)).add 3) hB4).trans d3
      have hok1 := hok _ (List.getElem_mem hlt)
      have TK : Hid (((l.take (k + 1)).map fun t => Value.string (bs t.b)) = ((l.take k).map fun t => Value.string (bs t.b)) ++ [.string (bs l[k].b)]) := Lib.hid (by rw [List.take_succ_eq_append_getElem hlt, List.map_append]; rfl)
      clear hcs d0 d1 d2 d3
      generalize l[k] = t at *
      have FB := Lib.hid (targetB_eq (tl t.n) (tl t.c) (t.ds.map tl) (t.ss.map tl))
      have hbl : Hid (targetB (tl t.n) (tl t.c) (t.ds.map tl) (t.ss.map tl) = t.b) := Lib.hid rfl
      have p1 := hok1.n
      have p2 := hok1.c
      have p3 := hok1.ds_le
      have p4 := hok1.ss_le
      have x1 := textlen_le t.n (by omega)
      have x2 := textlen_le t.c (by omega)
      have x3 := listlen_le t.ds (by omega)
      have x4 := listlen_le t.ss (by omega)
      obtain ⟨X, eX⟩ : ∃ X, X = bs (Pk.text (tl t.n)) := ⟨_, rfl⟩
      obtain ⟨Y, eY⟩ : ∃ X, X = bs (Pk.text (tl t.c)) := ⟨_, rfl⟩
      obtain ⟨U, eU⟩ : ∃ X, X = bs (Pk.list (t.ds.map tl)) := ⟨_, rfl⟩
      obtain ⟨V, eV⟩ : ∃ X, X = bs (Pk.list (t.ss.map tl)) := ⟨_, rfl⟩
      rw [← eX, ← eY, ← eU, ← eV] at FB
      rw [← eX] at x1
      rw [← eY] at x2
      rw [← eU] at x3
      rw [← eV] at x4
      have TP : Hid (∀ W, Calls Tryz.prog 209 #[.string t.n] W fun e w' => e = .returned (.string X) ∧ Below W.heap.size W w') := Lib.hid (by rw [eX]; exact fun W => reftext_any t.n (by omega) W)
      have TD : Hid (∀ W, Calls Tryz.prog 209 #[.string t.c] W fun e w' => e = .returned (.string Y) ∧ Below W.heap.size W w') := Lib.hid (by rw [eY]; exact fun W => reftext_any t.c (by omega) W)
      have LD : Hid (∀ W, Below wx.heap.size wx W → Calls Tryz.prog 235 #[.slice Ad t.ds.length cd] W fun e w' => e = .returned (.string U) ∧ Below W.heap.size W w') := Lib.hid (by rw [eU]; exact fun W h => reflist_any Ad t.ds cd W ((hd.below (hin W h)).more (hin W h).size) (by omega))
      have LS : Hid (∀ W, Below wx.heap.size wx W → Calls Tryz.prog 235 #[.slice As t.ss.length cs] W fun e w' => e = .returned (.string V) ∧ Below W.heap.size W w') := Lib.hid (by rw [eV]; exact fun W h => reflist_any As t.ss cs W ((hs.below (hin W h)).more (hin W h).size) (by omega))
      have hXY : X.size + Y.size ≤ 9223372036854775807 := by omega
      have hXYU : (X ++ Y).size + U.size ≤ 9223372036854775807 := by rw [ByteArray.size_append]; omega
      have hXYU2 : X.size + Y.size + U.size ≤ 9223372036854775807 := by omega
      have hXYUV2 : X.size + Y.size + U.size + V.size ≤ 9223372036854775807 := by omega
      have hXYUV : (X ++ Y ++ U).size + V.size ≤ 9223372036854775807 := by rw [ByteArray.size_append, ByteArray.size_append]; omega
      have hk9 : k + 1 ≤ 1000000000 := by omega
      clear eX eY eU eV hok1 x1 x2 x3 x4 p1 p2 p3 p4 hd hs
      go_wp2_with (fail)
      refine wp_region_mix (C := fun w' => Below wx.heap.size wx w') 28 (by kernel_rfl) (by kernel_rfl) (fun _ _ d _ _ h => by cases d <;> exact h) (Below.refl _ _).drew ?_
      simp only [List.take_succ_cons, List.take_zero, List.drop_succ_cons, List.drop_zero]
      repeat (quiet_step (first | (intro _; rfl) | (intro _; rw [if_neg (by omega)]; exact ⟨rfl, rfl⟩) | (intro hss; (first | rw [c0 _ hss] | rw [c1 _ hss] | rw [c2 _ hss] | rw [c3 _ hss]); exact ⟨rfl, rfl⟩) | (intro hss; go_at_call 209; first | ((with_reducible refine (TP.out _).mono ?_); rintro e w' ⟨rfl, hb'⟩; exact ⟨rfl, hss.trans (hb'.mono hss.size)⟩) | ((with_reducible refine (TD.out _).mono ?_); rintro e w' ⟨rfl, hb'⟩; exact ⟨rfl, hss.trans (hb'.mono hss.size)⟩)) | (intro hss; go_at_call 235; first | ((with_reducible refine (LD.out _ hss).mono ?_); rintro e w' ⟨rfl, hb'⟩; exact ⟨rfl, hss.trans (hb'.mono hss.size)⟩) | ((with_reducible refine (LS.out _ hss).mono ?_); rintro e w' ⟨rfl, hb'⟩; exact ⟨rfl, hss.trans (hb'.mono hss.size)⟩))))
      refine wpQuiet_nil ?_
      intro w1 hb1
      have hown1 := own_later hown hb1
      have hbx2 := hbx.trans (hb1.mono hbx.size)
      have hB := hbx2.size
      clear hown
      go_wp2_with (at_builtin; refine append_one rfl (.tmp 11) (.tmp 39) 38 rfl w.heap.size 9 _ 16 Tryz.underlying38 str_info rfl (by decide) _ k _ rfl hown1 (.string (X ++ Y ++ U ++ V)) rfl rfl hk9 hB hbx2 ?_; intro v' w2 hown2 hb2 _)
      go_roundw
      case rel =>
        refine ⟨k + 1, by go_num, by omega, ?_, hb2⟩
        rw [TK.out, ← hbl.out, ← FB.out]
        exact hown2
      case measure => simp [intOf]; omega
    · obtain rfl : k = l.length := by omega
      rw [List.take_length] at hown
      obtain ⟨p, m, c', rfl⟩ := own_form hown
      have hm : m = l.length := by
        rcases hown.2 with ⟨h1, h2⟩ | ⟨g, cap, cur, h1, _⟩
        · injection h1; omega
        · injection h1
      subst hm
      have hst : Strs wx wx.heap.size p (l.map fun t => bs t.b) := by
        have := Reads.of_own hown
        unfold Strs
        rw [List.length_map, List.map_map]
        exact this
      have hfl : (((l.map fun t => bs t.b).map tl).flatMap Pk.text).length ≤ 500000000 := by
        have h1 := flat_le (l.map fun t => bs t.b) 10000 (by omega) (fun x hx => by
          obtain ⟨t, h1, rfl⟩ := List.mem_map.1 hx
          exact (hok t h1).b_le)
        have h2 : (l.map fun t => bs t.b).length * (10000 + 21) ≤ 20 * (10000 + 21) := Nat.mul_le_mul_right _ (by simpa using hl)
        omega
      have LC := reflist_any p (l.map fun t => bs t.b) c' wx hst hfl
      rw [List.length_map, show ((l.map fun t => bs t.b).map tl) = l.map Tg.b by rw [List.map_map]; rfl] at LC
      have LCH := Lib.hid LC
      clear LC hst hfl hown
      go_wp2_with (go_at_call 235; ((with_reducible refine (LCH.out).mono ?_); rintro e w1 ⟨rfl, hb1⟩))
      go_ret
      exact ⟨rfl, hbx.trans (hb1.mono hbx.size)⟩
end Go.Proofs.YtnheahologecfaaGreatDoor
/- KeyOrd, what a claim needs of it (prune.py). -/
namespace Go.Proofs.YtnheahologecfaaGreatDoor
open Go.RowKit
set_option linter.unusedVariables false
set_option maxRecDepth 100000
set_option maxHeartbeats 2000000 in
theorem rorder_any (A F : Option Addr) (l : List Tg) (fs : List Fl) (c d : Nat) (g : ByteArray) (hg : g.size ≤ 100) (h1 : l.length ≤ 20) (h2 : ∀ t ∈ l, t.Ok) (h3 : fs.length ≤ 60) (h4 : ∀ f ∈ fs, f.Ok) (w : World) (hr : Tgs w w.heap.size A l) (hq : Fls w w.heap.size F fs) :
    Calls Tryz.prog 147 #[.slice A l.length c, .slice F fs.length d, .string g] w fun e w' => e = .returned (.string (orderB l fs g)) ∧ Below w.heap.size w w' := by
  have KG := Lib.hid (rgraph_any A l c h1 h2 w hr)
  have KF : Hid (∀ W, Below w.heap.size w W → Calls Tryz.prog 208 #[.slice F fs.length d] W fun e w' => e = .returned (.string (bs (Pk.list (fs.map Fl.b)))) ∧ Below W.heap.size W w') := Lib.hid (fun W hW => rfiles_any F fs d h3 h4 W ((hq.below hW).more hW.size))
  have TX : Hid (∀ W, Calls Tryz.prog 209 #[.string g] W fun e w' => e = .returned (.string (bs (Pk.text (tl g)))) ∧ Below W.heap.size W w') := Lib.hid (fun W => reftext_any g (by omega) W)
  have OB : Hid (orderB l fs g = bs (Blk.sum (tl (bs (Pk.list (l.map Tg.b)) ++ bs (Pk.list (fs.map Fl.b)) ++ bs (Pk.text (tl g)))))) := Lib.hid rfl
  have x1 := glist_le h1 h2
  have x2 := flist_le h3 h4
  have x3 := textlen_le g (by omega)
  generalize bs (Pk.list (l.map Tg.b)) = X at *
  generalize bs (Pk.list (fs.map Fl.b)) = Y at *
  generalize bs (Pk.text (tl g)) = Z at *
  generalize orderB l fs g = R at *
  have hXY : X.size + Y.size ≤ 9223372036854775807 := by omega
  have hXYZ : X.size + Y.size + Z.size ≤ 9223372036854775807 := by omega
  have hXYZ' : (X ++ Y).size + Z.size ≤ 9223372036854775807 := by rw [ByteArray.size_append]; omega
  have SM : Hid (∀ W, Calls Tryz.prog 164 #[.string (X ++ Y ++ Z)] W fun e w' => e = .returned (.string R) ∧ Below W.heap.size W w') := Lib.hid (by rw [OB.out]; exact fun W => refsum_any (X ++ Y ++ Z) (by rw [ByteArray.size_append, ByteArray.size_append]; omega) W)
  clear x1 x2 x3 h2 h4
  go_enter Tryz.func147, Tryz.ntmps147
  go_wp2_with (first | (go_at_call 207; ((with_reducible refine (KG.out).mono ?_); rintro e w1 ⟨rfl, hb1⟩)) | (go_at_call 208; ((with_reducible refine (KF.out _ hb1).mono ?_); rintro e w2 ⟨rfl, hb2⟩; have hb12 := hb1.trans (hb2.mono hb1.size))) | (go_at_call 209; ((with_reducible refine (TX.out _).mono ?_); rintro e w3 ⟨rfl, hb3⟩; have hb13 := hb12.trans (hb3.mono hb12.size))) | (go_at_call 164; ((with_reducible refine (SM.out _).mono ?_); rintro e w4 ⟨rfl, hb4⟩)))
  go_ret
  exact ⟨rfl, hb13.trans (hb4.mono hb13.size)⟩
end Go.Proofs.YtnheahologecfaaGreatDoor
