/- Joined by mkmerged.py: FlRow, BackP, ReadFs, KOrd, FlRoot, SameG2, KeyInj. -/
import Derived.Test.YtmlaolmaopjhbaaGreatDoorMi22
import Derived.Test.YtmlaolmaopjhbaaGreatDoorMi21
import Derived.Test.YtmlaolmaopjhbaaGreatDoorMi15
import Derived.Test.YtmlaolmaopjhbaaGreatDoorMi14
import Derived.Test.YtmlaolmaopjhbaaGreatDoorMi18
import Derived.Test.YtmlaolmaopjhbaaGreatDoorMi02
import Derived.Deep.Draws
import Derived.BigQuiet
import Derived.Test.YtmlaolmaopjhbaaGreatDoorMi03
/- FlRow, what a claim needs of it (prune.py). -/
namespace Go.Proofs.YtmlaolmaopjhbaaGreatDoor
open Go.RowKit
set_option linter.unusedVariables false
set_option maxRecDepth 100000
def mkFl (f : List UInt8 × List UInt8) : Fl := ⟨bs f.1, bs f.2⟩
theorem filesC_get : ∀ (l : List (List UInt8 × List UInt8)) (k : Nat) (hk : k < l.length), (filesC l)[k * 2]? = some (.string (bs l[k].1)) ∧ (filesC l)[k * 2 + 1]? = some (.string (bs l[k].2))
  | [], k, hk => absurd hk (by simp)
  | f :: l, 0, hk => by simp [filesC]
  | f :: l, k + 1, hk => by
    have := filesC_get l k (by simpa using hk)
    have e : filesC (f :: l) = [.string (bs f.1), .string (bs f.2)] ++ filesC l := by simp [filesC]
    rw [e, show (k + 1) * 2 = k * 2 + 2 by omega, show k * 2 + 2 + 1 = (k * 2 + 1) + 2 by omega]
    simpa using this
theorem fls_of_own {w : World} {B : Nat} {A : Option Addr} {m c : Nat} {l : List (List UInt8 × List UInt8)} (h : w.ownsRow B 131 2 (.slice A m c) l.length (filesC l)) : m = l.length ∧ Fls w w.heap.size A (l.map mkFl) := by
  have hm : m = l.length := by
    rcases h.2 with ⟨h1, h2⟩ | ⟨g, cap, cur, h1, _⟩
    · injection h1; omega
    · injection h1
  subst hm
  have hr := Reads.of_own h
  refine ⟨rfl, fun hl => ?_⟩
  obtain ⟨ad, e, hb, hc⟩ := hr.2 (by simpa using hl)
  refine ⟨ad, e, hb, fun k hk => ?_⟩
  have hk' : k < l.length := by simpa using hk
  obtain ⟨g0, g1⟩ := filesC_get l k hk'
  rw [List.getElem_map]
  refine ⟨hc _ _ g0, ?_⟩
  have := hc _ _ g1
  have e2 : (ad.add (k * 2)).add 1 = ad.add (k * 2 + 1) := by
    unfold Addr.add
    by_cases hk0 : k * 2 = 0 <;> simp [hk0, Nat.add_assoc]
  rw [e2]
  exact this
end Go.Proofs.YtmlaolmaopjhbaaGreatDoor
/- BackP, what a claim needs of it (prune.py). -/
namespace Go.Proofs.YtmlaolmaopjhbaaGreatDoor
open Go.RowKit
set_option linter.unusedVariables false
set_option maxRecDepth 100000
def laysT (t : TgL) : List UInt8 := targetB t.n t.c t.ds t.ss
def laysF (f : List UInt8 × List UInt8) : List UInt8 := fileB f.1 f.2
def unTg (t : Tg) : TgL := ⟨tl t.n, tl t.c, t.ds.map tl, t.ss.map tl⟩
def unFl (f : Fl) : List UInt8 × List UInt8 := (tl f.p, tl f.d)
theorem map_bt : ∀ l : List ByteArray, (l.map tl).map bs = l
  | [] => rfl
  | a :: l => by rw [List.map_cons, List.map_cons, map_bt l]; rfl
theorem mk_un (t : Tg) : mkTg (unTg t) = t := by
  obtain ⟨n, c, ds, ss⟩ := t
  unfold mkTg unTg
  rw [map_bt, map_bt]
  rfl
theorem map_un (l : List Tg) : (l.map unTg).map mkTg = l := by
  rw [List.map_map]
  exact (List.map_congr_left (fun t _ => mk_un t)).trans (List.map_id l)
theorem map_unF (l : List Fl) : (l.map unFl).map mkFl = l := by
  rw [List.map_map]
  exact (List.map_congr_left (fun t _ => (show mkFl (unFl t) = t from rfl))).trans (List.map_id l)
theorem back_T {t : TgL} (hn : t.n.length < 10000000) (hc : t.c.length < 10000000) (hd : (t.ds.flatMap Pk.text).length < 10000000) (hs : (t.ss.flatMap Pk.text).length < 10000000) : takesT ⟨laysT t, 0⟩ = (t, ⟨[], 0⟩) := by
  have e0 : laysT t = Pk.text t.n ++ (Pk.text t.c ++ (Pk.list t.ds ++ Pk.list t.ss)) := by simp [laysT, targetB]
  simp only [takesT, e0, Pk.text_read hn, Pk.text_read hc, Pk.list_read hd, Pk.list_read' hs]
theorem back_F {f : List UInt8 × List UInt8} (hp : f.1.length < 10000000) (hd : f.2.length < 10000000) : takesF ⟨laysF f, 0⟩ = (f, ⟨[], 0⟩) := by
  simp only [takesF, laysF, fileB, Pk.text_read hp, Pk.text_read' hd]
theorem graph_back (l : List Tg) (h1 : l.length ≤ 20) (h2 : ∀ t ∈ l, t.Ok) : Pk.all takesT (Pk.list (l.map Tg.b)) = (l.map unTg, 0) := by
  have e : l.map Tg.b = (l.map unTg).map laysT := by rw [List.map_map]; rfl
  have hf := Tg.flat_ok h1 h2
  rw [e] at hf ⊢
  refine Pk.all_back (fun x hx => ?_) (by omega)
  obtain ⟨t, ht, rfl⟩ := List.mem_map.1 hx
  have ok := h2 t ht
  have a := ok.n; have b := ok.c; have c := ok.ds_le; have d := ok.ss_le
  rw [Lib.size_eq] at a b
  exact back_T (show (tl t.n).length < _ from Nat.lt_of_le_of_lt a (by decide)) (show (tl t.c).length < _ from Nat.lt_of_le_of_lt b (by decide)) (show ((t.ds.map tl).flatMap Pk.text).length < _ by omega) (show ((t.ss.map tl).flatMap Pk.text).length < _ by omega)
theorem files_back (l : List Fl) (h1 : l.length ≤ 60) (h2 : ∀ t ∈ l, t.Ok) : Pk.all takesF (Pk.list (l.map Fl.b)) = (l.map unFl, 0) := by
  have e : l.map Fl.b = (l.map unFl).map laysF := by rw [List.map_map]; rfl
  have hf := Fl.flat_ok h1 h2
  rw [e] at hf ⊢
  refine Pk.all_back (fun x hx => ?_) (by omega)
  obtain ⟨t, ht, rfl⟩ := List.mem_map.1 hx
  have ok := h2 t ht
  have a := ok.p; have b := ok.d
  rw [Lib.size_eq] at a b
  exact back_F (show (tl t.p).length < _ from Nat.lt_of_le_of_lt a (by decide)) (show (tl t.d).length < _ from Nat.lt_of_le_of_lt b (by decide))
end Go.Proofs.YtmlaolmaopjhbaaGreatDoor
/- ReadFs, what a claim needs of it (prune.py). -/
namespace Go.Proofs.YtmlaolmaopjhbaaGreatDoor
open Go.RowKit
set_option linter.unusedVariables false
set_option maxRecDepth 100000
theorem readFiles_any (l : List UInt8) (hl : l.length ≤ 500000000) (w : World) :
    Calls Tryz.prog 185 #[.string (bs l)] w (ReadFSays l w) := by
  have RF := Lib.hid (readF_any l hl w)
  go_enter Tryz.func185, Tryz.ntmps185
  go_wp2_with (go_at_call 216; ((with_reducible refine (RF.out).mono ?_); rintro e w1 ⟨v, rfl, hown, hb1⟩))
  go_ret2
  exact ⟨v, rfl, hown, hb1⟩
end Go.Proofs.YtmlaolmaopjhbaaGreatDoor
/- KOrd, what a claim needs of it (prune.py). -/
namespace Go.Proofs.YtmlaolmaopjhbaaGreatDoor
open Go.RowKit
set_option linter.unusedVariables false
set_option maxRecDepth 100000
theorem glist_le {l : List Tg} (hl : l.length ≤ 20) (hok : ∀ t ∈ l, t.Ok) : (bs (Pk.list (l.map Tg.b))).size ≤ 200441 := by
  have h1 := flat_le (l.map fun t => bs t.b) 10000 (by omega) (fun x hx => by
    obtain ⟨t, h1, rfl⟩ := List.mem_map.1 hx
    exact (hok t h1).b_le)
  have h2 : (l.map fun t => bs t.b).length * (10000 + 21) ≤ 20 * (10000 + 21) := Nat.mul_le_mul_right _ (by simpa using hl)
  have h3 := listlen_le (l.map fun t => bs t.b) (by omega)
  rw [show ((l.map fun t => bs t.b).map tl) = l.map Tg.b by rw [List.map_map]; rfl] at h1 h3
  omega
theorem flist_le {l : List Fl} (hl : l.length ≤ 60) (hok : ∀ t ∈ l, t.Ok) : (bs (Pk.list (l.map Fl.b))).size ≤ 241281 := by
  have h1 := flat_le (l.map fun t => bs t.b) 4000 (by omega) (fun x hx => by
    obtain ⟨t, h1, rfl⟩ := List.mem_map.1 hx
    exact (hok t h1).b_le)
  have h2 : (l.map fun t => bs t.b).length * (4000 + 21) ≤ 60 * (4000 + 21) := Nat.mul_le_mul_right _ (by simpa using hl)
  have h3 := listlen_le (l.map fun t => bs t.b) (by omega)
  rw [show ((l.map fun t => bs t.b).map tl) = l.map Fl.b by rw [List.map_map]; rfl] at h1 h3
  omega
def orderB (l : List Tg) (fs : List Fl) (g : ByteArray) : ByteArray := bs (Blk.sum (tl (bs (Pk.list (l.map Tg.b)) ++ bs (Pk.list (fs.map Fl.b)) ++ bs (Pk.text (tl g)))))
set_option maxHeartbeats 2000000 in
theorem korder_any (A F : Option Addr) (l : List Tg) (fs : List Fl) (c d : Nat) (g : ByteArray) (hg : g.size ≤ 100) (h1 : l.length ≤ 20) (h2 : ∀ t ∈ l, t.Ok) (h3 : fs.length ≤ 60) (h4 : ∀ f ∈ fs, f.Ok) (w : World) (ht : Tab w) (hr : Tgs w w.heap.size A l) (hq : Fls w w.heap.size F fs) :
    Calls Tryz.prog 191 #[.slice A l.length c, .slice F fs.length d, .string g] w fun e w' => e = .returned (.string (orderB l fs g)) ∧ Below w.heap.size w w' := by
  have KG := Lib.hid (kgraph_any A l c h1 h2 w ht hr)
  have KF : Hid (∀ W, Below w.heap.size w W → Calls Tryz.prog 194 #[.slice F fs.length d] W fun e w' => e = .returned (.string (bs (Pk.list (fs.map Fl.b)))) ∧ Below W.heap.size W w') := Lib.hid (fun W hW => kfiles_any F fs d h3 h4 W (ht.on hW) ((hq.below hW).more hW.size))
  have TX : Hid (∀ W, Below w.heap.size w W → Calls Tryz.prog 87 #[.string g] W fun e w' => e = .returned (.string (bs (Pk.text (tl g)))) ∧ Below W.heap.size W w') := Lib.hid (fun W hW => text_any g (by omega) W (ht.on hW))
  have OB : Hid (orderB l fs g = bs (Blk.sum (tl (bs (Pk.list (l.map Tg.b)) ++ bs (Pk.list (fs.map Fl.b)) ++ bs (Pk.text (tl g)))))) := Lib.hid rfl
  have x1 := glist_le h1 h2
  have x2 := flist_le h3 h4
  have x3 := textlen_le g (by omega)
  generalize bs (Pk.list (l.map Tg.b)) = X at *
  generalize bs (Pk.list (fs.map Fl.b)) = Y at *
  generalize bs (Pk.text (tl g)) = Z at *
  generalize orderB l fs g = R at *
  have hXY : X.size + Y.size ≤ 9223372036854775807 := by omega
  have hXYZ : X.size + Y.size + Z.size ≤ 9223372036854775807 := by omega
  have hXYZ' : (X ++ Y).size + Z.size ≤ 9223372036854775807 := by rw [ByteArray.size_append]; omega
  have SM : Hid (∀ W, Calls Tryz.prog 192 #[.string (X ++ Y ++ Z)] W fun e w' => e = .returned (.string R) ∧ Below W.heap.size W w') := Lib.hid (by rw [OB.out]; exact fun W => sum_any (X ++ Y ++ Z) (by rw [ByteArray.size_append, ByteArray.size_append]; omega) W)
  clear x1 x2 x3 h2 h4
  go_enter Tryz.func191, Tryz.ntmps191
  go_wp2_with (first | (go_at_call 81; ((with_reducible refine (KG.out).mono ?_); rintro e w1 ⟨rfl, hb1⟩)) | (go_at_call 194; ((with_reducible refine (KF.out _ hb1).mono ?_); rintro e w2 ⟨rfl, hb2⟩; have hb12 := hb1.trans (hb2.mono hb1.size))) | (go_at_call 87; ((with_reducible refine (TX.out _ hb12).mono ?_); rintro e w3 ⟨rfl, hb3⟩; have hb13 := hb12.trans (hb3.mono hb12.size))) | (go_at_call 192; ((with_reducible refine (SM.out _).mono ?_); rintro e w4 ⟨rfl, hb4⟩)))
  go_ret
  exact ⟨rfl, hb13.trans (hb4.mono hb13.size)⟩
end Go.Proofs.YtmlaolmaopjhbaaGreatDoor
/- FlRoot, what a claim needs of it (prune.py). -/
namespace Go.Proofs.YtmlaolmaopjhbaaGreatDoor
open Go.RowKit
set_option linter.unusedVariables false
theorem fls_root {w : World} {A : Option Addr} {l : List Fl} (h : Fs.Fls w A l) : Fls w w.heap.size A l := fun h0 => by
  obtain ⟨ad, e, hb, hc⟩ := h.2 h0
  refine ⟨ad, e, hb, fun k hk => ?_⟩
  obtain ⟨c0, c1⟩ := Fs.fc_at hk
  refine ⟨hc _ _ c0, ?_⟩
  have := hc _ _ c1
  have e2 : (ad.add (k * 2)).add 1 = ad.add (k * 2 + 1) := by
    unfold Addr.add
    by_cases hk0 : k * 2 = 0 <;> simp [hk0, Nat.add_assoc]
  rw [e2]
  exact this
end Go.Proofs.YtmlaolmaopjhbaaGreatDoor
/- SameG2, what a claim needs of it (prune.py). -/
namespace Go.Proofs.YtmlaolmaopjhbaaGreatDoor.Ops
open Go.RowKit
set_option linter.unusedVariables false
set_option maxRecDepth 100000
def Upto {α : Type} (l m : List α) (k : Nat) : Prop := ∀ j (hj : j < l.length) (hm : j < m.length), j < k → l[j] = m[j]
theorem Upto.zero {α : Type} (l m : List α) : Upto l m 0 := fun j _ _ h => by omega
theorem Upto.next {α : Type} {l m : List α} {k : Nat} (hk : k < l.length) (hm : k < m.length) (h : Upto l m k) (h1 : l[k] = m[k]) : Upto l m (k + 1) := fun j hj hjm hjk => by
  rcases Nat.lt_or_ge j k with h2 | h2
  · exact h j hj hjm h2
  · obtain rfl : j = k := by omega
    exact h1
theorem Upto.all {α : Type} {l m : List α} (he : l.length = m.length) (h : Upto l m l.length) : l = m := List.ext_getElem he fun j hj hm => h j hj hm hj
theorem Upto.ne {α : Type} {l m : List α} {k : Nat} (hk : k < l.length) (hm : k < m.length) (h : l[k] ≠ m[k]) : l ≠ m := fun e => h (by subst e; rfl)
theorem belowDN {B : Nat} {w w' : World} (h : Below B w w') (n : Nat) : Below B w (w'.drewN n) := ⟨h.os, h.tape, h.output, h.size, h.block⟩
end Go.Proofs.YtmlaolmaopjhbaaGreatDoor.Ops
/- KeyInj, what a claim needs of it (prune.py). -/
namespace Go.Proofs.YtmlaolmaopjhbaaGreatDoor
set_option linter.unusedVariables false
theorem Pk.list_inj {a b : List (List UInt8)} (ha : (a.flatMap Pk.text).length < 10000000) (hb : (b.flatMap Pk.text).length < 10000000) (h : Pk.list a = Pk.list b) : a = b := by
  have h1 := Pk.list_read' ha
  rw [h, Pk.list_read' hb] at h1
  exact (congrArg Prod.fst h1).symm
theorem tl_eq {a b : ByteArray} (h : tl a = tl b) : a = b := by
  cases a; cases b
  exact congrArg ByteArray.mk (Array.toList_inj.1 h)
theorem map_tl_eq : ∀ {l m : List ByteArray}, l.map tl = m.map tl → l = m
  | [], [], _ => rfl
  | [], _ :: _, h => by simp at h
  | _ :: _, [], h => by simp at h
  | a :: l, b :: m, h => by
    rw [List.map_cons, List.map_cons] at h
    injection h with h1 h2
    rw [tl_eq h1, map_tl_eq h2]
theorem Tg.b_read {t : Tg} (ok : t.Ok) : ∃ r : Pk.Rd, (Pk.Rd.text ⟨t.b, 0⟩) = (tl t.n, r) ∧ ∃ q : Pk.Rd, r.text = (tl t.c, q) ∧ ∃ p : Pk.Rd, q.list = (t.ds.map tl, p) ∧ p.list = (t.ss.map tl, ⟨[], 0⟩) := by
  have a := ok.n; have b := ok.c; have c := ok.ds_le; have d := ok.ss_le
  rw [Lib.size_eq] at a b
  have e0 : t.b = Pk.text (tl t.n) ++ (Pk.text (tl t.c) ++ (Pk.list (t.ds.map tl) ++ Pk.list (t.ss.map tl))) := by simp [Tg.b, targetB]
  rw [e0]
  exact ⟨_, Pk.text_read (show (tl t.n).length < _ from Nat.lt_of_le_of_lt a (by decide)) _, _, Pk.text_read (show (tl t.c).length < _ from Nat.lt_of_le_of_lt b (by decide)) _, _, Pk.list_read (by omega) _, Pk.list_read' (by omega)⟩
theorem Tg.b_inj {t u : Tg} (ht : t.Ok) (hu : u.Ok) (h : t.b = u.b) : t = u := by
  obtain ⟨r, h1, q, h2, p, h3, h4⟩ := Tg.b_read ht
  obtain ⟨r', k1, q', k2, p', k3, k4⟩ := Tg.b_read hu
  rw [h, k1] at h1
  injection h1 with e1 e2
  subst e2
  rw [k2] at h2
  injection h2 with e3 e4
  subst e4
  rw [k3] at h3
  injection h3 with e5 e6
  subst e6
  rw [k4] at h4
  injection h4 with e7 _
  cases t; cases u
  simp only at e1 e3 e5 e7
  rw [← tl_eq e1, ← tl_eq e3, ← map_tl_eq e5, ← map_tl_eq e7]
theorem map_b_inj : ∀ {l m : List Tg}, (∀ t ∈ l, t.Ok) → (∀ t ∈ m, t.Ok) → l.map Tg.b = m.map Tg.b → l = m
  | [], [], _, _, _ => rfl
  | [], _ :: _, _, _, h => by simp at h
  | _ :: _, [], _, _, h => by simp at h
  | a :: l, b :: m, hl, hm, h => by
    rw [List.map_cons, List.map_cons] at h
    injection h with h1 h2
    rw [Tg.b_inj (hl a (List.mem_cons_self ..)) (hm b (List.mem_cons_self ..)) h1, map_b_inj (fun t ht => hl t (List.mem_cons_of_mem _ ht)) (fun t ht => hm t (List.mem_cons_of_mem _ ht)) h2]
theorem flat_small {l : List Tg} (h1 : l.length ≤ 20) (h2 : ∀ t ∈ l, t.Ok) : ((l.map Tg.b).flatMap Pk.text).length < 10000000 := by
  have := glist_le h1 h2
  rw [bs_size] at this
  have h3 : ((l.map Tg.b).flatMap Pk.text).length ≤ (Pk.list (l.map Tg.b)).length := by
    show _ ≤ (Pk.text _).length
    unfold Pk.text
    simp only [List.length_append, List.length_cons, List.length_nil]
    omega
  omega
theorem graph_inj {l m : List Tg} (h1 : l.length ≤ 20) (h2 : ∀ t ∈ l, t.Ok) (k1 : m.length ≤ 20) (k2 : ∀ t ∈ m, t.Ok) : bs (Pk.list (l.map Tg.b)) = bs (Pk.list (m.map Tg.b)) ↔ l = m := by
  refine ⟨fun h => ?_, fun h => by rw [h]⟩
  have h3 : Pk.list (l.map Tg.b) = Pk.list (m.map Tg.b) := by
    have := congrArg tl h
    exact this
  exact map_b_inj h2 k2 (Pk.list_inj (flat_small h1 h2) (flat_small k1 k2) h3)
end Go.Proofs.YtmlaolmaopjhbaaGreatDoor
