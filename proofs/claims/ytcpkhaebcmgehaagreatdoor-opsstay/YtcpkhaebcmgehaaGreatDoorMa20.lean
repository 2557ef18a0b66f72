/- Joined by mkmerged.py: KOrd, KeyInj. -/
import Derived.Test.YtcpkhaebcmgehaaGreatDoorMa15
import Derived.Test.YtcpkhaebcmgehaaGreatDoorMa19
import Derived.Test.YtcpkhaebcmgehaaGreatDoorMa16
/- The contract of keys.Order. -/
namespace Go.Proofs.YtcpkhaebcmgehaaGreatDoor
open Go.RowKit
set_option linter.unusedVariables false
set_option maxRecDepth 100000
theorem glist_le {l : List Tg} (hl : l.length ≤ 20) (hok : ∀ t ∈ l, t.Ok) : (bs (Pk.list (l.map Tg.b))).size ≤ 200441 := by
  have h1 := flat_le (l.map fun t => bs t.b) 10000 (by omega) (fun x hx => by
    obtain ⟨t, h1, rfl⟩ := List.mem_map.1 hx
    exact (hok t h1).b_le)
  have h2 : (l.map fun t => bs t.b).length * (10000 + 21) ≤ 20 * (10000 + 21) := Nat.mul_le_mul_right _ (by simpa using hl)
  have h3 := listlen_le (l.map fun t => bs t.b) (by omega)
  rw [show ((l.map fun t => bs t.b).map tl) = l.map Tg.b by rw [List.map_map]; rfl] at h1 h3
  omega
theorem flist_le {l : List Fl} (hl : l.length ≤ 60) (hok : ∀ t ∈ l, t.Ok) : (bs (Pk.list (l.map Fl.b))).size ≤ 241281 := by
  have h1 := flat_le (l.map fun t => bs t.b) 4000 (by omega) (fun x hx => by
    obtain ⟨t, h1, rfl⟩ := List.mem_map.1 hx
    exact (hok t h1).b_le)
  have h2 : (l.map fun t => bs t.b).length * (4000 + 21) ≤ 60 * (4000 + 21) := Nat.mul_le_mul_right _ (by simpa using hl)
  have h3 := listlen_le (l.map fun t => bs t.b) (by omega)
  rw [show ((l.map fun t => bs t.b).map tl) = l.map Fl.b by rw [List.map_map]; rfl] at h1 h3
  omega
/-- the digest of what is to be built -/
def orderB (l : List Tg) (fs : List Fl) (g : ByteArray) : ByteArray := bs (Blk.sum (tl (bs (Pk.list (l.map Tg.b)) ++ bs (Pk.list (fs.map Fl.b)) ++ bs (Pk.text (tl g)))))
set_option maxHeartbeats 2000000 in
theorem korder_any (A F : Option Addr) (l : List Tg) (fs : List Fl) (c d : Nat) (g : ByteArray) (hg : g.size ≤ 100) (h1 : l.length ≤ 20) (h2 : ∀ t ∈ l, t.Ok) (h3 : fs.length ≤ 60) (h4 : ∀ f ∈ fs, f.Ok) (w : World) (ht : Tab w) (hr : Tgs w w.heap.size A l) (hq : Fls w w.heap.size F fs) :
    Calls Tryz.prog 17 #[.slice A l.length c, .slice F fs.length d, .string g] w fun e w' => e = .returned (.string (orderB l fs g)) ∧ Below w.heap.size w w' := by
  have KG := Lib.hid (kgraph_any A l c h1 h2 w ht hr)
  have KF : Hid (∀ W, Below w.heap.size w W → Calls Tryz.prog 45 #[.slice F fs.length d] W fun e w' => e = .returned (.string (bs (Pk.list (fs.map Fl.b)))) ∧ Below W.heap.size W w') := Lib.hid (fun W hW => kfiles_any F fs d h3 h4 W (ht.on hW) ((hq.below hW).more hW.size))
  have TX : Hid (∀ W, Below w.heap.size w W → Calls Tryz.prog 34 #[.string g] W fun e w' => e = .returned (.string (bs (Pk.text (tl g)))) ∧ Below W.heap.size W w') := Lib.hid (fun W hW => text_any g (by omega) W (ht.on hW))
  have OB : Hid (orderB l fs g = bs (Blk.sum (tl (bs (Pk.list (l.map Tg.b)) ++ bs (Pk.list (fs.map Fl.b)) ++ bs (Pk.text (tl g)))))) := Lib.hid rfl
  have x1 := glist_le h1 h2
  have x2 := flist_le h3 h4
  have x3 := textlen_le g (by omega)
  generalize bs (Pk.list (l.map Tg.b)) = X at *
  generalize bs (Pk.list (fs.map Fl.b)) = Y at *
  generalize bs (Pk.text (tl g)) = Z at *
  generalize orderB l fs g = R at *
  have hXY : X.size + Y.size ≤ 9223372036854775807 := by omega
  have hXYZ : X.size + Y.size + Z.size ≤ 9223372036854775807 := by omega
  have hXYZ' : (X ++ Y).size + Z.size ≤ 9223372036854775807 := by rw [ByteArray.size_append]; omega
  have SM : Hid (∀ W, Calls Tryz.prog 33 #[.string (X ++ Y ++ Z)] W fun e w' => e = .returned (.string R) ∧ Below W.heap.size W w') := Lib.hid (by rw [OB.out]; exact fun W => sum_any (X ++ Y ++ Z) (by rw [ByteArray.size_append, ByteArray.size_append]; omega) W)
  clear x1 x2 x3 h2 h4
  go_enter Tryz.func17, Tryz.ntmps17
  go_wp2_with (first | (go_at_call 44; ((with_reducible refine (KG.out).mono ?_); rintro e w1 ⟨rfl, hb1⟩)) | (go_at_call 45; ((with_reducible refine (KF.out _ hb1).mono ?_); rintro e w2 ⟨rfl, hb2⟩; have hb12 := hb1.trans (hb2.mono hb1.size))) | (go_at_call 34; ((with_reducible refine (TX.out _ hb12).mono ?_); rintro e w3 ⟨rfl, hb3⟩; have hb13 := hb12.trans (hb3.mono hb12.size))) | (go_at_call 33; ((with_reducible refine (SM.out _).mono ?_); rintro e w4 ⟨rfl, hb4⟩)))
  go_ret
  exact ⟨rfl, hb13.trans (hb4.mono hb13.size)⟩
end Go.Proofs.YtcpkhaebcmgehaaGreatDoor
/- Targets that are the same bytes are the same targets: in plain Lean. -/
namespace Go.Proofs.YtcpkhaebcmgehaaGreatDoor
set_option linter.unusedVariables false
theorem Pk.list_inj {a b : List (List UInt8)} (ha : (a.flatMap Pk.text).length < 10000000) (hb : (b.flatMap Pk.text).length < 10000000) (h : Pk.list a = Pk.list b) : a = b := by
  have h1 := Pk.list_read' ha
  rw [h, Pk.list_read' hb] at h1
  exact (congrArg Prod.fst h1).symm
theorem tl_eq {a b : ByteArray} (h : tl a = tl b) : a = b := by
  cases a; cases b
  exact congrArg ByteArray.mk (Array.toList_inj.1 h)
theorem map_tl_eq : ∀ {l m : List ByteArray}, l.map tl = m.map tl → l = m
  | [], [], _ => rfl
  | [], _ :: _, h => by simp at h
  | _ :: _, [], h => by simp at h
  | a :: l, b :: m, h => by
    rw [List.map_cons, List.map_cons] at h
    injection h with h1 h2
    rw [tl_eq h1, map_tl_eq h2]
theorem Tg.b_read {t : Tg} (ok : t.Ok) : ∃ r : Pk.Rd, (Pk.Rd.text ⟨t.b, 0⟩) = (tl t.n, r) ∧ ∃ q : Pk.Rd, r.text = (tl t.c, q) ∧ ∃ p : Pk.Rd, q.list = (t.ds.map tl, p) ∧ p.list = (t.ss.map tl, ⟨[], 0⟩) := by
  have a := ok.n; have b := ok.c; have c := ok.ds_le; have d := ok.ss_le
  rw [Lib.size_eq] at a b
  have e0 : t.b = Pk.text (tl t.n) ++ (Pk.text (tl t.c) ++ (Pk.list (t.ds.map tl) ++ Pk.list (t.ss.map tl))) := by simp [Tg.b, targetB]
  rw [e0]
  exact ⟨_, Pk.text_read (show (tl t.n).length < _ from Nat.lt_of_le_of_lt a (by decide)) _, _, Pk.text_read (show (tl t.c).length < _ from Nat.lt_of_le_of_lt b (by decide)) _, _, Pk.list_read (by omega) _, Pk.list_read' (by omega)⟩
theorem Tg.b_inj {t u : Tg} (ht : t.Ok) (hu : u.Ok) (h : t.b = u.b) : t = u := by
  obtain ⟨r, h1, q, h2, p, h3, h4⟩ := Tg.b_read ht
  obtain ⟨r', k1, q', k2, p', k3, k4⟩ := Tg.b_read hu
  rw [h, k1] at h1
  injection h1 with e1 e2
  subst e2
  rw [k2] at h2
  injection h2 with e3 e4
  subst e4
  rw [k3] at h3
  injection h3 with e5 e6
  subst e6
  rw [k4] at h4
  injection h4 with e7 _
  cases t; cases u
  simp only at e1 e3 e5 e7
  rw [← tl_eq e1, ← tl_eq e3, ← map_tl_eq e5, ← map_tl_eq e7]
theorem map_b_inj : ∀ {l m : List Tg}, (∀ t ∈ l, t.Ok) → (∀ t ∈ m, t.Ok) → l.map Tg.b = m.map Tg.b → l = m
  | [], [], _, _, _ => rfl
  | [], _ :: _, _, _, h => by simp at h
  | _ :: _, [], _, _, h => by simp at h
  | a :: l, b :: m, hl, hm, h => by
    rw [List.map_cons, List.map_cons] at h
    injection h with h1 h2
    rw [Tg.b_inj (hl a (List.mem_cons_self ..)) (hm b (List.mem_cons_self ..)) h1, map_b_inj (fun t ht => hl t (List.mem_cons_of_mem _ ht)) (fun t ht => hm t (List.mem_cons_of_mem _ ht)) h2]
theorem flat_small {l : List Tg} (h1 : l.length ≤ 20) (h2 : ∀ t ∈ l, t.Ok) : ((l.map Tg.b).flatMap Pk.text).length < 10000000 := by
  have := glist_le h1 h2
  rw [bs_size] at this
  have h3 : ((l.map Tg.b).flatMap Pk.text).length ≤ (Pk.list (l.map Tg.b)).length := by
    show _ ≤ (Pk.text _).length
    unfold Pk.text
    simp only [List.length_append, List.length_cons, List.length_nil]
    omega
  omega
/-- targets of the same bytes are the same -/
theorem graph_inj {l m : List Tg} (h1 : l.length ≤ 20) (h2 : ∀ t ∈ l, t.Ok) (k1 : m.length ≤ 20) (k2 : ∀ t ∈ m, t.Ok) : bs (Pk.list (l.map Tg.b)) = bs (Pk.list (m.map Tg.b)) ↔ l = m := by
  refine ⟨fun h => ?_, fun h => by rw [h]⟩
  have h3 : Pk.list (l.map Tg.b) = Pk.list (m.map Tg.b) := by
    have := congrArg tl h
    exact this
  exact map_b_inj h2 k2 (Pk.list_inj (flat_small h1 h2) (flat_small k1 k2) h3)
end Go.Proofs.YtcpkhaebcmgehaaGreatDoor
