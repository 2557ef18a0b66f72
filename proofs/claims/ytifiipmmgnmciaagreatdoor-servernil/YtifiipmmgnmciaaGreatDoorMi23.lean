/- Joined by mkmerged.py: FlRoot, KaAction, SvBoxW, SvBoxR, SvBoxD. -/
import Derived.Test.YtifiipmmgnmciaaGreatDoorMi17
import Derived.Test.YtifiipmmgnmciaaGreatDoorMi21
import Derived.Test.YtifiipmmgnmciaaGreatDoorMi18
import Derived.Test.YtifiipmmgnmciaaGreatDoorMi22
import Derived.Test.YtifiipmmgnmciaaGreatDoorMi15
import Derived.Deep.RegionHeld3
import Derived.Deep.CutRange
import Derived.Test.YtifiipmmgnmciaaGreatDoorMi16
import Derived.Test.YtifiipmmgnmciaaGreatDoorMi04
import Derived.WalkSpells
import Derived.StillTactics
import Derived.Deep.AppendLies
import Derived.Test.YtifiipmmgnmciaaGreatDoorMi09
import Derived.Test.YtifiipmmgnmciaaGreatDoorMi05
/- FlRoot, what a claim needs of it (prune.py). -/
namespace Go.Proofs.YtifiipmmgnmciaaGreatDoor
open Go.RowKit
set_option linter.unusedVariables false
theorem fls_root {w : World} {A : Option Addr} {l : List Fl} (h : Fs.Fls w A l) : Fls w w.heap.size A l := fun h0 => by
  obtain ⟨ad, e, hb, hc⟩ := h.2 h0
  refine ⟨ad, e, hb, fun k hk => ?_⟩
  obtain ⟨c0, c1⟩ := Fs.fc_at hk
  refine ⟨hc _ _ c0, ?_⟩
  have := hc _ _ c1
  have e2 : (ad.add (k * 2)).add 1 = ad.add (k * 2 + 1) := by
    unfold Addr.add
    by_cases hk0 : k * 2 = 0 <;> simp [hk0, Nat.add_assoc]
  rw [e2]
  exact this
end Go.Proofs.YtifiipmmgnmciaaGreatDoor
/- KaAction, what a claim needs of it (prune.py). -/
namespace Go.Proofs.YtifiipmmgnmciaaGreatDoor
open Go.RowKit
set_option linter.unusedVariables false
set_option maxRecDepth 100000
def actionB (c : ByteArray) (l : List Fl) (ns : List ByteArray) (n : Int) : ByteArray := bs (Blk.sum (tl (bs (Pk.text (tl c)) ++ bs (Pk.text (Fs.digest l)) ++ bs (Pk.list (ns.map tl)) ++ bs (Pk.text (Lib.itoa n)))))
structure ActOk (c : ByteArray) (l : List Fl) (ns : List ByteArray) (n : Int) : Prop where
  c : c.size ≤ 2000
  l : Fs.Small l
  nl : ns.length ≤ 20
  ns : ∀ x ∈ ns, x.size ≤ 100
  n0 : -9223372036854775808 ≤ n
  n1 : n ≤ 9223372036854775807
theorem ActOk.flat {c : ByteArray} {l : List Fl} {ns : List ByteArray} {n : Int} (h : ActOk c l ns n) : ((ns.map tl).flatMap Pk.text).length ≤ 2420 := by
  have h1 := flat_le ns 100 (by omega) h.ns
  have h2 : ns.length * (100 + 21) ≤ 20 * (100 + 21) := Nat.mul_le_mul_right _ h.nl
  omega
theorem digest_len (l : List Fl) : (Fs.digest l).length = 32 := Blk.sum_len _
set_option maxHeartbeats 2000000 in
theorem kaction_any (c : ByteArray) (A N : Option Addr) (l : List Fl) (ns : List ByteArray) (d m : Nat) (n : Int) (hok : ActOk c l ns n) (w : World) (hE : Fs.Env w) (hr : Fs.Fls w A l) (hn : Strs w w.heap.size N ns) :
    Calls Tryz.prog 253 #[.string c, .slice A l.length d, .slice N ns.length m, .int .i64 n] w fun e w' => e = .returned (.string (actionB c l ns n)) ∧ Below w.heap.size w w' := by
  have TC : Hid (Calls Tryz.prog 104 #[.string c] w fun e w' => e = .returned (.string (bs (Pk.text (tl c)))) ∧ Below w.heap.size w w') := Lib.hid (text_any c (by have := hok.c; omega) w hE.2)
  have DG : Hid (∀ W, Below w.heap.size w W → Calls Tryz.prog 297 #[.slice A l.length d] W fun e w' => e = .returned (.string (bs (Fs.digest l))) ∧ Below W.heap.size W w') := Lib.hid fun W hW => Fs.pdigest_any A l d W (hE.below hW) ((hr.below hW).more hW.size) hok.l
  have TD : Hid (∀ W, Below w.heap.size w W → Calls Tryz.prog 104 #[.string (bs (Fs.digest l))] W fun e w' => e = .returned (.string (bs (Pk.text (Fs.digest l)))) ∧ Below W.heap.size W w') := Lib.hid fun W hW => text_any (bs (Fs.digest l)) (by rw [bs_size, digest_len]; omega) W (hE.2.on hW)
  have LN : Hid (∀ W, Below w.heap.size w W → Calls Tryz.prog 117 #[.slice N ns.length m] W fun e w' => e = .returned (.string (bs (Pk.list (ns.map tl)))) ∧ Below W.heap.size W w') := Lib.hid fun W hW => plist_any N ns m W (hE.2.on hW) ((hn.below hW).more hW.size) (by have := hok.flat; omega)
  have NU : Hid (∀ W, Below w.heap.size w W → Calls Tryz.prog 103 #[.int .i64 n] W fun e w' => e = .returned (.string (bs (Pk.text (Lib.itoa n)))) ∧ Below W.heap.size W w') := Lib.hid fun W hW => pnum_any n hok.n0 hok.n1 W (hE.2.on hW)
  have OB : Hid (actionB c l ns n = bs (Blk.sum (tl (bs (Pk.text (tl c)) ++ bs (Pk.text (Fs.digest l)) ++ bs (Pk.list (ns.map tl)) ++ bs (Pk.text (Lib.itoa n)))))) := Lib.hid rfl
  have x1 := textlen_le c (by have := hok.c; omega)
  have x2 := textlen_le (bs (Fs.digest l)) (by rw [bs_size, digest_len]; omega)
  rw [bs_size (Fs.digest l), digest_len, show tl (bs (Fs.digest l)) = Fs.digest l from rfl] at x2
  have x3 := listlen_le ns (by have := hok.flat; omega)
  have x4 := textlen_le (bs (Lib.itoa n)) (by rw [bs_size]; have := itoa_len n hok.n0 hok.n1; omega)
  rw [bs_size (Lib.itoa n), show tl (bs (Lib.itoa n)) = Lib.itoa n from rfl] at x4
  have hfl := hok.flat
  have hcc := hok.c
  have hil := itoa_len n hok.n0 hok.n1
  clear hok hE hr hn
  generalize bs (Pk.text (tl c)) = X at *
  generalize bs (Pk.text (Fs.digest l)) = Y at *
  generalize bs (Pk.list (ns.map tl)) = Z at *
  generalize bs (Pk.text (Lib.itoa n)) = U at *
  generalize actionB c l ns n = R at *
  have k1 : X.size + Y.size ≤ 9223372036854775807 := by omega
  have k2 : X.size + Y.size + Z.size ≤ 9223372036854775807 := by omega
  have k3 : X.size + Y.size + Z.size + U.size ≤ 9223372036854775807 := by omega
  have k4 : (X ++ Y).size + Z.size ≤ 9223372036854775807 := by rw [ByteArray.size_append]; omega
  have k5 : (X ++ Y ++ Z).size + U.size ≤ 9223372036854775807 := by rw [ByteArray.size_append, ByteArray.size_append]; omega
  have SM : Hid (∀ W, Calls Tryz.prog 240 #[.string (X ++ Y ++ Z ++ U)] W fun e w' => e = .returned (.string R) ∧ Below W.heap.size W w') := Lib.hid (by rw [OB.out]; exact fun W => sum_any (X ++ Y ++ Z ++ U) (by rw [ByteArray.size_append, ByteArray.size_append, ByteArray.size_append]; omega) W)
  clear x1 x2 x3 x4 hfl hcc hil
  go_enter Tryz.func253, Tryz.ntmps253
  go_wp2_with (first
    | (go_at_call 104; first | ((with_reducible refine (TC.out).mono ?_); rintro e w1 ⟨rfl, hb1⟩; clear TC) | ((with_reducible refine (TD.out _ b2).mono ?_); rintro e w3 ⟨rfl, hb3⟩; have b3 := b2.trans (hb3.mono b2.size); clear TD))
    | (go_at_call 297; (with_reducible refine (DG.out _ hb1).mono ?_); rintro e w2 ⟨rfl, hb2⟩; have b2 := hb1.trans (hb2.mono hb1.size))
    | (go_at_call 117; (with_reducible refine (LN.out _ b3).mono ?_); rintro e w4 ⟨rfl, hb4⟩; have b4 := b3.trans (hb4.mono b3.size))
    | (go_at_call 103; (with_reducible refine (NU.out _ b4).mono ?_); rintro e w5 ⟨rfl, hb5⟩; have b5 := b4.trans (hb5.mono b4.size))
    | (go_at_call 240; (with_reducible refine (SM.out _).mono ?_); rintro e w6 ⟨rfl, hb6⟩))
  go_ret
  exact ⟨rfl, b5.trans (hb6.mono b5.size)⟩
end Go.Proofs.YtifiipmmgnmciaaGreatDoor
/- SvBoxW, what a claim needs of it (prune.py). -/
namespace Go.Proofs.YtifiipmmgnmciaaGreatDoor.Sv
open Go.RowKit Go.Maps
set_option linter.unusedVariables false
set_option maxRecDepth 100000
theorem cloneF0 (W : World) : Calls Tryz.prog 249 #[.slice none 0 0] W fun e w' => e = .returned (.slice none 0 0) ∧ W = w' := by
  have he := run_eql_nil_slice W _ _ none 0 0 0 0 Tryz.underlying24
  go_enter Tryz.func249, Tryz.ntmps249
  go_wp2_with (fail)
  go_ret
  exact ⟨rfl, rfl⟩
theorem indexF0 (f : Value) (W : World) : Calls Tryz.prog 196 #[.slice none 0 0, f] W fun e w' => e = .returned (.int .i64 (-1)) ∧ W = w' := by
  go_enter Tryz.func196, Tryz.ntmps196
  go_wp2_with (fail)
  go_loopw [8] (fun v8 wr => v8 = .int .i64 0 ∧ wr = W) (fun _ _ => 0)
  case atStart => exact ⟨rfl, rfl⟩
  case round =>
    obtain ⟨rfl, rfl⟩ := hrel
    go_wp2_with (fail)
    go_ret
    exact ⟨rfl, rfl⟩
theorem containsF0 (f : Value) (W : World) : Calls Tryz.prog 133 #[.slice none 0 0, f] W fun e w' => e = .returned (.bool false) ∧ W = w' := by
  go_enter Tryz.func133, Tryz.ntmps133
  go_wp2_with (go_at_call 196; (with_reducible refine (indexF0 _ _).mono ?_); rintro e w' ⟨rfl, rfl⟩)
  go_ret
  exact ⟨rfl, rfl⟩
theorem findF0 (s : ByteArray) (W : World) : Calls Tryz.prog 247 #[.slice none 0 0, .string s] W fun e w' => e = .returned (.int .i64 (-1)) ∧ Below W.heap.size W w' := by
  go_enter Tryz.func247, Tryz.ntmps247
  go_wp2_with (go_at_call 196; (with_reducible refine (indexF0 _ _).mono ?_); rintro e w' ⟨rfl, rfl⟩)
  go_ret
  exact ⟨rfl, (Below.refl _ _).alloc (Nat.le_refl _) _⟩
theorem file_cells (p d : ByteArray) : ∀ u ∈ ([.string p, .string d] : List Value), u.oneCell' = true := by
  intro u hu
  simp only [List.mem_cons, List.not_mem_nil, or_false] at hu
  rcases hu with rfl | rfl <;> rfl
theorem insertF1 (B0 : Nat) (p d : ByteArray) (vb : Nat) (w : World) (hv : w.heap[vb]? = some (.cells #[.string p, .string d] 203 (0, 0))) (hB : B0 ≤ w.heap.size) :
    Calls Tryz.prog 251 #[.slice none 0 0, .int .i64 0, .slice (some ⟨vb, 0, none⟩) 1 1] w fun e w' => ∃ v, e = .returned v ∧ w'.ownsRow B0 203 2 v 1 [.string p, .string d] ∧ Below B0 w w' := by
  obtain ⟨z, hzi, hzs⟩ := Fs.infoF
  obtain ⟨i0, hi, hz0, hz1, hz2⟩ := Lg.info_parts hzi
  have RV : Hid (Reads w w.heap.size 2 (some ⟨vb, 0, none⟩) 1 [.string p, .string d]) := Lib.hid ((reads_one hv rfl).more (Lg.lt_heap hv))
  have hf1 := file_cells p d
  have HO : Hid (w.ownsRow B0 203 2 (.slice none 0 0) 0 []) := Lib.hid (World.ownsRow_nil _ _ _ _)
  have FN : Hid (∀ w' : World, w.grownBy w' none → Below B0 w w') := Lib.hid fun w' hg => (Below.refl B0 w).grown hg hB (fun k hk => by cases hk)
  clear hzi hv
  go_enter Tryz.func251, Tryz.ntmps251
  go_wp2_with (at_builtin; refine wpList_append_any _ rfl (.tmp 23) (.tmp 24) 24 rfl B0 203 i0 z 2 32 Tryz.underlying24 hi hz0 hz1 hz2 hzs (by decide) (.slice none 0 0) 0 [] rfl HO.out w.heap.size (some ⟨vb, 0, none⟩) 1 1 [.string p, .string d] rfl RV.out hf1 (by simp only [maxLen]; omega) (by omega) hB ?_; intro v' w1 hown hgr hat; have HN := Lib.hid hown; have hb2 := Lib.hid (FN.out _ hgr); clear hown hgr hat)
  go_ret
  exact ⟨_, rfl, HN.out, hb2.out⟩
set_option maxHeartbeats 4000000 in
theorem with1 (p d : ByteArray) (w : World) (hE : Lg.Env w) (hp0 : Lg.pathE (Lg.tl p) = 0) (hp : p.size ≤ 1000000000) (hd : d.size ≤ 2048) :
    Calls Tryz.prog 198 #[.slice none 0 0, .agg #[.string p, .string d]] w fun e w' => ∃ v, e = .returned (.tuple #[v, .int .i64 0]) ∧ w'.ownsRow w.heap.size 203 2 v 1 [.string p, .string d] ∧ Below w.heap.size w w' := by
  obtain ⟨W1, eW⟩ : ∃ W1, W1 = w.alloc (.cells #[.string p, .string d] 203) := ⟨_, rfl⟩
  have hb1 : Below w.heap.size w W1 := by rw [eW]; exact (Below.refl _ _).alloc (Nat.le_refl _) _
  have q0 : W1.heap[w.heap.size]? = some (.cells #[.string p, .string d] 203 (0, 0)) := by rw [eW]; exact heap_alloc_new w _
  have D0 : Hid (∀ W, Below W1.heap.size W1 W → W.cell? ⟨w.heap.size, 0, none⟩ = some (.string p) ∧ W.cell? ⟨w.heap.size, 1, none⟩ = some (.string d)) := Lib.hid fun W hW => ⟨(cell_heap ((hW.block _ (Lg.lt_heap q0)).trans q0) 0).trans rfl, (cell_heap ((hW.block _ (Lg.lt_heap q0)).trans q0) 1).trans rfl⟩
  have HB := Lib.hid (fun W (hW : Below W1.heap.size W1 W) => hb1.trans (hW.mono hb1.size))
  have PA : Hid (Calls Tryz.prog 132 #[.string p] W1 fun e w' => e = .returned (.int .i64 0) ∧ Below W1.heap.size W1 w') := Lib.hid (by
    obtain ⟨m, hm⟩ := (hE.below hb1).1
    have := Lg.ppath_any p m W1 hp hm
    rw [hp0] at this
    exact this)
  have IN : Hid (∀ W, Below W1.heap.size W1 W → Calls Tryz.prog 251 #[.slice none 0 0, .int .i64 0, .slice (some ⟨W.heap.size, 0, none⟩) 1 1] (W.alloc (.cells #[.string p, .string d] 203)) fun e w' => ∃ g cap, e = .returned (.slice (some ⟨g, 0, none⟩) 1 cap) ∧ w'.ownsRow w.heap.size 203 2 (.slice (some ⟨g, 0, none⟩) 1 cap) 1 [.string p, .string d] ∧ Below w.heap.size w w') := Lib.hid fun W hW => by
    have h := hb1.trans (hW.mono hb1.size)
    refine (insertF1 w.heap.size p d W.heap.size _ (heap_alloc_new W _) (by have := h.size; simp; omega)).mono ?_
    rintro e w' ⟨v, rfl, ho, hb⟩
    obtain ⟨g, cap, rfl⟩ : ∃ g cap, v = .slice (some ⟨g, 0, none⟩) 1 cap := by
      rcases ho.2 with ⟨_, h0⟩ | ⟨g, cap, cur, hv, _⟩
      · omega
      · exact ⟨g, cap, hv⟩
    exact ⟨g, cap, rfl, ho, (h.alloc h.size _).trans hb⟩
  have d00 := (D0.out W1 (Below.refl _ _)).1
  have d01 := (D0.out W1 (Below.refl _ _)).2
  have k1 : ¬ (2048 : Int) < (d.size : Int) := by omega
  clear hE hp0 hp hd q0 hb1
  go_enter Tryz.func198, Tryz.ntmps198
  go_wp2_with (first
    | (go_at_call 132; rw [← eW]; clear eW; (with_reducible refine (PA.out).mono ?_); rintro e w2 ⟨rfl, hb2⟩; obtain ⟨d2, d3⟩ := D0.out _ hb2)
    | (go_at_call 133; (with_reducible refine (containsF0 _ _).mono ?_); rintro e w' ⟨rfl, rfl⟩)
    | (go_at_call 249; (with_reducible refine (cloneF0 _).mono ?_); rintro e w' ⟨rfl, rfl⟩)
    | (go_at_call 247; (with_reducible refine (findF0 _ _).mono ?_); rintro e w5 ⟨rfl, hb5⟩; have h5 := hb2.trans (hb5.mono hb2.size); obtain ⟨d4, d5⟩ := D0.out _ h5)
    | (go_at_call 196; (with_reducible refine (indexF0 _ _).mono ?_); rintro e w' ⟨rfl, rfl⟩; have INS := Lib.hid (IN.out _ h5))
    | (go_at_call 251; (with_reducible refine (INS.out).mono ?_); rintro e w7 ⟨g7, c7, rfl, ho7, hb7⟩; have HO7 := Lib.hid ho7; clear ho7))
  go_ret2
  exact ⟨_, rfl, HO7.out, hb7⟩
end Go.Proofs.YtifiipmmgnmciaaGreatDoor.Sv
/- SvBoxR, what a claim needs of it (prune.py). -/
namespace Go.Proofs.YtifiipmmgnmciaaGreatDoor.Sv
open Go.RowKit Go.Maps
open Lg (BelowX)
set_option linter.unusedVariables false
set_option maxRecDepth 100000
def ZB (W : World) (b : Nat) (f : Value) (u : Int) : Prop := W.heap[b]? = some (.cells #[f, .slice none 0 0, .int .i64 50, .int .i64 0, .slice none 0 0, .string ⟨#[]⟩, .int .i64 0, .string ⟨#[]⟩, .int .i64 u] 193 (0, 0))
theorem ZB.below {W V : World} {b : Nat} {f : Value} {u : Int} (h : ZB W b f u) (hb : Below W.heap.size W V) : ZB V b f u := (hb.block b (Lg.lt_heap h)).trans h
def FileB (V : World) (g : Nat) (p d : ByteArray) : Prop := ∃ cs, V.heap[g]? = some (.cells cs 203 (0, 0)) ∧ cs[0]? = some (.string p) ∧ cs[1]? = some (.string d)
theorem file_of {w : World} {B : Nat} {v : Value} {p d : ByteArray} (h : w.ownsRow B 203 2 v 1 [.string p, .string d]) : ∃ g cap, v = .slice (some ⟨g, 0, none⟩) 1 cap ∧ B ≤ g ∧ 1 ≤ cap ∧ FileB w g p d := by
  rcases h.2 with ⟨_, h0⟩ | ⟨g, cap, cur, hv, hg, hc, h1, h2, h3, h4⟩
  · omega
  · refine ⟨g, cap, hv, hg, h1, cur, hc, ?_, ?_⟩
    · have : (cur.toList.take 2)[0]? = some (.string p) := by rw [show cur.toList.take 2 = _ from h4]; rfl
      rw [List.getElem?_take] at this
      simpa using this
    · have : (cur.toList.take 2)[1]? = some (.string d) := by rw [show cur.toList.take 2 = _ from h4]; rfl
      rw [List.getElem?_take] at this
      simpa using this
theorem over0 (W : World) (b : Nat) (f : Value) (u : Int) (h : ZB W b f u) : Calls Tryz.prog 91 #[.pointer (some ⟨b, 0, none⟩)] W fun e w' => e = .returned (.bool false) ∧ W = w' := by
  have c3 : W.cell? ⟨b, 3, none⟩ = some (.int .i64 0) := (cell_heap h 3).trans rfl
  clear h
  go_enter Tryz.func91, Tryz.ntmps91
  go_wp2_with (fail)
  go_ret
  exact ⟨rfl, rfl⟩
theorem spend1 (W : World) (b : Nat) (f : Value) (h : ZB W b f 0) :
    Calls Tryz.prog 235 #[.pointer (some ⟨b, 0, none⟩), .int .i64 2] W fun e w' => e = .returned (.bool true) ∧ ZB w' b f 2 ∧ BelowX W.heap.size b W w' := by
  have c2 : W.cell? ⟨b, 2, none⟩ = some (.int .i64 50) := (cell_heap h 2).trans rfl
  have c8 : W.cell? ⟨b, 8, none⟩ = some (.int .i64 0) := (cell_heap h 8).trans rfl
  have f8 := frozen_heap h 8
  have EN : Hid (∀ k, ZB ((W.drewN k).setCell ⟨b, 8, none⟩ (.int .i64 2)) b f 2 ∧ BelowX W.heap.size b W ((W.drewN k).setCell ⟨b, 8, none⟩ (.int .i64 2))) := Lib.hid fun k =>
    ⟨(heap_set (w := W.drewN k) h).trans rfl, ((BelowX.refl _ b _).drewN k).setX (p := ⟨b, 8, none⟩) rfl _⟩
  clear h
  go_enter Tryz.func235, Tryz.ntmps235
  go_wp2_with (fail)
  go_quiet (fail)
  go_wp2_with (fail)
  go_ret
  exact ⟨rfl, EN.out _⟩
theorem does2 (W : World) (g : Nat) (ad : Addr) (n c : Nat) (y s : ByteArray) (hc : W.cell? ⟨g, 0, none⟩ = some (.slice (some ad) n c)) (hn : 1 < n) (hy : W.cell? ⟨ad.block, ad.off + 1, none⟩ = some (.string y)) (hz : y.size ≤ 1000) :
    Calls Tryz.prog 232 #[.string s, .pointer (some ⟨g, 0, none⟩)] W fun e w' => e = .returned (.string (y ++ ⟨#[10]⟩)) ∧ W = w' := by
  have i1 : (1 : Int) < (n : Int) := by omega
  go_enter Tryz.func232, Tryz.ntmps232
  go_wp2_with (fail)
  go_ret
  exact ⟨rfl, rfl⟩
def WroteB (W : World) (b : Nat) (p d : ByteArray) (e : Ending) (w' : World) : Prop := e = .returned (.tuple #[]) ∧ ∃ g cap, ZB w' b (.slice (some ⟨g, 0, none⟩) 1 cap) 2 ∧ W.heap.size ≤ g ∧ 1 ≤ cap ∧ FileB w' g p d ∧ BelowX W.heap.size b W w'
set_option maxHeartbeats 4000000 in
theorem writes1 (W : World) (b B0 : Nat) (p d : ByteArray) (hB0 : B0 ≤ b) (w0 : World) (hE : Lg.Env w0) (hw0 : w0.heap.size ≤ B0) (hbw : Below w0.heap.size w0 W) (h : ZB W b (.slice none 0 0) 0) (hp0 : Lg.pathE (Lg.tl p) = 0) (hp : p.size ≤ 1000000000) (hd : d.size = 2) (lb : Array Value)
    (hM : ∀ V, Below W.heap.size W V → Calls Tryz.prog 232 (#[.string ⟨#[]⟩] ++ lb) V fun e w' => e = .returned (.string d) ∧ V = w') :
    Calls Tryz.prog 231 #[.pointer (some ⟨b, 0, none⟩), .string p, .slice none 0 0, .func (.func 232) #[] lb] W (WroteB W b p d) := by
  have hlt := Lg.lt_heap h
  have MK := Lib.hid hM
  have BS : Hid (∀ V, V = W.alloc (.cells #[.pointer none, .slice none 0 0] 217) → Calls Tryz.prog 116 #[.pointer (some ⟨W.heap.size, 0, none⟩)] V fun e w' => e = .returned (.string ⟨#[]⟩) ∧ Below W.heap.size W w') := Lib.hid fun V hV => by
    subst hV
    refine (Lg.bstring_any W.heap.size W.heap.size [] _ (Lib.fresh_isBuilder _ _ W) (by simp)).mono ?_
    rintro e w' ⟨rfl, hb⟩
    exact ⟨rfl, ((Below.refl _ _).alloc (Nat.le_refl _) _).trans hb⟩
  have SP : Hid (∀ V, Below W.heap.size W V → Calls Tryz.prog 235 #[.pointer (some ⟨b, 0, none⟩), .int .i64 2] V fun e w' => e = .returned (.bool true) ∧ w'.cell? ⟨b, 0, none⟩ = some (.slice none 0 0) ∧ ZB w' b (.slice none 0 0) 2 ∧ BelowX W.heap.size b W w') := Lib.hid fun V hV => by
    refine (spend1 V b _ (h.below hV)).mono ?_
    rintro e w' ⟨rfl, h1, h2⟩
    exact ⟨rfl, (cell_heap h1 0).trans rfl, h1, (BelowX.of hV).trans (h2.mono hV.size)⟩
  have WI : Hid (∀ V, ZB V b (.slice none 0 0) 2 → BelowX W.heap.size b W V → Calls Tryz.prog 198 #[.slice none 0 0, .agg #[.string p, .string d]] V fun e w' => ∃ g cap, e = .returned (.tuple #[.slice (some ⟨g, 0, none⟩) 1 cap, .int .i64 0]) ∧ w'.cell? ⟨b, 0, none⟩ = some (.slice none 0 0) ∧ w'.frozen? ⟨b, 0, none⟩ = false ∧ WroteB W b p d (.returned (.tuple #[])) (w'.setCell ⟨b, 0, none⟩ (.slice (some ⟨g, 0, none⟩) 1 cap))) := Lib.hid fun V hz hx => by
    have hEV : Lg.Env V := hE.below (hbw.trans (hx.below (by have := hbw.size; omega) (by omega)))
    refine (with1 p d V hEV hp0 hp (by omega)).mono ?_
    rintro e w' ⟨v, rfl, ho, hb⟩
    obtain ⟨g, cap, rfl, hg, hc, cs, hf, f0, f1⟩ := file_of ho
    have hz' := hz.below hb
    have hbs := Lg.lt_heap hz
    have ne : b ≠ g := by omega
    have hxs := hx.size
    exact ⟨g, cap, rfl, (cell_heap hz' 0).trans rfl, frozen_heap hz' 0, rfl, g, cap, (heap_set hz').trans rfl, by omega, hc, ⟨cs, (heap_set_ne ne).trans hf, f0, f1⟩, ((hx.trans (BelowX.of (hb.mono hxs))).setX (p := ⟨b, 0, none⟩) rfl _)⟩
  have HD : ∀ q : Int, q = 1 + ((d.size : Int) + 64 - 1) / 64 → q = 2 := fun q hq => by rw [hq, hd]; rfl
  have k1 : (1 : Int) + ((d.size : Int) + 64 - 1) / 64 = 2 := HD _ rfl
  have hd1 : d.size ≤ 2 := by omega
  have SP' : Hid (∀ V, Below W.heap.size W V → Calls Tryz.prog 235 #[.pointer (some ⟨b, 0, none⟩), .int .i64 (1 + ((d.size : Int) + 64 - 1) / 64)] V fun e w' => e = .returned (.bool true) ∧ w'.cell? ⟨b, 0, none⟩ = some (.slice none 0 0) ∧ ZB w' b (.slice none 0 0) 2 ∧ BelowX W.heap.size b W w') := Lib.hid (by rw [k1]; exact SP.out)
  clear h hM hE hbw hp0 HD SP k1 hd
  generalize WroteB W b p d = Q at *
  go_enter Tryz.func231, Tryz.ntmps231
  go_wp2_with (fail)
  go_loopw [18] (fun i V => i = .int .i64 0 ∧ V = W.alloc (.cells #[.pointer none, .slice none 0 0] 217)) (fun i _ => 0)
  case atStart => exact ⟨rfl, rfl⟩
  case round =>
    obtain ⟨rfl, hV⟩ := hrel
    have BSV := Lib.hid (BS.out _ hV)
    clear hV
    go_wp2_with (first
      | (go_at_call 116; (with_reducible refine (BSV.out).mono ?_); rintro e w2 ⟨rfl, h2⟩)
      | ((with_reducible refine (MK.out _ h2).mono ?_); rintro e w3 ⟨rfl, rfl⟩)
      | (go_at_call 235; (with_reducible refine (SP'.out _ h2).mono ?_); rintro e w4 ⟨rfl, c40, h4, h5⟩; have W4 := Lib.hid (WI.out _ h4 h5); clear h4)
      | (go_at_call 198; (with_reducible refine (W4.out).mono ?_); rintro e w5 ⟨g, cap, rfl, c50, f50, hq⟩; have HQ := Lib.hid hq; clear hq))
    go_end0
    exact HQ.out
end Go.Proofs.YtifiipmmgnmciaaGreatDoor.Sv
/- SvBoxD, what a claim needs of it (prune.py). -/
namespace Go.Proofs.YtifiipmmgnmciaaGreatDoor.Sv
open Go.RowKit Go.Maps
open Lg (BelowX)
set_option linter.unusedVariables false
set_option maxRecDepth 100000
theorem WroteB.from_ {W V : World} {b : Nat} {p d : ByteArray} {e : Ending} {w' : World} (hb : Below W.heap.size W V) (h : WroteB V b p d e w') : WroteB W b p d e w' := by
  obtain ⟨h1, g, cap, h2, h3, h4, h5, h6⟩ := h
  exact ⟨h1, g, cap, h2, Nat.le_trans hb.size h3, h4, h5, (BelowX.of hb).trans (h6.mono hb.size)⟩
set_option maxHeartbeats 4000000 in
theorem does1 (W : World) (b : Nat) (p y d : ByteArray) (w0 : World) (hE : Lg.Env w0) (hw0 : w0.heap.size ≤ b) (hbw : Below w0.heap.size w0 W) (h : ZB W b (.slice none 0 0) 0) (hp0 : Lg.pathE (Lg.tl p) = 0) (hp : p.size ≤ 1000000000) (hd : d.size = 2) (hy : y ++ ⟨#[10]⟩ = d) (hys : y.size ≤ 1000)
    (aa : Addr) (ca : Nat) (Bk : Option Addr) (cb : Nat) (a0 : W.cell? aa = some (.string p)) (a1 : W.cell? ⟨aa.block, aa.off + 1, none⟩ = some (.string y)) :
    Calls Tryz.prog 171 #[.pointer (some ⟨b, 0, none⟩), .agg #[.int .i64 1, .slice (some aa) 2 ca, .int .i64 0, .slice Bk 0 cb]] W (WroteB W b p d) := by
  obtain ⟨W1, eW1⟩ : ∃ W1, W1 = W.alloc (.cells #[.int .i64 1, .slice (some aa) 2 ca, .int .i64 0, .slice Bk 0 cb] 186) := ⟨_, rfl⟩
  obtain ⟨W2, eW2⟩ : ∃ W2, W2 = W1.alloc (.cells #[.slice (some aa) 2 ca] 32) := ⟨_, rfl⟩
  have hb1 : Below W.heap.size W W1 := by rw [eW1]; exact (Below.refl _ _).alloc (Nat.le_refl _) _
  have hz1 : W1.heap.size = W.heap.size + 1 := by rw [eW1]; simp
  have hb12 : Below W1.heap.size W1 W2 := by rw [eW2]; exact (Below.refl _ _).alloc (Nat.le_refl _) _
  have hb2 : Below W.heap.size W W2 := hb1.trans (hb12.mono hb1.size)
  have q2 : W2.heap[W.heap.size + 1]? = some (.cells #[.slice (some aa) 2 ca] 32 (0, 0)) := by rw [eW2, ← hz1]; exact heap_alloc_new W1 _
  have c2 : W2.cell? ⟨W.heap.size + 1, 0, none⟩ = some (.slice (some aa) 2 ca) := (cell_heap q2 0).trans rfl
  have hx0 : W2.cell? aa = some (.string p) := (hb2.cell (World.block_lt_of_cell? W aa a0)).trans a0
  have hx1 : W2.cell? ⟨aa.block, aa.off + 1, none⟩ = some (.string y) := (hb2.cell (p := ⟨aa.block, aa.off + 1, none⟩) (World.block_lt_of_cell? W ⟨aa.block, aa.off + 1, none⟩ a1)).trans a1
  have hlt := Lg.lt_heap h
  have WR := Lib.hid (writes1 W2 b w0.heap.size p d hw0 w0 hE (Nat.le_refl _) (hbw.trans (hb2.mono hbw.size)) (h.below hb2) hp0 hp hd #[.pointer (some ⟨W.heap.size + 1, 0, none⟩)] (fun V hV => by
    have e2 := (hV.cell (p := ⟨W.heap.size + 1, 0, none⟩) (Lg.lt_heap q2)).trans c2
    have e1 := (hV.cell (p := ⟨aa.block, aa.off + 1, none⟩) (World.block_lt_of_cell? W2 ⟨aa.block, aa.off + 1, none⟩ hx1)).trans hx1
    have := does2 V (W.heap.size + 1) aa 2 ca y ⟨#[]⟩ e2 (by omega) e1 hys
    rw [hy] at this
    exact this))
  have FN : Hid (∀ e w', WroteB W2 b p d e w' → WroteB W b p d e w') := Lib.hid fun e w' hh => hh.from_ hb2
  have ET : Hid (∀ e w', WroteB W2 b p d e w' → e = .returned (.tuple #[])) := Lib.hid fun e w' hh => hh.1
  rw [eW1] at eW2
  rw [eW2] at c2 hx0
  rw [eW2] at WR ET FN
  have hmf : ∀ (fn : Fn) (first cap : Array Value) (w : World), (Instr.makeFunc fn first cap).run Tryz.prog w = .ok (.func fn first cap) w := fun _ _ _ _ => rfl
  clear hb12 hb2 hb1 hz1 q2 eW1 eW2 hx1 hE hbw h hy hd hp0 a0 a1
  generalize WroteB W b p d = Q at *
  go_enter Tryz.func171, Tryz.ntmps171
  go_wp2_with (go_at_call 231; (with_reducible refine (WR.out).mono ?_); rintro e w2 hh; obtain rfl := ET.out _ _ hh; have HH := Lib.hid (FN.out _ _ hh); clear hh)
  go_end0
  exact HH.out
def LineAt (W : World) (sd : Addr) (p y : ByteArray) : Prop := ∃ aa ca Bk cb, W.cell? sd = some (.int .i64 1) ∧ W.cell? ⟨sd.block, sd.off + 1, none⟩ = some (.slice (some aa) 2 ca) ∧ W.cell? ⟨sd.block, sd.off + 2, none⟩ = some (.int .i64 0) ∧ W.cell? ⟨sd.block, sd.off + 3, none⟩ = some (.slice Bk 0 cb) ∧ W.cell? aa = some (.string p) ∧ W.cell? ⟨aa.block, aa.off + 1, none⟩ = some (.string y)
theorem LineAt.below {W V : World} {sd : Addr} {p y : ByteArray} (h : LineAt W sd p y) (hb : Below W.heap.size W V) : LineAt V sd p y := by
  obtain ⟨aa, ca, Bk, cb, h0, h1, h2, h3, h4, h5⟩ := h
  have k := fun (a : Addr) (v : Value) (hv : W.cell? a = some v) => (hb.cell (World.block_lt_of_cell? W a hv)).trans hv
  exact ⟨aa, ca, Bk, cb, k _ _ h0, k _ _ h1, k _ _ h2, k _ _ h3, k _ _ h4, k _ _ h5⟩
set_option maxHeartbeats 4000000 in
theorem all1 (W : World) (b : Nat) (p y d : ByteArray) (w0 : World) (hE : Lg.Env w0) (hw0 : w0.heap.size ≤ b) (hbw : Below w0.heap.size w0 W) (h : ZB W b (.slice none 0 0) 0) (hp0 : Lg.pathE (Lg.tl p) = 0) (hp : p.size ≤ 1000000000) (hd : d.size = 2) (hy : y ++ ⟨#[10]⟩ = d) (hys : y.size ≤ 1000)
    (sd : Addr) (mc : Nat) (hl : LineAt W sd p y) :
    Calls Tryz.prog 90 #[.pointer (some ⟨b, 0, none⟩), .slice (some sd) 1 mc] W (WroteB W b p d) := by
  obtain ⟨aa, ca, Bk, cb, h0, h1, h2, h3, h4, h5⟩ := hl
  obtain ⟨W1, eW⟩ : ∃ W1, W1 = W.alloc (.cells #[.int .i64 1, .slice (some aa) 2 ca, .int .i64 0, .slice Bk 0 cb] 186) := ⟨_, rfl⟩
  have hb1 : Below W.heap.size W W1 := by rw [eW]; exact (Below.refl _ _).alloc (Nat.le_refl _) _
  have q0 : W1.heap[W.heap.size]? = some (.cells #[.int .i64 1, .slice (some aa) 2 ca, .int .i64 0, .slice Bk 0 cb] 186 (0, 0)) := by rw [eW]; exact heap_alloc_new W _
  have d0 : W1.cell? ⟨W.heap.size, 0, none⟩ = some (.int .i64 1) := (cell_heap q0 0).trans rfl
  have d1 : W1.cell? ⟨W.heap.size, 1, none⟩ = some (.slice (some aa) 2 ca) := (cell_heap q0 1).trans rfl
  have d2 : W1.cell? ⟨W.heap.size, 2, none⟩ = some (.int .i64 0) := (cell_heap q0 2).trans rfl
  have d3 : W1.cell? ⟨W.heap.size, 3, none⟩ = some (.slice Bk 0 cb) := (cell_heap q0 3).trans rfl
  have OA := Lib.hid (over0 W1 b _ _ (h.below hb1))
  have k := fun (a : Addr) (v : Value) (hv : W.cell? a = some v) => (hb1.cell (World.block_lt_of_cell? W a hv)).trans hv
  have DO := Lib.hid ((does1 W1 b p y d w0 hE hw0 (hbw.trans (hb1.mono hbw.size)) (h.below hb1) hp0 hp hd hy hys aa ca Bk cb (k _ _ h4) (k _ _ h5)).mono fun e w' hh => (show e = .returned (.tuple #[]) ∧ Hid (WroteB W b p d (.returned (.tuple #[])) w') from ⟨hh.1, Lib.hid (hh.1 ▸ hh.from_ hb1)⟩))
  have ET : Hid (∀ e w', WroteB W b p d e w' → e = .returned (.tuple #[])) := Lib.hid fun e w' hh => hh.1
  clear hb1 q0 k hE hbw h hp0 hd hy h4 h5
  generalize WroteB W b p d = Q at *
  go_enter Tryz.func90, Tryz.ntmps90
  go_wp2_with (fail)
  go_loopw [8] (fun i V => (i = .int .i64 0 ∧ V = W) ∨ (i = .int .i64 1 ∧ Hid (Q (.returned (.tuple #[])) V))) (fun i _ => 1 - (intOf i).toNat)
  case atStart => exact .inl ⟨rfl, rfl⟩
  case round =>
    rcases hrel with ⟨rfl, rfl⟩ | ⟨rfl, HQ⟩
    · go_wp2_with (first
        | (go_at_call 91; rw [← eW]; clear eW; (with_reducible refine (OA.out).mono ?_); rintro e w2 ⟨rfl, rfl⟩)
        | (go_at_call 171; (with_reducible refine (DO.out).mono ?_); rintro e w3 ⟨rfl, HQ⟩))
      go_roundw
      case rel => exact .inr ⟨rfl, HQ⟩
      case measure => simp [intOf]
    · clear eW
      go_wp2_with (fail)
      go_end0
      exact HQ.out
end Go.Proofs.YtifiipmmgnmciaaGreatDoor.Sv
