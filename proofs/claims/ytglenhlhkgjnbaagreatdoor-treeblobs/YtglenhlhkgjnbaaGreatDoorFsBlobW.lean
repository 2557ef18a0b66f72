/- The contract of tree.Blobs. -/
import Derived.Test.YtglenhlhkgjnbaaGreatDoorFsBlobs
import Derived.Test.YtglenhlhkgjnbaaGreatDoorFsBytes
namespace Go.Proofs.YtglenhlhkgjnbaaGreatDoor.Fs
open Go.RowKit
set_option linter.unusedVariables false
set_option maxRecDepth 100000
/-- texts that are answered -/
def TextsSay (m : List B) (w : World) (e : Ending) (w' : World) : Prop := (∃ A c, e = .returned (.slice A m.length c) ∧ Reads w' w'.heap.size 1 A m.length (m.map tv)) ∧ Below w.heap.size w w'
def datas (l : List Fl) (k : Nat) : List B := (l.take k).map fun f => tl f.d
theorem datas_next {l : List Fl} {k : Nat} (hk : k < l.length) : datas l (k + 1) = datas l k ++ [tl l[k].d] := by
  rw [datas, List.take_succ_eq_append_getElem hk, List.map_append]; rfl
theorem datas_len {l : List Fl} {k : Nat} (hk : k ≤ l.length) : (datas l k).length = k := by simp [datas]; omega
theorem datas_all (l : List Fl) : datas l l.length = l.map fun f => tl f.d := by rw [datas, List.take_length]
theorem blobs_eq (l : List Fl) : blobs l = Lib.compact ((datas l l.length ++ downL l).mergeSort fun x y => decide (x ≤ y)) := by rw [compact_sorted, datas_all]; rfl
theorem OutAt.store {W1 : World} {bo B' : Nat} {v v' : Value} {xs : List B} (hh : W1.heap[bo]? = some (.cells #[v] 42 (0, 0))) (hown : W1.ownsRow (bo + 1) 9 1 v' xs.length (xs.map tv)) : OutAt (W1.setCell ⟨bo, 0, none⟩ v') bo v' xs :=
  ⟨heap_set hh, own_past hown (by omega) 0 v'⟩
set_option maxHeartbeats 4000000 in
theorem pblobs_any (A : Option Addr) (l : List Fl) (c : Nat) (w : World) (hE : Env w) (hr : Fls w A l) (hs : Small l) :
    Calls Tryz.prog 31 #[.slice A l.length c] w (TextsSay (blobs l) w) := by
  have RD : Hid (∀ W, Below w.heap.size w W → Reads W w.heap.size 2 A l.length (fc l)) := Lib.hid fun W hW => hr.below hW
  have hl := hs.len
  have HDN := Lib.hid (down_small hs)
  have BE := Lib.hid (blobs_eq l)
  have DA : Hid (∀ bd W v xs, Dn w bd W v xs → xs.length ≤ 1000 → Calls Tryz.prog 76 #[.slice A l.length c, .pointer (some ⟨w.heap.size, 0, none⟩), .pointer (some ⟨bd, 0, none⟩)] W (DnSays l w.heap.size W v xs)) := Lib.hid fun bd W v xs hD hx =>
    down_all w bd hE (bulk l + 1) l (by omega) hs A c W v xs hD ((hr.below hD.bw).more hD.bw.size) (fun h0 ad e => by
      obtain ⟨ad', e', hb, _⟩ := hr.2 h0
      obtain rfl : ad = ad' := by rw [e] at e'; exact Option.some.inj e'
      refine ⟨by omega, fun e2 => ?_, by have := hD.bw.size; omega⟩
      have := (hD.out.row.lt _ e2.symm).1
      omega) (by have := down_small hs; omega)
  obtain ⟨zs, hi, hz0, hz1, hz2⟩ := Lg.info_parts (@Lg.infoS)
  clear hr hE hs
  generalize hQ : TextsSay (blobs l) w = Q
  have EN : Hid (∀ A c W, Reads W W.heap.size 1 A (blobs l).length ((blobs l).map tv) → Below w.heap.size w W → Q (.returned (.slice A (blobs l).length c)) W) := Lib.hid fun A c W h hb => by rw [← hQ]; exact ⟨⟨A, c, rfl, h⟩, hb⟩
  clear hQ
  rw [BE.out] at EN
  go_enter Tryz.func31, Tryz.ntmps31
  go_wp2_with (fail)
  go_loopw [9] (fun i W => ∃ (k : Nat) (v : Value), i = .int .i64 k ∧ k ≤ l.length ∧ OutAt W w.heap.size v (datas l k) ∧ Below w.heap.size w W) (fun i _ => l.length - (intOf i).toNat)
  case atStart => exact ⟨0, .slice none 0 0, rfl, by omega, ⟨heap_alloc_new w _, World.ownsRow_nil _ _ _ _⟩, (Below.refl _ _).alloc (Nat.le_refl _) _⟩
  case round =>
    obtain ⟨k, v, rfl, hk, hout, hb⟩ := hrel
    have HO := Lib.hid hout
    clear hout
    have hbo := Lg.lt_heap HO.out.hdr
    by_cases hlt : k < l.length
    · have hkI : (k : Int) < (l.length : Int) := by omega
      obtain ⟨ad, rfl, had, c0, c1⟩ := Fls.at_ (RD.out _ hb) hlt
      have NX := Lib.hid (datas_next hlt)
      have DL := Lib.hid (datas_len hk)
      generalize datas l k = xs at *
      generalize l[k] = f at *
      have cv : wr.cell? ⟨w.heap.size, 0, none⟩ = some v := (cell_heap HO.out.hdr 0).trans rfl
      have O1 := Lib.hid (HO.out.below ((Below.refl _ _).alloc (Nat.le_refl _) (.cells #[.string f.p, .string f.d] 62)))
      have cv1 : (wr.alloc (.cells #[.string f.p, .string f.d] 62)).cell? ⟨w.heap.size, 0, none⟩ = some v := (cell_heap O1.out.hdr 0).trans rfl
      have hb1 : Below w.heap.size w (wr.alloc (.cells #[.string f.p, .string f.d] 62)) := hb.alloc hb.size _
      have hz1' : Hid (wr.heap.size + 1 = (wr.alloc (.cells #[.string f.p, .string f.d] 62)).heap.size) := Lib.hid (by simp)
      go_wp2_with (at_builtin; refine wpList_append_any _ rfl (.tmp 13) (.tmp 16) _ rfl (w.heap.size + 1) 9 zs _ 1 16 Tryz.underlying42 hi hz0 hz1 hz2 rfl (by omega) v xs.length _ rfl (O1.out.row.alloc _) _ (some ⟨wr.heap.size + 1, 0, none⟩) 1 1 [.string f.d] rfl (Lg.reads_one (by rw [hz1'.out]; exact Lg.heap_new _ _)) (Lg.mem1 rfl) (by have := DL.out; simp only [maxLen]; omega) (by have := DL.out; omega) (by simp; omega) ?_; intro v' w2 hown hg hat; obtain ⟨Av, nv, cv', rfl⟩ := own_form hown; have OP := Lib.hid (out_put (s := tl f.d) O1.out hown hg hat); have hd3 := out_hdr O1.out hg; have c3 := (cell_heap hd3 0).trans rfl; have f3 := frozen_heap hd3 0; clear hown hg hat hd3)
      go_roundw
      case rel => exact ⟨k + 1, _, by go_num, by omega, by rw [NX.out]; exact OP.out.1, hb1.trans (OP.out.2.below O1.out.row hb1.size)⟩
      case measure => simp [intOf]; omega
    · obtain rfl : k = l.length := by omega
      have DL := Lib.hid (datas_len (l := l) (Nat.le_refl _))
      generalize datas l l.length = xs at *
      have hmf : ∀ (fn : Fn) (first cap : Array Value) (w : World), (Instr.makeFunc fn first cap).run Tryz.prog w = .ok (.func fn first cap) w := fun _ _ _ _ => rfl
      have hsf := fun (fn : Fn) (first cap : Array Value) (a : Addr) (w : World) => run_store Tryz.prog w a (.func fn first cap) .plain rfl
      obtain ⟨W1, eW⟩ : ∃ W1, W1 = wr.alloc (.cells #[.func (.func 76) #[] #[.pointer (some ⟨w.heap.size, 0, none⟩), .pointer (some ⟨wr.heap.size, 0, none⟩)]] 104) := ⟨_, rfl⟩
      have hbr : Below wr.heap.size wr W1 := by rw [eW]; exact (Below.refl _ _).alloc (Nat.le_refl _) _
      have D1 : Dn w wr.heap.size W1 v xs := ⟨hb.trans (hbr.mono hb.size), HO.out.below hbr, by rw [eW]; exact heap_alloc_new wr _, by omega, fun e => by have := (HO.out.row.lt _ e.symm).2; omega⟩
      have CA := Lib.hid (DA.out _ _ _ _ D1 (by have := DL.out; omega))
      have HD := Lib.hid D1
      clear DA D1 RD
      go_wp2_with (go_at_call 76; rw [← eW]; (with_reducible refine (CA.out).mono ?_); rintro e w2 ⟨rfl, v2, ho2, k2⟩; have O2 := Lib.hid ho2; have B2 := Lib.hid (HD.out.bw.trans (k2.below HD.out.out.row HD.out.bw.size)); have cv2 := (cell_heap ho2.hdr 0).trans rfl; have ST := Lib.hid (sort_any v2 _ _ (xs ++ downL l) w2 ho2.row rfl (by have := HDN.out; have := DL.out; rw [List.length_append]; omega)); clear ho2 k2)
      refine (ST.out).mono ?_
      rintro e w3 ⟨rfl, ho3, hg3⟩
      have B3 := Lib.hid (B2.out.grown hg3 B2.out.size (fun g hg => by have := (O2.out.row.lt g hg).1; omega))
      have hd3 := (hg3.block w.heap.size (Lg.lt_heap O2.out.hdr) (fun e => by have := (O2.out.row.lt _ e.symm).1; omega)).trans O2.out.hdr
      have cv3 := (cell_heap hd3 0).trans rfl
      have CO := Lib.hid (compact_any v2 _ _ _ w3 ho3 (by rw [(List.mergeSort_perm _ _).length_eq]) (by rw [(List.mergeSort_perm _ _).length_eq]; have := HDN.out; have := DL.out; rw [List.length_append]; omega))
      have L3 := Lib.hid (fun g (hg : v2.ownBlock = some g) => (ho3.lt g hg).1)
      clear ho3 hg3 hd3
      go_wp2_with (fail)
      refine (CO.out).mono ?_
      rintro e w4 ⟨A4, c4, rfl, hr4, hg4⟩
      go_wp2_with (fail)
      exact EN.out _ _ _ hr4 (B3.out.grown hg4 B3.out.size (fun g hg => by have := L3.out g hg; omega))
end Go.Proofs.YtglenhlhkgjnbaaGreatDoor.Fs
