/- The contract of tree.Blobs's closure: it gathers the bytes of a directory and of all in it. -/
import Derived.Test.YtglenhlhkgjnbaaGreatDoorFsDir
import Derived.Test.YtglenhlhkgjnbaaGreatDoorFsEnc
import Derived.Test.YtglenhlhkgjnbaaGreatDoorFsCode
import Derived.Test.YtglenhlhkgjnbaaGreatDoorKm
import Derived.Deep.RegionHeld3
namespace Go.Proofs.YtglenhlhkgjnbaaGreatDoor.Fs
open Go.RowKit
set_option linter.unusedVariables false
set_option maxRecDepth 100000
/-- a box in block bo holds a row of texts -/
structure OutAt (W : World) (bo : Nat) (v : Value) (xs : List B) : Prop where
  hdr : W.heap[bo]? = some (.cells #[v] 42 (0, 0))
  row : W.ownsRow (bo + 1) 9 1 v xs.length (xs.map tv)
/-- all but the box and its row stays -/
structure KeepO (bo : Nat) (v : Value) (W W' : World) (v' : Value) : Prop where
  os : W'.os = W.os
  tape : W'.tape = W.tape
  output : W'.output = W.output
  size : W.heap.size ≤ W'.heap.size
  block : ∀ b, b < W.heap.size → b ≠ bo → some b ≠ v.ownBlock → W'.heap[b]? = W.heap[b]?
  new : ∀ g, v'.ownBlock = some g → v.ownBlock = some g ∨ W.heap.size ≤ g
theorem KeepO.refl (bo : Nat) (v : Value) (W : World) : KeepO bo v W W v := ⟨rfl, rfl, rfl, Nat.le_refl _, fun _ _ _ _ => rfl, fun _ h => .inl h⟩
theorem KeepO.trans {bo : Nat} {v v1 v2 : Value} {W W1 W2 : World} (h : KeepO bo v W W1 v1) (k : KeepO bo v1 W1 W2 v2) : KeepO bo v W W2 v2 :=
  ⟨k.os.trans h.os, k.tape.trans h.tape, k.output.trans h.output, Nat.le_trans h.size k.size, fun b h1 h2 h3 => (k.block b (Nat.lt_of_lt_of_le h1 h.size) h2 (fun e => by
    rcases h.new b e.symm with h4 | h4
    · exact h3 h4.symm
    · omega)).trans (h.block b h1 h2 h3), fun g hg => by
    rcases k.new g hg with h4 | h4
    · exact h.new g h4
    · exact .inr (Nat.le_trans h.size h4)⟩
theorem KeepO.of_below {bo : Nat} {v : Value} {W W' : World} (h : Below W.heap.size W W') : KeepO bo v W W' v := ⟨h.os, h.tape, h.output, h.size, fun b h1 _ _ => h.block b h1, fun _ h => .inl h⟩
theorem KeepO.below {bo : Nat} {v v' : Value} {W W' : World} {n : Nat} {xs : List Value} (h : KeepO bo v W W' v') (ho : W.ownsRow (bo + 1) 9 1 v n xs) (hb : bo ≤ W.heap.size) : Below bo W W' :=
  ⟨h.os, h.tape, h.output, h.size, fun b hb' => h.block b (by omega) (by omega) (fun e => by have := (ho.lt b e.symm).1; omega)⟩
/-- a row's block is another one than the box's and its row's -/
def Far {α : Type} (bo : Nat) (v : Value) (W : World) (A : Option Addr) (l : List α) : Prop := 0 < l.length → ∀ ad, A = some ad → ad.block ≠ bo ∧ some ad.block ≠ v.ownBlock ∧ ad.block < W.heap.size
theorem Far.keep {α : Type} {bo : Nat} {v v' : Value} {W W' : World} {A : Option Addr} {l : List α} (h : Far bo v W A l) (k : KeepO bo v W W' v') : Far bo v' W' A l := fun h0 ad e => by
  obtain ⟨h1, h2, h3⟩ := h h0 ad e
  refine ⟨h1, fun e2 => ?_, Nat.lt_of_lt_of_le h3 k.size⟩
  rcases k.new _ e2.symm with h4 | h4
  · exact h2 h4.symm
  · omega
theorem reads_keep {W W' : World} {Bx s n : Nat} {A : Option Addr} {xs : List Value} (h : Reads W Bx s A n xs) (hk : 0 < n → ∀ ad, A = some ad → W'.heap[ad.block]? = W.heap[ad.block]? ∧ ad.block < W'.heap.size) : Reads W' W'.heap.size s A n xs :=
  ⟨h.1, fun hn => by
    obtain ⟨ad, e, hb, hc⟩ := h.2 hn
    obtain ⟨k1, k2⟩ := hk hn ad e
    exact ⟨ad, e, k2, fun j u hu => (World.cell?_of_block (by rw [block_of_add]; exact k1)).trans (hc j u hu)⟩⟩
theorem far_reads {α : Type} {bo : Nat} {v v' : Value} {W W' : World} {A : Option Addr} {l : List α} {Bx s : Nat} {xs : List Value} (h : Reads W Bx s A l.length xs) (hf : Far bo v W A l) (k : KeepO bo v W W' v') : Reads W' W'.heap.size s A l.length xs :=
  reads_keep h fun hn ad e => by
    obtain ⟨h1, h2, h3⟩ := hf hn ad e
    exact ⟨k.block _ h3 h1 h2, Nat.lt_of_lt_of_le h3 k.size⟩
theorem far_own {α : Type} {bo : Nat} {v : Value} {W W' : World} {A : Option Addr} {l : List α} {B0 s c n m : Nat} {T : TypeId} {xs ys : List Value} (ho : W'.ownsRow B0 T s (.slice A n c) n xs) (hB : W.heap.size ≤ B0) (hv : W.ownsRow (bo + 1) 9 1 v m ys) (hbo : bo < W.heap.size) (hn : n = l.length) : Far bo v W' A l := fun h0 ad e => by
  subst hn e
  obtain ⟨g, cap, hv2, hg, hlt⟩ := ho.form h0
  injection hv2 with hv2
  injection hv2 with hv2
  subst hv2
  refine ⟨by show g ≠ bo; omega, fun e2 => ?_, hlt⟩
  have := (hv.lt g e2.symm).2
  omega
/-- what the closure finds -/
structure Dn (w0 : World) (bd : Nat) (W : World) (v : Value) (xs : List B) : Prop where
  bw : Below w0.heap.size w0 W
  out : OutAt W w0.heap.size v xs
  fn : W.heap[bd]? = some (.cells #[.func (.func 76) #[] #[.pointer (some ⟨w0.heap.size, 0, none⟩), .pointer (some ⟨bd, 0, none⟩)]] 104 (0, 0))
  ne : bd ≠ w0.heap.size
  nv : some bd ≠ v.ownBlock
theorem Dn.keep {w0 W W' : World} {bd : Nat} {v v' : Value} {xs xs' : List B} (h : Dn w0 bd W v xs) (k : KeepO w0.heap.size v W W' v') (ho : OutAt W' w0.heap.size v' xs') : Dn w0 bd W' v' xs' :=
  have hlt := Lg.lt_heap h.fn
  ⟨h.bw.trans (k.below h.out.row h.bw.size), ho, (k.block bd hlt h.ne h.nv).trans h.fn, h.ne, fun e => by
    rcases k.new bd e.symm with h4 | h4
    · exact h.nv h4.symm
    · omega⟩
theorem OutAt.below {W W' : World} {bo : Nat} {v : Value} {xs : List B} (h : OutAt W bo v xs) (hb : Below W.heap.size W W') : OutAt W' bo v xs := ⟨(hb.block bo (Lg.lt_heap h.hdr)).trans h.hdr, own_later h.row hb⟩
theorem Dn.below {w0 W W' : World} {bd : Nat} {v : Value} {xs : List B} (h : Dn w0 bd W v xs) (hb : Below W.heap.size W W') : Dn w0 bd W' v xs := h.keep (KeepO.of_below hb) (h.out.below hb)
theorem own_past {w : World} {B : Nat} {e : TypeId} {size : Nat} {v : Value} {n : Nat} {xs : List Value} (h : w.ownsRow B e size v n xs) {g : Nat} (hg : g < B) (i : Nat) (u : Value) : (w.setCell ⟨g, i, none⟩ u).ownsRow B e size v n xs := by
  refine ⟨h.1, ?_⟩
  rcases h.2 with h0 | ⟨g', cap, cur, hv, hgg, hcc, h1, h2, h3, h4⟩
  · exact .inl h0
  · exact .inr ⟨g', cap, cur, hv, hgg, (heap_set_ne (by omega)).trans hcc, h1, h2, h3, h4⟩
/-- one text more in the box: the world behind the store -/
theorem out_put {W W1 : World} {bo : Nat} {v v' : Value} {xs : List B} {s : B} {o : Obj} (h : OutAt W bo v xs) (hown : W1.ownsRow (bo + 1) 9 1 v' (xs.length + 1) (xs.map tv ++ [tv s])) (hg : (W.alloc o).grownBy W1 v.ownBlock) (hat : v'.ownBlock = v.ownBlock ∨ v'.ownBlock = some (W.alloc o).heap.size) :
    OutAt (W1.setCell ⟨bo, 0, none⟩ v') bo v' (xs ++ [s]) ∧ KeepO bo v W (W1.setCell ⟨bo, 0, none⟩ v') v' := by
  have hlt := Lg.lt_heap h.hdr
  have hz : W.heap.size + 1 ≤ W1.heap.size := by have := hg.size; simp at this; exact this
  have hbo : W1.heap[bo]? = some (.cells #[v] 42 (0, 0)) := (hg.block bo (by simp; omega) (fun e => by have := (h.row.lt bo e.symm).1; omega)).trans ((Below.heap_alloc _ _ _ hlt).trans h.hdr)
  refine ⟨⟨heap_set hbo, ?_⟩, ?_⟩
  · have e : (xs ++ [s]).map tv = xs.map tv ++ [tv s] := by simp
    rw [e, List.length_append]
    exact own_past hown (by omega) 0 v'
  · refine ⟨?_, ?_, ?_, ?_, fun b h1 h2 h3 => ?_, fun g hgg => ?_⟩
    · exact (show (W1.setCell ⟨bo, 0, none⟩ v').os = W1.os from by simp [World.setCell]).trans hg.os
    · exact (show (W1.setCell ⟨bo, 0, none⟩ v').tape = W1.tape from by simp [World.setCell]).trans hg.tape
    · exact (show (W1.setCell ⟨bo, 0, none⟩ v').output = W1.output from by simp [World.setCell]).trans hg.output
    · simp; omega
    · exact (Below.heap_setCell _ _ _ _ h2).trans ((hg.block b (by simp; omega) h3).trans (Below.heap_alloc _ _ _ h1))
    · rcases hat with h4 | h4
      · exact .inl (by rw [← h4]; exact hgg)
      · rw [h4] at hgg
        injection hgg with hgg
        subst hgg
        exact .inr (by simp)
theorem out_hdr {W W1 : World} {bo : Nat} {v : Value} {xs : List B} {o : Obj} (h : OutAt W bo v xs) (hg : (W.alloc o).grownBy W1 v.ownBlock) : W1.heap[bo]? = some (.cells #[v] 42 (0, 0)) := by
  have hlt := Lg.lt_heap h.hdr
  exact (hg.block bo (by simp; omega) (fun e => by have := (h.row.lt bo e.symm).1; omega)).trans ((Below.heap_alloc _ _ _ hlt).trans h.hdr)
/-- what the closure answers -/
def DnSays (l : List Fl) (bo : Nat) (W : World) (v : Value) (xs : List B) (e : Ending) (w' : World) : Prop := e = .returned (.tuple #[]) ∧ ∃ v', OutAt w' bo v' (xs ++ downL l) ∧ KeepO bo v W w' v'
set_option maxHeartbeats 8000000 in
theorem down_all (w0 : World) (bd : Nat) (hE : Env w0) : ∀ (N : Nat) (l : List Fl), bulk l < N → Small l → ∀ (A : Option Addr) (c : Nat) (W : World) (v : Value) (xs : List B), Dn w0 bd W v xs → Fls W A l → Far w0.heap.size v W A l → xs.length + (downL l).length ≤ 1000000 →
    Calls Tryz.prog 76 #[.slice A l.length c, .pointer (some ⟨w0.heap.size, 0, none⟩), .pointer (some ⟨bd, 0, none⟩)] W (DnSays l w0.heap.size W v xs)
  | 0, _, h, _ => absurd h (by omega)
  | N + 1, l, hN, hs => by
    intro A c W v xs hD hr hf hlen
    have DIR := Lib.hid (pdir_own A l c W (hE.below hD.bw) hr hs)
    have EN : Hid (∀ A c W', Below w0.heap.size w0 W' → Ens W' A (dir l) → Calls Tryz.prog 21 #[.slice A (dir l).length c] W' (EncSays (dir l) W')) := Lib.hid fun A c W' hW h => pencode_any A (dir l) c W' (hE.below hW) h (by have := dir_bytes hs; omega)
    have UN : Hid (∀ n W' v', n.length ≤ 1000000000 → KeepO w0.heap.size v W W' v' → Calls Tryz.prog 40 #[.slice A l.length c, .string (bs n)] W' (FilesOwn (under l n) W')) := Lib.hid fun n W' v' hn k => under_own A l c (bs n) (by rw [bs_len]; omega) W' (far_reads hr hf k) hs
    have IH : Hid (∀ n, l ≠ [] → ∀ A c W v xs, Dn w0 bd W v xs → Fls W A (under l n) → Far w0.heap.size v W A (under l n) → xs.length + (downL (under l n)).length ≤ 1000000 → Calls Tryz.prog 76 #[.slice A (under l n).length c, .pointer (some ⟨w0.heap.size, 0, none⟩), .pointer (some ⟨bd, 0, none⟩)] W (DnSays (under l n) w0.heap.size W v xs)) := Lib.hid fun n hne => by
      have := bulk_under_lt n hne
      exact down_all w0 bd hE N (under l n) (by omega) (hs.under n)
    obtain ⟨zs, hi, hz0, hz1, hz2'⟩ := Lg.info_parts (@Lg.infoS)
    have HD := Lib.hid hD
    have LEN := Lib.hid hlen
    have c0 : W.cell? ⟨w0.heap.size, 0, none⟩ = some v := (cell_heap hD.out.hdr 0).trans rfl
    have hbo := Lg.lt_heap hD.out.hdr
    have NL : Hid (∀ k (hk : k < (dir l).length), (dir l)[k].n.length ≤ 1000 ∧ l ≠ []) := Lib.hid fun k hk => by
      have key : ∀ x ∈ dir l, x.n.length ≤ 1000 ∧ l ≠ [] := by
        intro x hx
        rw [dir_map] at hx
        obtain ⟨n, hn, rfl⟩ := List.mem_map.1 hx
        rw [entry_n]
        exact ⟨name_len hs hn, name_ne hn⟩
      exact key _ (List.getElem_mem hk)
    have DL : (dir l).length ≤ 200 := by have := dir_len l; have := names_len l; have := hs.len; omega
    clear hE hr hf hD hlen hs hN
    go_enter Tryz.func76, Tryz.ntmps76
    go_wp2_with (fail)
    refine (DIR.out).mono ?_
    rintro e w1 ⟨v2, B2, rfl, hB2, ho2, hb1⟩
    obtain ⟨A2, n2, c2, rfl⟩ := own_form ho2
    have hn2 : n2 = (dir l).length := by
      rcases ho2.2 with ⟨h1, h2⟩ | ⟨g, cap, cur, h1, _⟩
      · injection h1; omega
      · injection h1
    subst hn2
    have FR2 := Lib.hid (far_own (bo := w0.heap.size) (l := dir l) ho2 hB2 HD.out.out.row hbo rfl)
    have R2 := Lib.hid (Reads.of_own ho2)
    have D1 := Lib.hid (HD.out.below hb1)
    have EE := Lib.hid (EN.out A2 c2 w1 D1.out.bw (Reads.of_own ho2))
    have K1 := Lib.hid (KeepO.of_below (bo := w0.heap.size) (v := v) hb1)
    clear DIR EN ho2 hB2
    have LE0 : Hid (xs.length + (firstE l).length ≤ 1000000) := Lib.hid (by have := LEN.out; have := downTo_len (l := l) 0; rw [downTo_zero] at this; omega)
    have START : Hid (∀ w3 v3, Dn w0 bd w3 v3 (xs ++ firstE l) → Dn w0 bd w3 v3 (xs ++ downTo l 0)) := Lib.hid fun w3 v3 h => by rw [downTo_zero]; exact h
    cases hrt : rightB (dir l)
    · have E1 := EE.out
      unfold EncSays at E1
      rw [encode_no hrt] at E1
      have E2 := Lib.hid E1
      have F0 : Hid (xs ++ firstE l = xs) := Lib.hid (by unfold firstE; rw [if_neg (by simp [hrt])]; simp)
      clear E1 EE hrt
      go_wp2_with (go_at_call 21; (with_reducible refine (E2.out).mono ?_); rintro e w3 ⟨rfl, hb2⟩)
      obtain ⟨v3, rfl⟩ : ∃ v3, v3 = v := ⟨_, rfl⟩
      have D3 := Lib.hid (START.out w3 v3 (by rw [F0.out]; exact D1.out.below hb2))
      have K3 : Hid (KeepO w0.heap.size v3 W w3 v3) := Lib.hid (K1.out.trans (KeepO.of_below hb2))
      have FR3 : Hid (Far w0.heap.size v3 w3 A2 (dir l)) := Lib.hid (FR2.out.keep (KeepO.of_below hb2))
      have R3 : Hid (Ens w3 A2 (dir l)) := Lib.hid ((R2.out.below hb2).more hb2.size)
      clear START F0 E2 D1 K1 FR2 R2 hb1 hb2 LE0
      go_loopw [24] (fun i Wk => ∃ (k : Nat) (vk : Value), i = .int .i64 k ∧ k ≤ (dir l).length ∧ Dn w0 bd Wk vk (xs ++ downTo l k) ∧ KeepO w0.heap.size v3 W Wk vk ∧ Far w0.heap.size vk Wk A2 (dir l) ∧ Ens Wk A2 (dir l)) (fun i _ => (dir l).length - (intOf i).toNat)
      case atStart => exact ⟨0, _, rfl, by omega, D3.out, K3.out, FR3.out, R3.out⟩
      case round =>
        obtain ⟨k, vk, rfl, hk, hdk, hkk, hfk, hek⟩ := hrel
        have DK := Lib.hid hdk
        have KK := Lib.hid hkk
        have FK := Lib.hid hfk
        have EK := Lib.hid hek
        clear hdk hkk hfk hek D3 K3 FR3 R3
        by_cases hlt : k < (dir l).length
        · have hkI : (k : Int) < ((dir l).length : Int) := by omega
          obtain ⟨ad, rfl, had, e0, e1, e2⟩ := Ens.at_ EK.out hlt
          have NX := Lib.hid (downTo_next hlt)
          have LX : Hid (xs.length + (downTo l (k + 1)).length ≤ 1000000) := Lib.hid (by have := LEN.out; have := downTo_len (l := l) (k + 1); omega)
          obtain ⟨hnl, hne⟩ := NL.out k hlt
          have hzr := DK.out.bw.size
          have hbk := Lg.lt_heap DK.out.out.hdr
          obtain ⟨W1, eW⟩ : ∃ W1, W1 = wr.alloc (.cells #[.string (bs (dir l)[k].n), .bool (dir l)[k].dir, .string (bs (dir l)[k].g)] 33) := ⟨_, rfl⟩
          have hbr : Below wr.heap.size wr W1 := by rw [eW]; exact (Below.refl _ _).alloc (Nat.le_refl _) _
          have hblk : W1.heap[wr.heap.size]? = some (.cells #[.string (bs (dir l)[k].n), .bool (dir l)[k].dir, .string (bs (dir l)[k].g)] 33 (0, 0)) := by rw [eW]; exact heap_alloc_new wr _
          have d0 : W1.cell? ⟨wr.heap.size, 0, none⟩ = some (.string (bs (dir l)[k].n)) := (cell_heap hblk 0).trans rfl
          have d1 : W1.cell? ⟨wr.heap.size, 1, none⟩ = some (.bool (dir l)[k].dir) := (cell_heap hblk 1).trans rfl
          have D1 := Lib.hid (DK.out.below hbr)
          have K1 := Lib.hid (KK.out.trans (KeepO.of_below hbr))
          have F1 := Lib.hid (FK.out.keep (KeepO.of_below (bo := w0.heap.size) (v := vk) hbr))
          have E1 : Hid (Ens W1 (some ad) (dir l)) := Lib.hid ((EK.out.below hbr).more hbr.size)
          cases hdir : (dir l)[k].dir
          · rw [hdir] at e1 d1
            have N0 : Hid (downTo l (k + 1) = downTo l k) := Lib.hid (by rw [NX.out, needE, if_neg (by simp [hdir])]; simp)
            rw [hdir] at eW
            clear hdir NX hblk
            generalize (dir l)[k] = x at *
            go_wp2_with (fail)
            rw [← eW]
            clear eW
            go_wp2_with (fail)
            go_roundw
            case rel => exact ⟨k + 1, vk, by go_num, by omega, by rw [N0.out]; exact D1.out, K1.out, F1.out, E1.out⟩
            case measure => simp [intOf]; omega
          · rw [hdir] at e1 d1
            have N0 : Hid (xs ++ downTo l (k + 1) = (xs ++ downTo l k) ++ downL (under l (dir l)[k].n)) := Lib.hid (by rw [NX.out, needE, if_pos (by simp [hdir])]; simp)
            rw [hdir] at eW hblk
            have b4 : Below W1.heap.size W1 W1.drew := (Below.refl _ _).drew
            have U := Lib.hid (UN.out (dir l)[k].n W1.drew vk (by omega) (K1.out.trans (KeepO.of_below b4)))
            have IN := Lib.hid (IH.out (dir l)[k].n hne)
            have LN : Hid ((xs ++ downTo l k).length + (downL (under l (dir l)[k].n)).length ≤ 1000000) := Lib.hid (by
              have h1 := LX.out
              have h2 := congrArg List.length N0.out
              simp only [List.length_append] at h1 h2 ⊢
              omega)
            have CF : Hid (∀ W', Below W1.heap.size W1 W' → W'.cell? ⟨bd, 0, none⟩ = some (.func (.func 76) #[] #[.pointer (some ⟨w0.heap.size, 0, none⟩), .pointer (some ⟨bd, 0, none⟩)])) := Lib.hid fun W' hW => (cell_heap ((D1.out.below hW).fn) 0).trans rfl
            have kS0 := CF.out _ (Below.refl _ _)
            have g0 : ∀ W', Below W1.heap.size W1 W' → W'.cell? ⟨wr.heap.size, 0, none⟩ = some (.string (bs (dir l)[k].n)) := fun W' hW => (cell_heap (heap_below hW (Lg.lt_heap hblk) hblk) 0).trans rfl
            have hbo1 := Lg.lt_heap D1.out.out.hdr
            have hT0 := Lg.lt_heap hblk
            clear hdir NX hblk UN IH b4 LX hnl hne NL
            generalize under l (dir l)[k].n = un at *
            generalize (dir l)[k] = x at *
            go_wp2_with (fail)
            rw [← eW]
            clear eW
            go_wp2_with (fail)
            have kT0 := g0 _ (Below.refl _ _)
            have hT1 : wr.heap.size < W1.heap.size := hT0
            clear d0
            go_region_held3 (fun W' => W'.cell? ⟨bd, 0, none⟩ = some (.func (.func 76) #[] #[.pointer (some ⟨w0.heap.size, 0, none⟩), .pointer (some ⟨bd, 0, none⟩)]) ∧ W'.cell? ⟨wr.heap.size, 0, none⟩ = some (.string (bs x.n))) (first | (with_reducible exact ⟨kS0, kT0⟩) | (with_reducible exact ⟨kS8, kT8⟩) | (with_reducible exact ⟨kS9, kT9⟩) | (with_reducible exact kS0) | (with_reducible exact kS8) | (with_reducible exact kS9) | go_keep) (first
              | (go_at_call 40; (with_reducible refine (U.out).mono ?_); rintro e w8 ⟨v8, rfl, ho8, hb8⟩; obtain ⟨A8, n8, c8, rfl⟩ := own_form ho8; have hn8 : n8 = un.length := (by rcases ho8.2 with ⟨h1, h2⟩ | ⟨g, cap, cur, h1, _⟩ <;> (injection h1; try omega)); subst hn8; have h8 : Below W1.heap.size W1 w8 := ((Below.refl _ _).drew).trans hb8; have D8 := Lib.hid (D1.out.below h8); have C8 := Lib.hid (IN.out A8 c8 w8 vk _ D8.out (Reads.of_own ho8) (far_own (W := W1.drew) ho8 (Nat.le_refl _) D1.out.out.row hbo1 rfl) LN.out); have kS8 := CF.out _ h8; have kT8 := g0 _ h8; clear ho8)
              | (go_at_call 76; (with_reducible refine (C8.out).mono ?_); rintro e w9 ⟨rfl, v9, ho9, k9⟩; have D9 := Lib.hid (D8.out.keep k9 ho9); have K9 := Lib.hid ((K1.out.trans (KeepO.of_below h8)).trans k9); have F9 := Lib.hid ((F1.out.keep (KeepO.of_below h8)).keep k9); have E9 : Hid (Ens w9 (some ad) (dir l)) := Lib.hid (far_reads ((E1.out.below h8).more h8.size) (F1.out.keep (KeepO.of_below h8)) k9); have kS9 := (cell_heap D9.out.fn 0).trans rfl; have kT9 : w9.cell? ⟨wr.heap.size, 0, none⟩ = some (.string (bs x.n)) := (World.cell?_of_block (k9.block wr.heap.size (Nat.lt_of_lt_of_le hT1 h8.size) (by omega) (fun e => by have := (DK.out.out.row.lt _ e.symm).2; omega))).trans kT8; clear ho9 k9))
            all_goals
              (try go_wp2_with (fail))
              go_roundw
              case rel => exact ⟨k + 1, v9, by go_num, by omega, by rw [N0.out]; exact D9.out, K9.out, F9.out, E9.out⟩
              case measure => simp [intOf]; omega
        · obtain rfl : k = (dir l).length := by omega
          have F := Lib.hid (downTo_all l)
          go_wp2_with (fail)
          go_end0
          exact ⟨rfl, vk, by rw [← F.out]; exact DK.out.out, KK.out⟩
    · have E1 := EE.out
      unfold EncSays at E1
      rw [encode_yes hrt] at E1
      have E2 := Lib.hid E1
      have F0 : Hid (firstE l = [bytesE (dir l)]) := Lib.hid (by unfold firstE; rw [if_pos hrt])
      clear E1 EE hrt
      rw [F0.out] at LE0
      generalize bytesE (dir l) = t at *
      go_wp2_with (first
        | (go_at_call 21; (with_reducible refine (E2.out).mono ?_); rintro e w2 ⟨rfl, hb2⟩; have D2 := Lib.hid (D1.out.below hb2); have cv := (cell_heap (D2.out.out.hdr) 0).trans rfl; have hz2 := D2.out.bw.size; have hl2 := Lg.lt_heap D2.out.out.hdr)
        | (at_builtin; refine wpList_append_any _ rfl (.tmp 18) (.tmp 20) _ rfl (w0.heap.size + 1) 9 zs _ 1 16 Tryz.underlying42 hi hz0 hz1 hz2' rfl (by omega) v xs.length _ rfl (D2.out.out.row.alloc _) _ (some ⟨w2.heap.size, 0, none⟩) 1 1 [.string (bs t)] rfl (Lg.reads_one (Lg.heap_new w2 _)) (Lg.mem1 rfl) (by have := LE0.out; simp only [maxLen]; simp at this; omega) (by have := LE0.out; simp at this; omega) (by simp; omega) ?_; intro v3' w2' hown hg hat; obtain ⟨Av, nv, cv', rfl⟩ := own_form hown; have OP := Lib.hid (out_put (s := t) D2.out.out hown hg hat); have hd3 := out_hdr D2.out.out hg; have c3 := (cell_heap hd3 0).trans rfl; have f3 := frozen_heap hd3 0; clear hown hg hat hd3))
      obtain ⟨v3, e3⟩ : ∃ v3, v3 = Value.slice Av nv cv' := ⟨_, rfl⟩
      rw [← e3] at OP ⊢
      generalize w2'.setCell ⟨w0.heap.size, 0, none⟩ v3 = w3 at *
      have D3 := Lib.hid (START.out w3 v3 (by rw [F0.out]; exact D2.out.keep OP.out.2 OP.out.1))
      have K3 : Hid (KeepO w0.heap.size v W w3 v3) := Lib.hid ((K1.out.trans (KeepO.of_below hb2)).trans OP.out.2)
      have FR3 : Hid (Far w0.heap.size v3 w3 A2 (dir l)) := Lib.hid ((FR2.out.keep (KeepO.of_below hb2)).keep OP.out.2)
      have R3 : Hid (Ens w3 A2 (dir l)) := Lib.hid (far_reads ((R2.out.below hb2).more hb2.size) (FR2.out.keep (KeepO.of_below hb2)) OP.out.2)
      clear START F0 E2 D1 K1 FR2 R2 hb1 hb2 LE0 D2 OP e3 cv hz2 hl2 c3 f3
      go_loopw [24] (fun i Wk => ∃ (k : Nat) (vk : Value), i = .int .i64 k ∧ k ≤ (dir l).length ∧ Dn w0 bd Wk vk (xs ++ downTo l k) ∧ KeepO w0.heap.size v W Wk vk ∧ Far w0.heap.size vk Wk A2 (dir l) ∧ Ens Wk A2 (dir l)) (fun i _ => (dir l).length - (intOf i).toNat)
      case atStart => exact ⟨0, _, rfl, by omega, D3.out, K3.out, FR3.out, R3.out⟩
      case round =>
        obtain ⟨k, vk, rfl, hk, hdk, hkk, hfk, hek⟩ := hrel
        have DK := Lib.hid hdk
        have KK := Lib.hid hkk
        have FK := Lib.hid hfk
        have EK := Lib.hid hek
        clear hdk hkk hfk hek D3 K3 FR3 R3
        by_cases hlt : k < (dir l).length
        · have hkI : (k : Int) < ((dir l).length : Int) := by omega
          obtain ⟨ad, rfl, had, e0, e1, e2⟩ := Ens.at_ EK.out hlt
          have NX := Lib.hid (downTo_next hlt)
          have LX : Hid (xs.length + (downTo l (k + 1)).length ≤ 1000000) := Lib.hid (by have := LEN.out; have := downTo_len (l := l) (k + 1); omega)
          obtain ⟨hnl, hne⟩ := NL.out k hlt
          have hzr := DK.out.bw.size
          have hbk := Lg.lt_heap DK.out.out.hdr
          obtain ⟨W1, eW⟩ : ∃ W1, W1 = wr.alloc (.cells #[.string (bs (dir l)[k].n), .bool (dir l)[k].dir, .string (bs (dir l)[k].g)] 33) := ⟨_, rfl⟩
          have hbr : Below wr.heap.size wr W1 := by rw [eW]; exact (Below.refl _ _).alloc (Nat.le_refl _) _
          have hblk : W1.heap[wr.heap.size]? = some (.cells #[.string (bs (dir l)[k].n), .bool (dir l)[k].dir, .string (bs (dir l)[k].g)] 33 (0, 0)) := by rw [eW]; exact heap_alloc_new wr _
          have d0 : W1.cell? ⟨wr.heap.size, 0, none⟩ = some (.string (bs (dir l)[k].n)) := (cell_heap hblk 0).trans rfl
          have d1 : W1.cell? ⟨wr.heap.size, 1, none⟩ = some (.bool (dir l)[k].dir) := (cell_heap hblk 1).trans rfl
          have D1 := Lib.hid (DK.out.below hbr)
          have K1 := Lib.hid (KK.out.trans (KeepO.of_below hbr))
          have F1 := Lib.hid (FK.out.keep (KeepO.of_below (bo := w0.heap.size) (v := vk) hbr))
          have E1 : Hid (Ens W1 (some ad) (dir l)) := Lib.hid ((EK.out.below hbr).more hbr.size)
          cases hdir : (dir l)[k].dir
          · rw [hdir] at e1 d1
            have N0 : Hid (downTo l (k + 1) = downTo l k) := Lib.hid (by rw [NX.out, needE, if_neg (by simp [hdir])]; simp)
            rw [hdir] at eW
            clear hdir NX hblk
            generalize (dir l)[k] = x at *
            go_wp2_with (fail)
            rw [← eW]
            clear eW
            go_wp2_with (fail)
            go_roundw
            case rel => exact ⟨k + 1, vk, by go_num, by omega, by rw [N0.out]; exact D1.out, K1.out, F1.out, E1.out⟩
            case measure => simp [intOf]; omega
          · rw [hdir] at e1 d1
            have N0 : Hid (xs ++ downTo l (k + 1) = (xs ++ downTo l k) ++ downL (under l (dir l)[k].n)) := Lib.hid (by rw [NX.out, needE, if_pos (by simp [hdir])]; simp)
            rw [hdir] at eW hblk
            have b4 : Below W1.heap.size W1 W1.drew := (Below.refl _ _).drew
            have U := Lib.hid (UN.out (dir l)[k].n W1.drew vk (by omega) (K1.out.trans (KeepO.of_below b4)))
            have IN := Lib.hid (IH.out (dir l)[k].n hne)
            have LN : Hid ((xs ++ downTo l k).length + (downL (under l (dir l)[k].n)).length ≤ 1000000) := Lib.hid (by
              have h1 := LX.out
              have h2 := congrArg List.length N0.out
              simp only [List.length_append] at h1 h2 ⊢
              omega)
            have CF : Hid (∀ W', Below W1.heap.size W1 W' → W'.cell? ⟨bd, 0, none⟩ = some (.func (.func 76) #[] #[.pointer (some ⟨w0.heap.size, 0, none⟩), .pointer (some ⟨bd, 0, none⟩)])) := Lib.hid fun W' hW => (cell_heap ((D1.out.below hW).fn) 0).trans rfl
            have kS0 := CF.out _ (Below.refl _ _)
            have g0 : ∀ W', Below W1.heap.size W1 W' → W'.cell? ⟨wr.heap.size, 0, none⟩ = some (.string (bs (dir l)[k].n)) := fun W' hW => (cell_heap (heap_below hW (Lg.lt_heap hblk) hblk) 0).trans rfl
            have hbo1 := Lg.lt_heap D1.out.out.hdr
            have hT0 := Lg.lt_heap hblk
            clear hdir NX hblk UN IH b4 LX hnl hne NL
            generalize under l (dir l)[k].n = un at *
            generalize (dir l)[k] = x at *
            go_wp2_with (fail)
            rw [← eW]
            clear eW
            go_wp2_with (fail)
            have kT0 := g0 _ (Below.refl _ _)
            have hT1 : wr.heap.size < W1.heap.size := hT0
            clear d0
            go_region_held3 (fun W' => W'.cell? ⟨bd, 0, none⟩ = some (.func (.func 76) #[] #[.pointer (some ⟨w0.heap.size, 0, none⟩), .pointer (some ⟨bd, 0, none⟩)]) ∧ W'.cell? ⟨wr.heap.size, 0, none⟩ = some (.string (bs x.n))) (first | (with_reducible exact ⟨kS0, kT0⟩) | (with_reducible exact ⟨kS8, kT8⟩) | (with_reducible exact ⟨kS9, kT9⟩) | (with_reducible exact kS0) | (with_reducible exact kS8) | (with_reducible exact kS9) | go_keep) (first
              | (go_at_call 40; (with_reducible refine (U.out).mono ?_); rintro e w8 ⟨v8, rfl, ho8, hb8⟩; obtain ⟨A8, n8, c8, rfl⟩ := own_form ho8; have hn8 : n8 = un.length := (by rcases ho8.2 with ⟨h1, h2⟩ | ⟨g, cap, cur, h1, _⟩ <;> (injection h1; try omega)); subst hn8; have h8 : Below W1.heap.size W1 w8 := ((Below.refl _ _).drew).trans hb8; have D8 := Lib.hid (D1.out.below h8); have C8 := Lib.hid (IN.out A8 c8 w8 vk _ D8.out (Reads.of_own ho8) (far_own (W := W1.drew) ho8 (Nat.le_refl _) D1.out.out.row hbo1 rfl) LN.out); have kS8 := CF.out _ h8; have kT8 := g0 _ h8; clear ho8)
              | (go_at_call 76; (with_reducible refine (C8.out).mono ?_); rintro e w9 ⟨rfl, v9, ho9, k9⟩; have D9 := Lib.hid (D8.out.keep k9 ho9); have K9 := Lib.hid ((K1.out.trans (KeepO.of_below h8)).trans k9); have F9 := Lib.hid ((F1.out.keep (KeepO.of_below h8)).keep k9); have E9 : Hid (Ens w9 (some ad) (dir l)) := Lib.hid (far_reads ((E1.out.below h8).more h8.size) (F1.out.keep (KeepO.of_below h8)) k9); have kS9 := (cell_heap D9.out.fn 0).trans rfl; have kT9 : w9.cell? ⟨wr.heap.size, 0, none⟩ = some (.string (bs x.n)) := (World.cell?_of_block (k9.block wr.heap.size (Nat.lt_of_lt_of_le hT1 h8.size) (by omega) (fun e => by have := (DK.out.out.row.lt _ e.symm).2; omega))).trans kT8; clear ho9 k9))
            all_goals
              (try go_wp2_with (fail))
              go_roundw
              case rel => exact ⟨k + 1, v9, by go_num, by omega, by rw [N0.out]; exact D9.out, K9.out, F9.out, E9.out⟩
              case measure => simp [intOf]; omega
        · obtain rfl : k = (dir l).length := by omega
          have F := Lib.hid (downTo_all l)
          go_wp2_with (fail)
          go_end0
          exact ⟨rfl, vk, by rw [← F.out]; exact DK.out.out, KK.out⟩
end Go.Proofs.YtglenhlhkgjnbaaGreatDoor.Fs
