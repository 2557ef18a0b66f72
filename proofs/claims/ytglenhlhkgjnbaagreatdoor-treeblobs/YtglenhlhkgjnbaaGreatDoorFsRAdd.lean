/- The contracts of the reference's add, dirs and Blobs. -/
import Derived.Test.YtglenhlhkgjnbaaGreatDoorFsRefD
import Derived.Test.YtglenhlhkgjnbaaGreatDoorFsBlobW
import Derived.Test.YtglenhlhkgjnbaaGreatDoorFsRight
namespace Go.Proofs.YtglenhlhkgjnbaaGreatDoor.Fs
open Go.RowKit
set_option linter.unusedVariables false
set_option maxRecDepth 100000
/-- a row of texts -/
def Txts (W : World) (v : Value) (xs : List B) : Prop := ∃ B0, W.ownsRow B0 9 1 v xs.length (xs.map tv)
theorem Txts.below {W W' : World} {v : Value} {xs : List B} (h : Txts W v xs) (hb : Below W.heap.size W W') : Txts W' v xs := by
  obtain ⟨B0, h⟩ := h
  exact ⟨B0, own_later h hb⟩
def TxtsSay (m : List B) (w : World) (e : Ending) (w' : World) : Prop := (∃ v, e = .returned v ∧ Txts w' v m) ∧ Below w.heap.size w w'
set_option maxHeartbeats 4000000 in
theorem radd_any (v : Value) (nl : List B) (h : B) (w : World) (ht : Txts w v nl) (hn : nl.length ≤ 1000000) :
    Calls Tryz.prog 77 #[v, .string (bs h)] w (TxtsSay (ins h nl) w) := by
  obtain ⟨B0, hown⟩ := ht
  obtain ⟨zs, hi, hz0, hz1, hz2⟩ := Lg.info_parts (@Lg.infoS)
  have HO := Lib.hid hown
  generalize hQ : TxtsSay (ins h nl) w = Q
  have EN : Hid (∀ v B1 W xs, ins h nl = xs → W.ownsRow B1 9 1 v xs.length (xs.map tv) → Below w.heap.size w W → Q (.returned v) W) := Lib.hid fun v B1 W xs e ho hb => by
    rw [← hQ]
    subst e
    exact ⟨⟨v, rfl, B1, ho⟩, hb⟩
  clear hQ
  rcases hown.2 with ⟨rfl, h0⟩ | ⟨g, cap, cur, rfl, hB, hg, h1, h2, h3, h4⟩
  · obtain rfl : nl = [] := List.eq_nil_of_length_eq_zero h0
    clear hown hn h0
    go_enter Tryz.func77, Tryz.ntmps77
    go_wp2_with (fail)
    go_loopw [5] (fun i W => i = .int .i64 0 ∧ w = W) (fun i _ => 0)
    case atStart => exact ⟨rfl, rfl⟩
    case round =>
      obtain ⟨rfl, rfl⟩ := hrel
      go_upto_region 7 with (fail)
      go_cut [6] from 34 to 38 (fun v wx => wx.ownsRow w.heap.size 9 1 v (0 + 0) [] ∧ w = wx)
      case first =>
        go_wp2_with (fail)
        go_meet
        exact ⟨World.ownsRow_nil _ _ _ _, rfl⟩
      case rest =>
        obtain ⟨hown1, rfl⟩ := hcut
        go_wp2_with (first
          | (at_builtin; refine wpList_append_any _ rfl (.tmp 39) (.tmp 41) _ rfl w.heap.size 9 zs _ 1 16 Tryz.underlying42 hi hz0 hz1 hz2 rfl (by omega) _ (0 + 0) [] rfl (hown1.alloc _) _ (some ⟨w.heap.size, 0, none⟩) 1 1 [.string (bs h)] rfl (Lg.reads_one (Lg.heap_new w _)) (Lg.mem1 rfl) (by simp only [maxLen]; omega) (by omega) ((Below.refl w.heap.size w).alloc (Nat.le_refl _) _).size ?_; intro v2 w2 hown2 hg2 hat2; have b2 : Below w.heap.size w w2 := ((Below.refl w.heap.size w).alloc (Nat.le_refl _) _).grown hg2 ((Below.refl w.heap.size w).alloc (Nat.le_refl _) _).size (fun q hq => (hown1.lt q hq).1); clear hg2 hat2)
          | (at_builtin; refine wpList_append_any _ rfl (.tmp 43) (.tmp 46) _ rfl w.heap.size 9 zs _ 1 16 Tryz.underlying42 hi hz0 hz1 hz2 rfl (by omega) v2 (0 + 0 + 1) _ rfl hown2 w.heap.size _ 0 _ [] rfl ⟨rfl, fun h => absurd h (by omega)⟩ (tv_cell []) (by simp only [maxLen]; omega) (by omega) b2.size ?_; intro v3 w3 hown3 hg3 hat3; have b3 : Below w.heap.size w w3 := b2.grown hg3 b2.size (fun q hq => (hown2.lt q hq).1); clear hg3 hat3))
        exact EN.out v3 w.heap.size w3 [h] rfl (by simpa [tv] using hown3) b3
  · have RN := Lib.hid (Reads.of_own HO.out)
    clear hown hg h2 h3 h4
    go_enter Tryz.func77, Tryz.ntmps77
    go_wp2_with (fail)
    go_loopw [5] (fun i W => ∃ j : Nat, i = .int .i64 j ∧ j ≤ nl.length ∧ (∀ q (hq : q < nl.length), q < j → nl[q] < h) ∧ w = W) (fun i _ => nl.length - (intOf i).toNat)
    case atStart => exact ⟨0, rfl, by omega, fun q _ h => by omega, rfl⟩
    case round =>
      obtain ⟨j, rfl, hj, hq, rfl⟩ := hrel
      have HQ := Lib.hid hq
      clear hq
      by_cases hjl : j < nl.length
      · have hjI : (j : Int) < (nl.length : Int) := by omega
        obtain ⟨ad2, u, e2, _, hu, d0⟩ := Reads.at_ RN.out hjl
        obtain rfl : u = .string (bs nl[j]) := by
          rw [List.getElem?_map, List.getElem?_eq_getElem hjl] at hu
          exact (Option.some.inj hu).symm
        injection e2 with e2
        subst e2
        rw [Lg.add_eq] at d0
        by_cases hless : nl[j] < h
        · have F1 : Op.bytesLess (bs nl[j]).toList (bs h).toList = true := by rw [less_any]; exact decide_eq_true hless
          have HN : Hid (∀ q (hq : q < nl.length), q < j + 1 → nl[q] < h) := Lib.hid fun q hq h1 => by
            rcases Nat.lt_or_ge q j with h2 | h2
            · exact HQ.out q hq h2
            · obtain rfl : q = j := by omega
              exact hless
          clear hless
          go_wp2_with (fail)
          go_roundw
          case rel => exact ⟨j + 1, by go_num, by omega, HN.out, by first | rfl | trivial⟩
          case measure => simp [intOf]; omega
        · have F1 : Op.bytesLess (bs nl[j]).toList (bs h).toList = false := by rw [less_any]; exact decide_eq_false hless
          by_cases heq : nl[j] = h
          · have F2 : ((bs nl[j]).toList == (bs h).toList) = true := by rw [eq_any]; exact decide_eq_true heq
            have G : Hid (ins h nl = nl) := Lib.hid (ins_hit hjl HQ.out heq)
            clear hless heq
            go_wp2_with (fail)
            exact EN.out _ _ _ _ G.out HO.out (Below.refl _ _)
          · have F2 : ((bs nl[j]).toList == (bs h).toList) = false := by rw [eq_any]; exact decide_eq_false heq
            have G : Hid (ins h nl = nl.take j ++ h :: nl.drop j) := Lib.hid (ins_new hj HQ.out (fun _ => ⟨hless, heq⟩))
            clear hless heq
            have hce : ¬ cap = j := by omega
            have hce2 : ¬ cap - j = 0 := by omega
            have hjc : j ≤ cap := by omega
            have hg0 : g < w.heap.size := (HO.out.lt g rfl).2
            have RT : Hid (∀ W, Below w.heap.size w W → Reads W w.heap.size 1 (some ⟨g, 0, none⟩) j ((nl.take j).map tv)) := Lib.hid fun W hW => take_reads (RN.out.below hW) (by omega)
            have RDr : Hid (∀ W, Below w.heap.size w W → Reads W w.heap.size 1 (some ⟨g, j, none⟩) (nl.length - j) ((nl.drop j).map tv)) := Lib.hid fun W hW => drop_reads (RN.out.below hW) (by omega)
            have LJ : Hid ((nl.take j ++ h :: nl.drop j).length = 0 + j + 1 + (nl.length - j)) := Lib.hid (by simp; omega)
            go_wp2_with (first
              | (at_builtin; refine wpList_append_any _ rfl (.tmp 34) (.tmp 37) _ rfl w.heap.size 9 zs _ 1 16 Tryz.underlying42 hi hz0 hz1 hz2 rfl (by omega) (.slice none 0 0) 0 [] rfl (World.ownsRow_nil _ _ _ _) _ (some ⟨g, 0, none⟩) j _ ((nl.take j).map tv) rfl (RT.out _ (Below.refl _ _)) (tv_cell _) (by simp only [maxLen]; omega) (by omega) (Nat.le_refl _) ?_; intro v1 w1 hown1 hg1 hat1; have b1 : Below w.heap.size w w1 := (Below.refl _ _).grown hg1 (Nat.le_refl _) (fun q hq => by cases hq); have z1 := b1.size; clear hg1 hat1)
              | (at_builtin; refine wpList_append_any _ rfl (.tmp 39) (.tmp 41) _ rfl w.heap.size 9 zs _ 1 16 Tryz.underlying42 hi hz0 hz1 hz2 rfl (by omega) v1 (0 + j) _ rfl (hown1.alloc _) _ (some ⟨w1.heap.size, 0, none⟩) 1 1 [.string (bs h)] rfl (Lg.reads_one (Lg.heap_new w1 _)) (Lg.mem1 rfl) (by simp only [maxLen]; omega) (by omega) (b1.alloc z1 _).size ?_; intro v2 w2 hown2 hg2 hat2; have b2 : Below w.heap.size w w2 := (b1.alloc z1 _).grown hg2 (b1.alloc z1 _).size (fun q hq => (hown1.lt q hq).1); clear hg2 hat2)
              | (at_builtin; refine wpList_append_any _ rfl (.tmp 43) (.tmp 46) _ rfl w.heap.size 9 zs _ 1 16 Tryz.underlying42 hi hz0 hz1 hz2 rfl (by omega) v2 (0 + j + 1) _ rfl hown2 _ (some ⟨g, j, none⟩) (nl.length - j) _ ((nl.drop j).map tv) rfl (RDr.out _ b2) (tv_cell _) (by simp only [maxLen]; omega) (by omega) b2.size ?_; intro v3 w3 hown3 hg3 hat3; have b3 : Below w.heap.size w w3 := b2.grown hg3 b2.size (fun q hq => (hown2.lt q hq).1); clear hg3 hat3))
            exact EN.out v3 w.heap.size w3 _ G.out (by rw [LJ.out]; simpa [tv] using hown3) b3
      · obtain rfl : j = nl.length := by omega
        have G : Hid (ins h nl = nl ++ [h]) := Lib.hid (by rw [ins_new hj HQ.out (fun h => absurd h hjl)]; simp)
        have LJ : Hid ((nl ++ [h]).length = 0 + nl.length + 1 + 0) := Lib.hid (by simp)
        have hjI : ¬ (nl.length : Int) < (nl.length : Int) := by omega
        by_cases hce : cap = nl.length
        · subst hce
          go_wp2_with (first
            | (at_builtin; refine wpList_append_any _ rfl (.tmp 34) (.tmp 37) _ rfl w.heap.size 9 zs _ 1 16 Tryz.underlying42 hi hz0 hz1 hz2 rfl (by omega) (.slice none 0 0) 0 [] rfl (World.ownsRow_nil _ _ _ _) _ (some ⟨g, 0, none⟩) nl.length _ (nl.map tv) rfl RN.out (tv_cell nl) (by simp only [maxLen]; omega) (by omega) (Nat.le_refl _) ?_; intro v1 w1 hown1 hg1 hat1; have b1 : Below w.heap.size w w1 := (Below.refl _ _).grown hg1 (Nat.le_refl _) (fun q hq => by cases hq); have z1 := b1.size; clear hg1 hat1)
            | (at_builtin; refine wpList_append_any _ rfl (.tmp 39) (.tmp 41) _ rfl w.heap.size 9 zs _ 1 16 Tryz.underlying42 hi hz0 hz1 hz2 rfl (by omega) v1 (0 + nl.length) _ rfl (hown1.alloc _) _ (some ⟨w1.heap.size, 0, none⟩) 1 1 [.string (bs h)] rfl (Lg.reads_one (Lg.heap_new w1 _)) (Lg.mem1 rfl) (by simp only [maxLen]; omega) (by omega) (b1.alloc z1 _).size ?_; intro v2 w2 hown2 hg2 hat2; have b2 : Below w.heap.size w w2 := (b1.alloc z1 _).grown hg2 (b1.alloc z1 _).size (fun q hq => (hown1.lt q hq).1); clear hg2 hat2)
            | (at_builtin; refine wpList_append_any _ rfl (.tmp 43) (.tmp 46) _ rfl w.heap.size 9 zs _ 1 16 Tryz.underlying42 hi hz0 hz1 hz2 rfl (by omega) v2 (0 + nl.length + 1) _ rfl hown2 w.heap.size _ 0 _ [] rfl ⟨rfl, fun h => absurd h (by omega)⟩ (tv_cell []) (by simp only [maxLen]; omega) (by omega) b2.size ?_; intro v3 w3 hown3 hg3 hat3; have b3 : Below w.heap.size w w3 := b2.grown hg3 b2.size (fun q hq => (hown2.lt q hq).1); clear hg3 hat3))
          exact EN.out v3 w.heap.size w3 _ G.out (by rw [LJ.out]; simpa [tv] using hown3) b3
        · have hce2 : ¬ cap - nl.length = 0 := by omega
          go_wp2_with (first
            | (at_builtin; refine wpList_append_any _ rfl (.tmp 34) (.tmp 37) _ rfl w.heap.size 9 zs _ 1 16 Tryz.underlying42 hi hz0 hz1 hz2 rfl (by omega) (.slice none 0 0) 0 [] rfl (World.ownsRow_nil _ _ _ _) _ (some ⟨g, 0, none⟩) nl.length _ (nl.map tv) rfl RN.out (tv_cell nl) (by simp only [maxLen]; omega) (by omega) (Nat.le_refl _) ?_; intro v1 w1 hown1 hg1 hat1; have b1 : Below w.heap.size w w1 := (Below.refl _ _).grown hg1 (Nat.le_refl _) (fun q hq => by cases hq); have z1 := b1.size; clear hg1 hat1)
            | (at_builtin; refine wpList_append_any _ rfl (.tmp 39) (.tmp 41) _ rfl w.heap.size 9 zs _ 1 16 Tryz.underlying42 hi hz0 hz1 hz2 rfl (by omega) v1 (0 + nl.length) _ rfl (hown1.alloc _) _ (some ⟨w1.heap.size, 0, none⟩) 1 1 [.string (bs h)] rfl (Lg.reads_one (Lg.heap_new w1 _)) (Lg.mem1 rfl) (by simp only [maxLen]; omega) (by omega) (b1.alloc z1 _).size ?_; intro v2 w2 hown2 hg2 hat2; have b2 : Below w.heap.size w w2 := (b1.alloc z1 _).grown hg2 (b1.alloc z1 _).size (fun q hq => (hown1.lt q hq).1); clear hg2 hat2)
            | (at_builtin; refine wpList_append_any _ rfl (.tmp 43) (.tmp 46) _ rfl w.heap.size 9 zs _ 1 16 Tryz.underlying42 hi hz0 hz1 hz2 rfl (by omega) v2 (0 + nl.length + 1) _ rfl hown2 w.heap.size _ 0 _ [] rfl ⟨rfl, fun h => absurd h (by omega)⟩ (tv_cell []) (by simp only [maxLen]; omega) (by omega) b2.size ?_; intro v3 w3 hown3 hg3 hat3; have b3 : Below w.heap.size w w3 := b2.grown hg3 b2.size (fun q hq => (hown2.lt q hq).1); clear hg3 hat3))
          exact EN.out v3 w.heap.size w3 _ G.out (by rw [LJ.out]; simpa [tv] using hown3) b3
theorem insAll_app (a b acc : List B) : insAll (a ++ b) acc = insAll b (insAll a acc) := List.foldl_append
theorem insAll_one (s : B) (acc : List B) : insAll [s] acc = ins s acc := rfl
set_option maxHeartbeats 8000000 in
theorem rdirs_all : ∀ (N : Nat) (l : List Fl), bulk l < N → Small l → ∀ (A : Option Addr) (c : Nat) (W : World) (v : Value) (xs : List B), Txts W v xs → Fls W A l → l.length ≤ c → xs.length + (downL l).length ≤ 1000000 →
    Calls Tryz.prog 78 #[v, .slice A l.length c] W (TxtsSay (insAll (downL l) xs) W)
  | 0, _, h, _ => absurd h (by omega)
  | N + 1, l, hN, hs => by
    intro A c w v xs ht hr hlc hlen
    have DIR : Hid (Calls Tryz.prog 17 #[.slice A l.length c, .string ⟨#[]⟩] w (EntsSay (dir l) w)) := Lib.hid (by
      have := rdir_any A l c [] (by simp) w hr hs hlc
      rw [at_nil] at this
      exact this)
    have hby := dir_bytes hs
    have RI : Hid (∀ A c W, Ens W A (dir l) → Calls Tryz.prog 53 #[.slice A (dir l).length c] W fun e w' => e = .returned (.bool (rightB (dir l))) ∧ Below W.heap.size W w') := Lib.hid fun A c W h => rright_any A (dir l) c W h (fun x hx => by have := parts_le hx; omega) (by have := bytes_count (dir l); omega)
    have BY : Hid (∀ A c W, Ens W A (dir l) → Calls Tryz.prog 54 #[.slice A (dir l).length c] W fun e w' => e = .returned (.string (bs (bytesE (dir l)))) ∧ Below W.heap.size W w') := Lib.hid fun A c W h => rbytes_any A (dir l) c W h (by omega)
    have AD : Hid (∀ v W, Txts W v xs → Calls Tryz.prog 77 #[v, .string (bs (bytesE (dir l)))] W (TxtsSay (ins (bytesE (dir l)) xs) W)) := Lib.hid fun v W h => radd_any v xs _ W h (by omega)
    have UN : Hid (∀ n W, n.length ≤ 1000000 → Below w.heap.size w W → Calls Tryz.prog 50 #[.slice A l.length c, .string (bs n)] W (FilesSay (under l n) W)) := Lib.hid fun n W hn hW => runder_any A l c (bs n) (by rw [bs_len]; omega) W ((hr.below hW).more hW.size) hs
    have IH : Hid (∀ n, l ≠ [] → ∀ A c W v xs, Txts W v xs → Fls W A (under l n) → (under l n).length ≤ c → xs.length + (downL (under l n)).length ≤ 1000000 → Calls Tryz.prog 78 #[v, .slice A (under l n).length c] W (TxtsSay (insAll (downL (under l n)) xs) W)) := Lib.hid fun n hne => by
      have := bulk_under_lt n hne
      exact rdirs_all N (under l n) (by omega) (hs.under n)
    have NL : Hid (∀ k (hk : k < (dir l).length), (dir l)[k].n.length ≤ 1000 ∧ l ≠ []) := Lib.hid fun k hk => by
      have key : ∀ x ∈ dir l, x.n.length ≤ 1000 ∧ l ≠ [] := by
        intro x hx
        rw [dir_map] at hx
        obtain ⟨n, hn, rfl⟩ := List.mem_map.1 hx
        rw [entry_n]
        exact ⟨name_len hs hn, name_ne hn⟩
      exact key _ (List.getElem_mem hk)
    have DL : (dir l).length ≤ 200 := by have := dir_len l; have := names_len l; have := hs.len; omega
    have LEN := Lib.hid hlen
    have HT := Lib.hid ht
    generalize hQ : TxtsSay (insAll (downL l) xs) w = Q
    have EN : Hid (∀ v W ys, insAll (downL l) xs = ys → Txts W v ys → Below w.heap.size w W → Q (.returned v) W) := Lib.hid fun v W ys e h hb => by
      rw [← hQ, e]
      exact ⟨⟨v, rfl, h⟩, hb⟩
    clear hQ hr hs hN hlc hlen hby ht
    go_enter Tryz.func78, Tryz.ntmps78
    go_wp2_with (go_at_call 17; (with_reducible refine (DIR.out).mono ?_); rintro e w1 ⟨⟨A1, c1, rfl, hr1⟩, hb1⟩; have R1 := Lib.hid hr1; have RI1 := Lib.hid (RI.out A1 c1 w1 hr1); clear hr1)
    refine (RI1.out).mono ?_
    rintro e w2 ⟨rfl, hb2⟩
    have B2 := Lib.hid (hb1.trans (hb2.mono hb1.size))
    have BY2 := Lib.hid (BY.out A1 c1 w2 ((R1.out.below hb2).more hb2.size))
    have R2 : Hid (Ens w2 A1 (dir l)) := Lib.hid ((R1.out.below hb2).more hb2.size)
    have T2 := Lib.hid (HT.out.below B2.out)
    clear DIR RI RI1 BY R1 HT
    cases hrt : rightB (dir l)
    · have F0 : Hid (insAll (downTo l 0) xs = xs) := Lib.hid (by rw [downTo_zero, firstE, if_neg (by simp [hrt])]; rfl)
      clear hrt BY2 AD
      go_wp2_with (fail)
      obtain ⟨w3, rfl⟩ : ∃ w3, w3 = w2 := ⟨_, rfl⟩
      have B3 := Lib.hid B2.out
      have T3 : Hid (Txts w3 v (insAll (downTo l 0) xs)) := Lib.hid (by rw [F0.out]; exact T2.out)
      have R3 := Lib.hid R2.out
      clear B2 T2 R2 F0 hb1 hb2
      go_loopw [0, 6] (fun vk i Wk => ∃ k : Nat, i = .int .i64 k ∧ k ≤ (dir l).length ∧ Txts Wk vk (insAll (downTo l k) xs) ∧ Below w3.heap.size w3 Wk) (fun _ i _ => (dir l).length - (intOf i).toNat)
      case atStart => exact ⟨0, rfl, by omega, T3.out, Below.refl _ _⟩
      case round =>
        obtain ⟨k, rfl, hk, htk, hbk⟩ := hrel
        have TK := Lib.hid htk
        have BK := Lib.hid (B3.out.trans (hbk.mono B3.out.size))
        clear htk T3
        by_cases hlt : k < (dir l).length
        · have hkI : (k : Int) < ((dir l).length : Int) := by omega
          obtain ⟨ad, rfl, had, e0, e1, e2⟩ := Ens.at_ (R3.out.below hbk) hlt
          have NX := Lib.hid (downTo_next hlt)
          have LX : Hid (xs.length + (downTo l (k + 1)).length ≤ 1000000) := Lib.hid (by have := LEN.out; have := downTo_len (l := l) (k + 1); omega)
          obtain ⟨hnl, hne⟩ := NL.out k hlt
          cases hdir : (dir l)[k].dir
          · rw [hdir] at e1
            have N0 : Hid (downTo l (k + 1) = downTo l k) := Lib.hid (by rw [NX.out, needE, if_neg (by simp [hdir])]; simp)
            clear hdir NX
            generalize (dir l)[k] = x at *
            go_wp2_with (fail)
            go_roundw
            case rel => exact ⟨k + 1, by go_num, by omega, by rw [N0.out]; exact TK.out, hbk⟩
            case measure => simp [intOf]; omega
          · rw [hdir] at e1
            have N0 : Hid (insAll (downTo l (k + 1)) xs = insAll (downL (under l (dir l)[k].n)) (insAll (downTo l k) xs)) := Lib.hid (by rw [NX.out, needE, if_pos (by simp [hdir]), insAll_app])
            have U := Lib.hid (UN.out (dir l)[k].n wr (by omega) BK.out)
            have IN := Lib.hid (IH.out (dir l)[k].n hne)
            have LN : Hid ((insAll (downTo l k) xs).length + (downL (under l (dir l)[k].n)).length ≤ 1000000) := Lib.hid (by
              have h1 := LX.out
              have h2 := congrArg List.length NX.out
              rw [needE, if_pos (by simp [hdir]), List.length_append] at h2
              have h3 := insAll_len (downTo l k) xs
              omega)
            clear hdir NX UN IH LX hnl hne NL
            generalize under l (dir l)[k].n = un at *
            generalize (dir l)[k] = x at *
            go_wp2_with (first
              | (go_at_call 50; (with_reducible refine (U.out).mono ?_); rintro e w8 ⟨⟨A8, c8, rfl, hr8, hc8⟩, hb8⟩; have D8 := Lib.hid (IN.out A8 c8 w8 _ _ (TK.out.below hb8) hr8 hc8 LN.out); clear hr8 hc8)
              | (go_at_call 78; (with_reducible refine (D8.out).mono ?_); rintro e w9 ⟨⟨v9, rfl, ht9⟩, hb9⟩; have T9 := Lib.hid ht9; clear ht9))
            have h89 := hb8.trans (hb9.mono hb8.size)
            go_roundw
            case rel => exact ⟨k + 1, by go_num, by omega, by rw [N0.out]; exact T9.out, hbk.trans (h89.mono hbk.size)⟩
            case measure => simp [intOf]; omega
        · obtain rfl : k = (dir l).length := by omega
          have F := Lib.hid (downTo_all l)
          go_wp2_with (fail)
          exact EN.out _ _ _ (by rw [← F.out]) TK.out BK.out
    · have F0 : Hid (insAll (downTo l 0) xs = ins (bytesE (dir l)) xs) := Lib.hid (by rw [downTo_zero, firstE, if_pos hrt]; rfl)
      clear hrt
      go_wp2_with (first
        | (go_at_call 54; (with_reducible refine (BY2.out).mono ?_); rintro e w2' ⟨rfl, hb2'⟩; have AD2 := Lib.hid (AD.out v w2' (T2.out.below hb2')))
        | (go_at_call 77; (with_reducible refine (AD2.out).mono ?_); rintro e w3 ⟨⟨v3, rfl, ht3⟩, hb3⟩; have T3 : Hid (Txts w3 v3 (insAll (downTo l 0) xs)) := Lib.hid (by rw [F0.out]; exact ht3); clear ht3))
      have h23 := hb2'.trans (hb3.mono hb2'.size)
      have B3 := Lib.hid (B2.out.trans (h23.mono B2.out.size))
      have R3 : Hid (Ens w3 A1 (dir l)) := Lib.hid ((R2.out.below h23).more h23.size)
      clear B2 T2 R2 F0 hb1 hb2 BY2 AD AD2 h23 hb2' hb3
      go_loopw [0, 6] (fun vk i Wk => ∃ k : Nat, i = .int .i64 k ∧ k ≤ (dir l).length ∧ Txts Wk vk (insAll (downTo l k) xs) ∧ Below w3.heap.size w3 Wk) (fun _ i _ => (dir l).length - (intOf i).toNat)
      case atStart => exact ⟨0, rfl, by omega, T3.out, Below.refl _ _⟩
      case round =>
        obtain ⟨k, rfl, hk, htk, hbk⟩ := hrel
        have TK := Lib.hid htk
        have BK := Lib.hid (B3.out.trans (hbk.mono B3.out.size))
        clear htk T3
        by_cases hlt : k < (dir l).length
        · have hkI : (k : Int) < ((dir l).length : Int) := by omega
          obtain ⟨ad, rfl, had, e0, e1, e2⟩ := Ens.at_ (R3.out.below hbk) hlt
          have NX := Lib.hid (downTo_next hlt)
          have LX : Hid (xs.length + (downTo l (k + 1)).length ≤ 1000000) := Lib.hid (by have := LEN.out; have := downTo_len (l := l) (k + 1); omega)
          obtain ⟨hnl, hne⟩ := NL.out k hlt
          cases hdir : (dir l)[k].dir
          · rw [hdir] at e1
            have N0 : Hid (downTo l (k + 1) = downTo l k) := Lib.hid (by rw [NX.out, needE, if_neg (by simp [hdir])]; simp)
            clear hdir NX
            generalize (dir l)[k] = x at *
            go_wp2_with (fail)
            go_roundw
            case rel => exact ⟨k + 1, by go_num, by omega, by rw [N0.out]; exact TK.out, hbk⟩
            case measure => simp [intOf]; omega
          · rw [hdir] at e1
            have N0 : Hid (insAll (downTo l (k + 1)) xs = insAll (downL (under l (dir l)[k].n)) (insAll (downTo l k) xs)) := Lib.hid (by rw [NX.out, needE, if_pos (by simp [hdir]), insAll_app])
            have U := Lib.hid (UN.out (dir l)[k].n wr (by omega) BK.out)
            have IN := Lib.hid (IH.out (dir l)[k].n hne)
            have LN : Hid ((insAll (downTo l k) xs).length + (downL (under l (dir l)[k].n)).length ≤ 1000000) := Lib.hid (by
              have h1 := LX.out
              have h2 := congrArg List.length NX.out
              rw [needE, if_pos (by simp [hdir]), List.length_append] at h2
              have h3 := insAll_len (downTo l k) xs
              omega)
            clear hdir NX UN IH LX hnl hne NL
            generalize under l (dir l)[k].n = un at *
            generalize (dir l)[k] = x at *
            go_wp2_with (first
              | (go_at_call 50; (with_reducible refine (U.out).mono ?_); rintro e w8 ⟨⟨A8, c8, rfl, hr8, hc8⟩, hb8⟩; have D8 := Lib.hid (IN.out A8 c8 w8 _ _ (TK.out.below hb8) hr8 hc8 LN.out); clear hr8 hc8)
              | (go_at_call 78; (with_reducible refine (D8.out).mono ?_); rintro e w9 ⟨⟨v9, rfl, ht9⟩, hb9⟩; have T9 := Lib.hid ht9; clear ht9))
            have h89 := hb8.trans (hb9.mono hb8.size)
            go_roundw
            case rel => exact ⟨k + 1, by go_num, by omega, by rw [N0.out]; exact T9.out, hbk.trans (h89.mono hbk.size)⟩
            case measure => simp [intOf]; omega
        · obtain rfl : k = (dir l).length := by omega
          have F := Lib.hid (downTo_all l)
          go_wp2_with (fail)
          exact EN.out _ _ _ (by rw [← F.out]) TK.out BK.out
end Go.Proofs.YtglenhlhkgjnbaaGreatDoor.Fs
