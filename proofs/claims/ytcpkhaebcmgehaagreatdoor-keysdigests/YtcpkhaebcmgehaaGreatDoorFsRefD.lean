/- The contracts of the reference's Dir, digest, Digest. -/
import Derived.Test.YtcpkhaebcmgehaaGreatDoorFsDir
import Derived.Test.YtcpkhaebcmgehaaGreatDoorFsRefP
import Derived.Test.YtcpkhaebcmgehaaGreatDoorFsBytes
import Derived.Test.YtcpkhaebcmgehaaGreatDoorRefSum
import Derived.Deep.RegionHeld3
import Derived.Deep.CutRange
namespace Go.Proofs.YtcpkhaebcmgehaaGreatDoor.Fs
open Go.RowKit
set_option linter.unusedVariables false
set_option maxRecDepth 100000
theorem own_weak {w : World} {B B' : Nat} {e : TypeId} {size n : Nat} {v : Value} {xs : List Value} (h : w.ownsRow B e size v n xs) (hB : B' ≤ B) : w.ownsRow B' e size v n xs := by
  refine ⟨h.1, ?_⟩
  rcases h.2 with h2 | ⟨g, cap, cur, h1, h2, h3⟩
  · exact .inl h2
  · exact .inr ⟨g, cap, cur, h1, by omega, h3⟩
theorem tv_cell (l : List B) : ∀ u ∈ l.map tv, u.oneCell' = true := by
  intro u hu
  obtain ⟨x, _, rfl⟩ := List.mem_map.1 hu
  rfl
theorem take_reads {w : World} {B0 : Nat} {A : Option Addr} {l : List B} {j : Nat} (h : Reads w B0 1 A l.length (l.map tv)) (hj : j ≤ l.length) : Reads w B0 1 A j ((l.take j).map tv) := by
  refine ⟨by simp; omega, fun hn => ?_⟩
  obtain ⟨ad, e, hb, hc⟩ := h.2 (by omega)
  refine ⟨ad, e, hb, fun q u hu => hc q u ?_⟩
  have hq : q < j := by
    have := (List.getElem?_eq_some_iff.1 hu).1
    simp at this; omega
  rw [List.getElem?_map, List.getElem?_take_of_lt hq] at hu
  rw [List.getElem?_map]; exact hu
theorem drop_reads {w : World} {B0 g : Nat} {l : List B} {j : Nat} (h : Reads w B0 1 (some ⟨g, 0, none⟩) l.length (l.map tv)) (hj : j ≤ l.length) : Reads w B0 1 (some ⟨g, j, none⟩) (l.length - j) ((l.drop j).map tv) := by
  refine ⟨by simp, fun hn => ?_⟩
  obtain ⟨ad, e, hb, hc⟩ := h.2 (by omega)
  injection e with e
  subst e
  refine ⟨_, rfl, hb, fun q u hu => ?_⟩
  have := hc (j + q) u (by rw [List.getElem?_map] at hu ⊢; rw [← hu, List.getElem?_drop])
  rw [Lg.add_eq] at this
  rw [← Lg.add_eq g j, add_of_add, Lg.add_eq]; exact this
/-- names file by file -/
def nms (l : List Fl) (k : Nat) : List B := insAll (heads l k) []
theorem nms_all (l : List Fl) : nms l l.length = names l := by rw [nms, heads, List.take_length, names_eq]
theorem nms_next {l : List Fl} {k : Nat} (hk : k < l.length) : nms l (k + 1) = ins (head (tl l[k].p)) (nms l k) := by rw [nms, heads_next hk, insAll_snoc]; rfl
theorem nms_len (l : List Fl) (k : Nat) : (nms l k).length ≤ l.length := by
  have h := insAll_len (heads l k) []
  have : (heads l k).length ≤ l.length := by simp [heads]; omega
  unfold nms
  simp at h
  omega
theorem less_any (a b : B) : Op.bytesLess (bs a).toList (bs b).toList = decide (a < b) := by
  rw [Lib.toList_data, Lib.toList_data]
  exact bytesLess_eq a b
theorem eq_any (a b : B) : ((bs a).toList == (bs b).toList) = decide (a = b) := by
  rw [Lib.toList_data, Lib.toList_data, show (bs a).data.toList = a from rfl, show (bs b).data.toList = b from rfl]
  by_cases h : a = b
  · subst h; simp
  · rw [decide_eq_false h]; exact beq_eq_false_iff_ne.2 h
set_option maxHeartbeats 4000000 in
theorem rdir_step (A : Option Addr) (l : List Fl) (c : Nat) (p : B) (hp : p.length ≤ 1000000) (w : World) (hr : Fls w A l) (hs : Small l) (hlc : l.length ≤ c)
    (IH : ∀ l', bulk l' < bulk l → Small l' → ∀ A c W, Fls W A l' → l'.length ≤ c → Calls Tryz.prog 81 #[.slice A l'.length c] W (DigSays l' W)) :
    Calls Tryz.prog 130 #[.slice A l.length c, .string (bs p)] w (EntsSay (dir (at_ l p)) w) := by
  have UN := Lib.hid (runderp_any A l c p hp w hr hs hlc)
  have SM := Lib.hid (hs.at_ p)
  have IX : Hid (∀ n, n ∈ names (at_ l p) → ∀ A c W, Fls W A (under (at_ l p) n) → (under (at_ l p) n).length ≤ c → Calls Tryz.prog 81 #[.slice A (under (at_ l p) n).length c] W (DigSays (under (at_ l p) n) W)) := Lib.hid fun n hn => by
    have h1 := bulk_under_lt n (name_ne hn)
    have h2 := bulk_at l p
    exact IH _ (by omega) ((hs.at_ p).under n)
  have EN : Hid (∀ W v B, W.ownsRow B 86 3 v (names (at_ l p)).length (ec (ents (at_ l p) (names (at_ l p)).length)) → Below w.heap.size w W → EntsSay (dir (at_ l p)) w (.returned v) W) := Lib.hid fun W v B h hb => by
    rw [ents_all] at h
    exact own_ens h (dir_len _) hb
  obtain ⟨zs, hi, hz0, hz1, hz2⟩ := Lg.info_parts (@Lg.infoS)
  obtain ⟨ze, hei, hes⟩ := infoE
  obtain ⟨i1, ei, ez0, ez1, ez2⟩ := Lg.info_parts hei
  clear hr hs IH hei hlc
  generalize EntsSay (dir (at_ l p)) w = Q at *
  generalize at_ l p = m at *
  have hl := SM.out.len
  go_enter Tryz.func130, Tryz.ntmps130
  go_wp2_with (go_at_call 160; (with_reducible refine (UN.out).mono ?_); rintro e wc ⟨⟨A1, c1, rfl, hr1, hlc1⟩, hb1⟩)
  have RD : Hid (∀ W, Below wc.heap.size wc W → Reads W wc.heap.size 2 A1 m.length (fc m)) := Lib.hid fun W hW => hr1.below hW
  have BW : Hid (∀ W, Below wc.heap.size wc W → Below w.heap.size w W) := Lib.hid fun W hW => hb1.trans (hW.mono hb1.size)
  clear hr1 UN
  go_loopw [6, 7] (fun v i W => ∃ k : Nat, i = .int .i64 k ∧ k ≤ m.length ∧ W.ownsRow wc.heap.size 9 1 v (nms m k).length ((nms m k).map tv) ∧ Below wc.heap.size wc W) (fun _ i _ => m.length - (intOf i).toNat)
  case atStart => exact ⟨0, rfl, by omega, World.ownsRow_nil _ _ _ _, Below.refl _ _⟩
  case round =>
    obtain ⟨k, rfl, hk, hown, hb⟩ := hrel
    have HO := Lib.hid hown
    clear hown
    by_cases hlt : k < m.length
    · have hkI : (k : Int) < (m.length : Int) := by omega
      obtain ⟨ad, rfl, had, c0, c1⟩ := Fls.at_ (RD.out _ hb) hlt
      have NX := Lib.hid (nms_next hlt)
      have NL := nms_len m k
      have FP := (SM.out.each m[k] (List.getElem_mem hlt)).1
      have HD : Hid (∀ W, Calls Tryz.prog 161 #[.string m[k].p] W fun e w' => (∃ b, e = .returned (.tuple #[.string (bs (head (tl m[k].p))), .bool b]) ∧ (b = true ↔ (47 : UInt8) ∈ tl m[k].p)) ∧ W = w') := Lib.hid fun W => rhead_any m[k].p (by omega) W
      generalize nms m k = nl at *
      generalize head (tl m[k].p) = h at *
      generalize m[k] = f at *
      clear FP
      have hs1 := hb.size
      go_wp2_with (go_at_call 161; (with_reducible refine (HD.out _).mono ?_); rintro e w1 ⟨⟨bb, rfl, _⟩, rfl⟩)
      rcases HO.out.2 with ⟨rfl, h0⟩ | ⟨g, cap, cur, rfl, hB, hg, h1, h2, h3, h4⟩
      · obtain rfl : nl = [] := List.eq_nil_of_length_eq_zero h0
        have G : Hid (nms m (k + 1) = [h]) := Lib.hid (by rw [NX.out]; rfl)
        have LJ : Hid ([h].length = 0 + 0 + 1 + 0) := Lib.hid rfl
        go_loopw [10] (fun i W => i = .int .i64 0 ∧ wr = W) (fun i _ => 0)
        case atStart => exact ⟨rfl, rfl⟩
        case round =>
          obtain ⟨rfl, rfl⟩ := hrel
          go_upto_region 12 with (fail)
          go_cut [11] from 60 to 64 (fun v wx => wx.ownsRow wr.heap.size 9 1 v (0 + 0) [] ∧ wr = wx)
          case first =>
            go_wp2_with (fail)
            go_meet
            exact ⟨World.ownsRow_nil _ _ _ _, rfl⟩
          case rest =>
            obtain ⟨hown1, rfl⟩ := hcut
            go_wp2_with (first
              | (at_builtin; refine wpList_append_any _ rfl (.tmp 65) (.tmp 67) _ rfl wr.heap.size 9 zs _ 1 16 Tryz.underlying23 hi hz0 hz1 hz2 rfl (by omega) _ (0 + 0) [] rfl (hown1.alloc _) _ (some ⟨wr.heap.size, 0, none⟩) 1 1 [.string (bs h)] rfl (Lg.reads_one (Lg.heap_new wr _)) (Lg.mem1 rfl) (by simp only [maxLen]; omega) (by omega) ((Below.refl wr.heap.size wr).alloc (Nat.le_refl _) _).size ?_; intro v2 w2 hown2 hg2 hat2; have b2 : Below wr.heap.size wr w2 := ((Below.refl wr.heap.size wr).alloc (Nat.le_refl _) _).grown hg2 ((Below.refl wr.heap.size wr).alloc (Nat.le_refl _) _).size (fun q hq => (hown1.lt q hq).1); clear hg2 hat2)
              | (at_builtin; refine wpList_append_any _ rfl (.tmp 69) (.tmp 72) _ rfl wr.heap.size 9 zs _ 1 16 Tryz.underlying23 hi hz0 hz1 hz2 rfl (by omega) v2 (0 + 0 + 1) _ rfl hown2 wr.heap.size _ 0 _ [] rfl ⟨rfl, fun h => absurd h (by omega)⟩ (tv_cell []) (by simp only [maxLen]; omega) (by omega) b2.size ?_; intro v3 w3 hown3 hg3 hat3; have b3 : Below wr.heap.size wr w3 := b2.grown hg3 b2.size (fun q hq => (hown2.lt q hq).1); clear hg3 hat3))
            go_roundw
            case rel =>
              refine ⟨k + 1, by go_num, by omega, ?_, hb.trans (b3.mono hs1)⟩
              rw [G.out, LJ.out]
              refine own_weak ?_ hs1
              simpa [tv] using hown3
            case measure => simp [intOf]; omega
      · have RN := Lib.hid (Reads.of_own HO.out)
        clear hg h2 h3 h4
        go_loopw [10] (fun i W => ∃ j : Nat, i = .int .i64 j ∧ j ≤ nl.length ∧ (∀ q (hq : q < nl.length), q < j → nl[q] < h) ∧ wr = W) (fun i _ => nl.length - (intOf i).toNat)
        case atStart => exact ⟨0, rfl, by omega, fun q _ h => by omega, rfl⟩
        case round =>
          obtain ⟨j, rfl, hj, hq, rfl⟩ := hrel
          have HQ := Lib.hid hq
          clear hq
          by_cases hjl : j < nl.length
          · have hjI : (j : Int) < (nl.length : Int) := by omega
            obtain ⟨ad2, u, e2, _, hu, d0⟩ := Reads.at_ RN.out hjl
            obtain rfl : u = .string (bs nl[j]) := by
              rw [List.getElem?_map, List.getElem?_eq_getElem hjl] at hu
              exact (Option.some.inj hu).symm
            injection e2 with e2
            subst e2
            rw [Lg.add_eq] at d0
            by_cases hless : nl[j] < h
            · have F1 : Op.bytesLess (bs nl[j]).toList (bs h).toList = true := by rw [less_any]; exact decide_eq_true hless
              have HN : Hid (∀ q (hq : q < nl.length), q < j + 1 → nl[q] < h) := Lib.hid fun q hq h1 => by
                rcases Nat.lt_or_ge q j with h2 | h2
                · exact HQ.out q hq h2
                · obtain rfl : q = j := by omega
                  exact hless
              clear hless
              go_wp2_with (fail)
              go_roundw
              case rel => exact ⟨j + 1, by go_num, by omega, HN.out, by first | rfl | trivial⟩
              case measure => simp [intOf]; omega
            · have F1 : Op.bytesLess (bs nl[j]).toList (bs h).toList = false := by rw [less_any]; exact decide_eq_false hless
              by_cases heq : nl[j] = h
              · have F2 : ((bs nl[j]).toList == (bs h).toList) = true := by rw [eq_any]; exact decide_eq_true heq
                have G : Hid (nms m (k + 1) = nl) := Lib.hid (by rw [NX.out]; exact ins_hit hjl HQ.out heq)
                clear hless heq
                go_wp2_with (fail)
                go_roundw
                case rel => exact ⟨k + 1, by go_num, by omega, by rw [G.out]; exact HO.out, hb⟩
                case measure => simp [intOf]; omega
              · have F2 : ((bs nl[j]).toList == (bs h).toList) = false := by rw [eq_any]; exact decide_eq_false heq
                have G : Hid (nms m (k + 1) = nl.take j ++ h :: nl.drop j) := Lib.hid (by rw [NX.out]; exact ins_new hj HQ.out (fun _ => ⟨hless, heq⟩))
                clear hless heq
                have hce : ¬ cap = j := by omega
                have hce2 : ¬ cap - j = 0 := by omega
                have hjc : j ≤ cap := by omega
                have hg0 : g < wr.heap.size := (HO.out.lt g rfl).2
                have RT : Hid (∀ W, Below wr.heap.size wr W → Reads W wr.heap.size 1 (some ⟨g, 0, none⟩) j ((nl.take j).map tv)) := Lib.hid fun W hW => take_reads (RN.out.below hW) (by omega)
                have RDr : Hid (∀ W, Below wr.heap.size wr W → Reads W wr.heap.size 1 (some ⟨g, j, none⟩) (nl.length - j) ((nl.drop j).map tv)) := Lib.hid fun W hW => drop_reads (RN.out.below hW) (by omega)
                have LJ : Hid ((nl.take j ++ h :: nl.drop j).length = 0 + j + 1 + (nl.length - j)) := Lib.hid (by simp; omega)
                go_wp2_with (first
                  | (at_builtin; refine wpList_append_any _ rfl (.tmp 60) (.tmp 63) _ rfl wr.heap.size 9 zs _ 1 16 Tryz.underlying23 hi hz0 hz1 hz2 rfl (by omega) (.slice none 0 0) 0 [] rfl (World.ownsRow_nil _ _ _ _) _ (some ⟨g, 0, none⟩) j _ ((nl.take j).map tv) rfl (RT.out _ (Below.refl _ _)) (tv_cell _) (by simp only [maxLen]; omega) (by omega) (Nat.le_refl _) ?_; intro v1 w1 hown1 hg1 hat1; have b1 : Below wr.heap.size wr w1 := (Below.refl _ _).grown hg1 (Nat.le_refl _) (fun q hq => by cases hq); have z1 := b1.size; clear hg1 hat1)
                  | (at_builtin; refine wpList_append_any _ rfl (.tmp 65) (.tmp 67) _ rfl wr.heap.size 9 zs _ 1 16 Tryz.underlying23 hi hz0 hz1 hz2 rfl (by omega) v1 (0 + j) _ rfl (hown1.alloc _) _ (some ⟨w1.heap.size, 0, none⟩) 1 1 [.string (bs h)] rfl (Lg.reads_one (Lg.heap_new w1 _)) (Lg.mem1 rfl) (by simp only [maxLen]; omega) (by omega) (b1.alloc z1 _).size ?_; intro v2 w2 hown2 hg2 hat2; have b2 : Below wr.heap.size wr w2 := (b1.alloc z1 _).grown hg2 (b1.alloc z1 _).size (fun q hq => (hown1.lt q hq).1); clear hg2 hat2)
                  | (at_builtin; refine wpList_append_any _ rfl (.tmp 69) (.tmp 72) _ rfl wr.heap.size 9 zs _ 1 16 Tryz.underlying23 hi hz0 hz1 hz2 rfl (by omega) v2 (0 + j + 1) _ rfl hown2 _ (some ⟨g, j, none⟩) (nl.length - j) _ ((nl.drop j).map tv) rfl (RDr.out _ b2) (tv_cell _) (by simp only [maxLen]; omega) (by omega) b2.size ?_; intro v3 w3 hown3 hg3 hat3; have b3 : Below wr.heap.size wr w3 := b2.grown hg3 b2.size (fun q hq => (hown2.lt q hq).1); clear hg3 hat3))
                go_roundw
                case rel =>
                  refine ⟨k + 1, by go_num, by omega, ?_, hb.trans (b3.mono hs1)⟩
                  rw [G.out, LJ.out]
                  refine own_weak ?_ hs1
                  simpa [tv] using hown3
                case measure => simp [intOf]; omega
          · obtain rfl : j = nl.length := by omega
            have G : Hid (nms m (k + 1) = nl ++ [h]) := Lib.hid (by rw [NX.out, ins_new hj HQ.out (fun h => absurd h hjl)]; simp)
            have LJ : Hid ((nl ++ [h]).length = 0 + nl.length + 1 + 0) := Lib.hid (by simp)
            have hjI : ¬ (nl.length : Int) < (nl.length : Int) := by omega
            by_cases hce : cap = nl.length
            · subst hce
              go_wp2_with (first
                | (at_builtin; refine wpList_append_any _ rfl (.tmp 60) (.tmp 63) _ rfl wr.heap.size 9 zs _ 1 16 Tryz.underlying23 hi hz0 hz1 hz2 rfl (by omega) (.slice none 0 0) 0 [] rfl (World.ownsRow_nil _ _ _ _) _ (some ⟨g, 0, none⟩) nl.length _ (nl.map tv) rfl RN.out (tv_cell nl) (by simp only [maxLen]; omega) (by omega) (Nat.le_refl _) ?_; intro v1 w1 hown1 hg1 hat1; have b1 : Below wr.heap.size wr w1 := (Below.refl _ _).grown hg1 (Nat.le_refl _) (fun q hq => by cases hq); have z1 := b1.size; clear hg1 hat1)
                | (at_builtin; refine wpList_append_any _ rfl (.tmp 65) (.tmp 67) _ rfl wr.heap.size 9 zs _ 1 16 Tryz.underlying23 hi hz0 hz1 hz2 rfl (by omega) v1 (0 + nl.length) _ rfl (hown1.alloc _) _ (some ⟨w1.heap.size, 0, none⟩) 1 1 [.string (bs h)] rfl (Lg.reads_one (Lg.heap_new w1 _)) (Lg.mem1 rfl) (by simp only [maxLen]; omega) (by omega) (b1.alloc z1 _).size ?_; intro v2 w2 hown2 hg2 hat2; have b2 : Below wr.heap.size wr w2 := (b1.alloc z1 _).grown hg2 (b1.alloc z1 _).size (fun q hq => (hown1.lt q hq).1); clear hg2 hat2)
                | (at_builtin; refine wpList_append_any _ rfl (.tmp 69) (.tmp 72) _ rfl wr.heap.size 9 zs _ 1 16 Tryz.underlying23 hi hz0 hz1 hz2 rfl (by omega) v2 (0 + nl.length + 1) _ rfl hown2 wr.heap.size _ 0 _ [] rfl ⟨rfl, fun h => absurd h (by omega)⟩ (tv_cell []) (by simp only [maxLen]; omega) (by omega) b2.size ?_; intro v3 w3 hown3 hg3 hat3; have b3 : Below wr.heap.size wr w3 := b2.grown hg3 b2.size (fun q hq => (hown2.lt q hq).1); clear hg3 hat3))
              go_roundw
              case rel =>
                refine ⟨k + 1, by go_num, by omega, ?_, hb.trans (b3.mono hs1)⟩
                rw [G.out, LJ.out]
                refine own_weak ?_ hs1
                simpa [tv] using hown3
              case measure => simp [intOf]; omega
            · have hce2 : ¬ cap - nl.length = 0 := by omega
              go_wp2_with (first
                | (at_builtin; refine wpList_append_any _ rfl (.tmp 60) (.tmp 63) _ rfl wr.heap.size 9 zs _ 1 16 Tryz.underlying23 hi hz0 hz1 hz2 rfl (by omega) (.slice none 0 0) 0 [] rfl (World.ownsRow_nil _ _ _ _) _ (some ⟨g, 0, none⟩) nl.length _ (nl.map tv) rfl RN.out (tv_cell nl) (by simp only [maxLen]; omega) (by omega) (Nat.le_refl _) ?_; intro v1 w1 hown1 hg1 hat1; have b1 : Below wr.heap.size wr w1 := (Below.refl _ _).grown hg1 (Nat.le_refl _) (fun q hq => by cases hq); have z1 := b1.size; clear hg1 hat1)
                | (at_builtin; refine wpList_append_any _ rfl (.tmp 65) (.tmp 67) _ rfl wr.heap.size 9 zs _ 1 16 Tryz.underlying23 hi hz0 hz1 hz2 rfl (by omega) v1 (0 + nl.length) _ rfl (hown1.alloc _) _ (some ⟨w1.heap.size, 0, none⟩) 1 1 [.string (bs h)] rfl (Lg.reads_one (Lg.heap_new w1 _)) (Lg.mem1 rfl) (by simp only [maxLen]; omega) (by omega) (b1.alloc z1 _).size ?_; intro v2 w2 hown2 hg2 hat2; have b2 : Below wr.heap.size wr w2 := (b1.alloc z1 _).grown hg2 (b1.alloc z1 _).size (fun q hq => (hown1.lt q hq).1); clear hg2 hat2)
                | (at_builtin; refine wpList_append_any _ rfl (.tmp 69) (.tmp 72) _ rfl wr.heap.size 9 zs _ 1 16 Tryz.underlying23 hi hz0 hz1 hz2 rfl (by omega) v2 (0 + nl.length + 1) _ rfl hown2 wr.heap.size _ 0 _ [] rfl ⟨rfl, fun h => absurd h (by omega)⟩ (tv_cell []) (by simp only [maxLen]; omega) (by omega) b2.size ?_; intro v3 w3 hown3 hg3 hat3; have b3 : Below wr.heap.size wr w3 := b2.grown hg3 b2.size (fun q hq => (hown2.lt q hq).1); clear hg3 hat3))
              go_roundw
              case rel =>
                refine ⟨k + 1, by go_num, by omega, ?_, hb.trans (b3.mono hs1)⟩
                rw [G.out, LJ.out]
                refine own_weak ?_ hs1
                simpa [tv] using hown3
              case measure => simp [intOf]; omega
    · obtain rfl : k = m.length := by omega
      rw [nms_all] at HO
      obtain ⟨w3, rfl⟩ : ∃ w3, w3 = wr := ⟨_, rfl⟩
      have hs3 := hb.size
      obtain ⟨A3, c3, rfl⟩ : ∃ A c, u6 = .slice A (names m).length c := by
        rcases HO.out.2 with ⟨h1, h2⟩ | ⟨g, cap, cur, h1, _⟩
        · exact ⟨none, 0, by rw [h1, h2]⟩
        · exact ⟨_, _, h1⟩
      have hr3 := Reads.of_own HO.out
      have RN : Hid (∀ W, Below w3.heap.size w3 W → Reads W w3.heap.size 1 A3 (names m).length ((names m).map tv)) := Lib.hid fun W hW => hr3.below hW
      have RF : Hid (∀ W, Below w3.heap.size w3 W → Fls W A1 m) := Lib.hid fun W hW => (RD.out _ (hb.trans (hW.mono hs3))).more (by have := hW.size; omega)
      have BX : Hid (∀ W, Below w3.heap.size w3 W → Below w.heap.size w W) := Lib.hid fun W hW => BW.out _ (hb.trans (hW.mono hs3))
      have NL := names_len m
      clear hr3 HO RD BW hlt hk hb
      go_wp2_with (fail)
      go_loopw [12, 13] (fun v i W => ∃ k : Nat, i = .int .i64 k ∧ k ≤ (names m).length ∧ W.ownsRow w3.heap.size 86 3 v k (ec (ents m k)) ∧ Below w3.heap.size w3 W) (fun _ i _ => (names m).length - (intOf i).toNat)
      case atStart => exact ⟨0, rfl, by omega, World.ownsRow_nil _ _ _ _, Below.refl _ _⟩
      case round =>
        obtain ⟨k, rfl, hk, hown, hb⟩ := hrel
        have HO := Lib.hid hown
        clear hown
        by_cases hlt : k < (names m).length
        · have hkI : (k : Int) < ((names m).length : Int) := by omega
          obtain ⟨ad, u, rfl, had, hu, c0⟩ := Reads.at_ (RN.out _ hb) hlt
          obtain rfl : u = .string (bs (names m)[k]) := by
            rw [List.getElem?_map, List.getElem?_eq_getElem hlt] at hu
            exact (Option.some.inj hu).symm
          have FN := Lib.hid (ents_next hlt)
          have hmem := List.getElem_mem hlt
          have hnl := name_len SM.out hmem
          have IN := Lib.hid (IX.out _ hmem)
          clear hu hmem
          generalize ents m k = es at *
          generalize (names m)[k] = n at *
          have hs4 := hb.size
          have GT := Lib.hid (rget_any A1 m c1 (bs n) wr (RF.out _ hb) (by omega))
          have HB := Lib.hid hb
          clear hb
          cases hg : get m n with
          | some d =>
            have G1 : GetSays m (tl (bs n)) wr = fun e w' => e = .returned (.tuple #[.string d, .bool true]) ∧ Below wr.heap.size wr w' := by
              unfold GetSays
              rw [show tl (bs n) = n from rfl, hg]; rfl
            rw [G1] at GT
            obtain ⟨f, hf, rfl⟩ := get_mem hg
            have hd := (SM.out.each f hf).2
            have F := Lib.hid (entry_file hg)
            have SU : Hid (∀ W, Calls Tryz.prog 38 #[.string f.d] W fun e w' => e = .returned (.string (bs (Blk.sum (tl f.d)))) ∧ Below W.heap.size W w') := Lib.hid fun W => refsum_any f.d hd W
            clear G1 hg hf hd IN
            generalize Blk.sum (tl f.d) = g at *
            go_wp2_with (go_at_call 162; (with_reducible refine (GT.out).mono ?_); rintro e w4 ⟨rfl, hb4⟩)
            have CL : ∀ W, Below w4.heap.size w4 W → W.cell? (ad.add k) = some (.string (bs n)) := fun W hW => ((hb4.trans (hW.mono hb4.size)).cell (p := ad.add k) (by rw [block_of_add]; omega)).trans c0
            clear c0
            refine wp_region_mix (C := fun w' => Below w4.heap.size w4 w') 8 (by kernel_rfl) (by kernel_rfl) (fun _ _ d _ _ h => by cases d <;> exact h) (Below.refl _ _).drew ?_
            simp only [List.take_succ_cons, List.take_zero, List.drop_succ_cons, List.drop_zero]
            repeat (quiet_step (first | (intro _; rfl) | (intro hss; rw [CL _ hss]; exact ⟨rfl, rfl⟩) | (intro hss; go_at_call 38; ((with_reducible refine (SU.out _).mono ?_); rintro e w' ⟨rfl, hb'⟩; exact ⟨rfl, hss.trans (hb'.mono hss.size)⟩))))
            refine wpQuiet_nil ?_
            intro w5 hb5
            have hr5 := hb4.trans (hb5.mono hb4.size)
            have hs5 := hr5.size
            clear CL
            go_wp2_with (at_builtin; refine wpList_append_any _ rfl (.tmp 90) (.tmp 98) _ rfl w3.heap.size 86 i1 _ 3 40 Tryz.underlying81 ei ez0 ez1 ez2 hes (by omega) _ k _ rfl (own_later HO.out (hr5.alloc hs5 _)) _ (some ⟨w5.heap.size, 0, none⟩) 1 1 [.string (bs n), .bool false, .string (bs g)] rfl (reads3_new _ _ _ _ _ _ rfl) (ec_cell [⟨n, false, g⟩]) (by simp only [maxLen]; omega) (by omega) (by simp; omega) ?_; intro v' w6 hown6 hg6 hat6)
            go_roundw
            case rel =>
              refine ⟨k + 1, by go_num, by omega, ?_, Below.grown (HB.out.trans ((hr5.alloc hs5 _).mono hs4)) hg6 (by simp; omega) (fun g hg => (HO.out.lt g hg).1)⟩
              rw [FN.out, ec_append, F.out]; exact hown6
            case measure => simp [intOf]; omega
          | none =>
            have G1 : GetSays m (tl (bs n)) wr = fun e w' => e = .returned (.tuple #[.string ⟨#[]⟩, .bool false]) ∧ Below wr.heap.size wr w' := by
              unfold GetSays
              rw [show tl (bs n) = n from rfl, hg]; rfl
            rw [G1] at GT
            have F := Lib.hid (entry_dir hg)
            have UD : Hid (∀ W, Below w3.heap.size w3 W → Calls Tryz.prog 163 #[.slice A1 m.length c1, .string (bs n)] W (FilesSay (under m n) W)) := Lib.hid fun W hW => runder_any A1 m c1 (bs n) (by rw [bs_len]; omega) W (RF.out _ hW) SM.out
            clear G1 hg
            unfold DigSays at IN
            generalize under m n = un at *
            generalize digest un = g at *
            go_wp2_with (go_at_call 162; (with_reducible refine (GT.out).mono ?_); rintro e w4 ⟨rfl, hb4⟩)
            have b4 : Below w4.heap.size w4 w4.drew := (Below.refl _ _).drew
            have hs4' := hb4.size
            have hs34 : w3.heap.size ≤ w4.heap.size := Nat.le_trans hs4 hs4'
            have CL : Hid (∀ W, Below w4.heap.size w4 W → W.cell? (ad.add k) = some (.string (bs n))) := Lib.hid fun W hW => ((hb4.trans (hW.mono hb4.size)).cell (p := ad.add k) (by rw [block_of_add]; omega)).trans c0
            have U7 := Lib.hid (UD.out _ ((HB.out.trans (hb4.mono hs4)).trans (b4.mono hs34)))
            have kS0 := CL.out _ (Below.refl _ _)
            have HB4 := Lib.hid hb4
            have C3 : Hid (∀ W, Below w3.heap.size w3 W → W.cell? (ad.add k) = some (.string (bs n))) := Lib.hid fun W hW => (hW.cell (p := ad.add k) (by rw [block_of_add]; exact had)).trans ((HB.out.cell (p := ad.add k) (by rw [block_of_add]; exact had)).symm.trans c0)
            clear c0 b4
            go_region_held3 (fun W => W.cell? (ad.add k) = some (.string (bs n))) (first | (with_reducible exact kS0) | (with_reducible exact kS8) | (with_reducible exact kS5) | (with_reducible exact kSA _) | (with_reducible exact kS6) | go_keep) (first
              | (go_at_call 163; (with_reducible refine (U7.out).mono ?_); rintro e w8 ⟨⟨A8, c8, rfl, hr8, hc8⟩, hb8⟩; have D8 := Lib.hid (IN.out A8 c8 w8 hr8 hc8); clear hr8 hc8; have h8 : Below w4.heap.size w4 w8 := ((Below.refl _ _).drew).trans hb8; have kS8 := CL.out _ h8)
              | (go_at_call 81; (with_reducible refine (D8.out).mono ?_); rintro e w5 ⟨rfl, hb5⟩; have h5 : Below w4.heap.size w4 w5 := h8.trans (hb5.mono h8.size); have hr5 : Below wr.heap.size wr w5 := HB4.out.trans (h5.mono HB4.out.size); have hs5 := hr5.size; have kS5 := CL.out _ h5; have kSA := fun o => CL.out (w5.alloc o) (h5.alloc h5.size o))
              | (refine step_append_any _ rfl (.tmp 100) (.tmp 113) _ rfl w3.heap.size 86 i1 _ 3 40 Tryz.underlying81 ei ez0 ez1 ez2 hes (by omega) _ k _ rfl (own_later HO.out (hr5.alloc hs5 _)) _ (some ⟨w5.heap.size, 0, none⟩) 1 1 [.string (bs n), .bool true, .string (bs g)] rfl (reads3_new _ _ _ _ _ _ rfl) (ec_cell [⟨n, true, g⟩]) (by simp only [maxLen]; omega) (by omega) (by simp; omega) ?_; intro v' w6 hown6 hg6 hat6; have B6 := Lib.hid (Below.grown (HB.out.trans ((hr5.alloc hs5 _).mono hs4)) hg6 (by simp; omega) (fun g hg => (HO.out.lt g hg).1)); have HO6 := Lib.hid hown6; have kS6 := C3.out _ B6.out; clear hown6 hg6 hat6))
            all_goals
              (try go_wp2_with (fail))
              go_roundw
              case rel =>
                refine ⟨k + 1, by go_num, by omega, ?_, B6.out⟩
                rw [FN.out, ec_append, F.out]; exact HO6.out
              case measure => simp [intOf]; omega
        · obtain rfl : k = (names m).length := by omega
          go_wp2_with (fail)
          exact EN.out _ _ _ HO.out (BX.out _ hb)
theorem rdig_of {A : Option Addr} {l : List Fl} {c : Nat} {w : World} (hs : Small l) (h : Calls Tryz.prog 130 #[.slice A l.length c, .string (bs [])] w (EntsSay (dir (at_ l [])) w)) :
    Calls Tryz.prog 81 #[.slice A l.length c] w (DigSays l w) := by
  have D : Hid (Calls Tryz.prog 130 #[.slice A l.length c, .string ⟨#[]⟩] w (EntsSay (dir l) w)) := Lib.hid (by rw [at_nil] at h; exact h)
  have hl := dir_bytes hs
  have DG : Hid (Blk.sum (bytesE (dir l)) = digest l) := Lib.hid rfl
  have SU : Hid (∀ W, Calls Tryz.prog 38 #[.string (bs (bytesE (dir l)))] W fun e w' => e = .returned (.string (bs (Blk.sum (bytesE (dir l))))) ∧ Below W.heap.size W w') := Lib.hid fun W => refsum_any _ (by rw [bs_len]; omega) W
  have EN : Hid (∀ W, Below w.heap.size w W → DigSays l w (.returned (.string (bs (Blk.sum (bytesE (dir l)))))) W) := Lib.hid fun W hW => ⟨by rw [DG.out], hW⟩
  have BY : Hid (∀ A c W, Ens W A (dir l) → Calls Tryz.prog 129 #[.slice A (dir l).length c] W fun e w' => e = .returned (.string (bs (bytesE (dir l)))) ∧ Below W.heap.size W w') := Lib.hid fun A c W hr => rbytes_any A (dir l) c W hr (by omega)
  clear h DG
  generalize DigSays l w = Q at *
  generalize Blk.sum (bytesE (dir l)) = g at *
  generalize bytesE (dir l) = t at *
  generalize dir l = m at *
  go_enter Tryz.func81, Tryz.ntmps81
  go_wp2_with (first
    | (go_at_call 130; (with_reducible refine (D.out).mono ?_); rintro e w1 ⟨⟨A1, c1, rfl, hr1⟩, hb1⟩; have B1 := Lib.hid (BY.out A1 c1 w1 hr1); clear hr1)
    | (go_at_call 129; (with_reducible refine (B1.out).mono ?_); rintro e w2 ⟨rfl, hb2⟩)
    | (go_at_call 38; (with_reducible refine (SU.out _).mono ?_); rintro e w3 ⟨rfl, hb3⟩))
  have hb02 := hb1.trans (hb2.mono hb1.size)
  exact EN.out _ (hb02.trans (hb3.mono hb02.size))
theorem rdigest_all : ∀ (n : Nat) (l : List Fl), bulk l < n → Small l → ∀ (A : Option Addr) (c : Nat) (w : World), Fls w A l → l.length ≤ c → Calls Tryz.prog 81 #[.slice A l.length c] w (DigSays l w)
  | 0, _, h, _, _, _, _, _, _ => absurd h (by omega)
  | n + 1, l, h, hs, A, c, w, hr, hlc => rdig_of hs (rdir_step A l c [] (by simp) w hr hs hlc fun l' h' => rdigest_all n l' (by omega))
/-- the reference's Digest -/
theorem rdigest_any (A : Option Addr) (l : List Fl) (c : Nat) (w : World) (hr : Fls w A l) (hs : Small l) (hlc : l.length ≤ c) :
    Calls Tryz.prog 40 #[.slice A l.length c] w (DigSays l w) := by
  have D := Lib.hid (rdigest_all (bulk l + 1) l (by omega) hs A c w hr hlc)
  clear hr hs
  go_enter Tryz.func40, Tryz.ntmps40
  go_wp2_with (go_at_call 81; (with_reducible refine (D.out).mono ?_); rintro e w1 ⟨rfl, hb1⟩)
  go_ret
  exact ⟨rfl, hb1⟩
/-- the reference's Dir -/
theorem rdir_any (A : Option Addr) (l : List Fl) (c : Nat) (p : B) (hp : p.length ≤ 1000000) (w : World) (hr : Fls w A l) (hs : Small l) (hlc : l.length ≤ c) :
    Calls Tryz.prog 130 #[.slice A l.length c, .string (bs p)] w (EntsSay (dir (at_ l p)) w) :=
  rdir_step A l c p hp w hr hs hlc fun l' _ hs' A c w hr hlc => rdigest_all (bulk l' + 1) l' (by omega) hs' A c w hr hlc
end Go.Proofs.YtcpkhaebcmgehaaGreatDoor.Fs
