/- The contracts of tree.bytes and of the reference's bytes. -/
import Derived.Test.YtcpkhaebcmgehaaGreatDoorFsMem
import Derived.Test.YtcpkhaebcmgehaaGreatDoorFsSpec
import Derived.Test.YtcpkhaebcmgehaaGreatDoorPkList
import Derived.Test.YtcpkhaebcmgehaaGreatDoorPkRead
import Derived.Test.YtcpkhaebcmgehaaGreatDoorKm
import Derived.Test.YtcpkhaebcmgehaaGreatDoorFsLays
import Derived.Test.YtcpkhaebcmgehaaGreatDoorSortCall
import Derived.Test.YtcpkhaebcmgehaaGreatDoorShelf
namespace Go.Proofs.YtcpkhaebcmgehaaGreatDoor.Fs
open Go.RowKit
set_option linter.unusedVariables false
set_option maxRecDepth 100000
theorem strs3 {w : World} {g : Nat} {T : TypeId} {a b c : ByteArray} (h : w.heap[g]? = some (.cells #[.string a, .string b, .string c] T (0, 0))) : Strs w w.heap.size (some ⟨g, 0, none⟩) [a, b, c] :=
  ⟨rfl, fun _ => ⟨_, rfl, Lg.lt_heap h, fun j u hu => by
    rw [Lg.add_eq, Lg.cell_at h]
    simpa using hu⟩⟩
def entB (x : En) : B := Pk.list [x.n, kind x, x.g]
theorem bytesE_eq (l : List En) : bytesE l = l.flatMap entB := rfl
theorem bytes_next {l : List En} {k : Nat} (hk : k < l.length) : bytesE (l.take (k + 1)) = bytesE (l.take k) ++ entB l[k] := by
  rw [bytesE_eq, List.take_succ_eq_append_getElem hk, List.flatMap_append, bytesE_eq]; simp
theorem bytes_le {l : List En} {k : Nat} (hk : k < l.length) : (bytesE (l.take k)).length + (entB l[k]).length ≤ (bytesE l).length := by
  have h := bytes_next hk
  have h2 : (bytesE l).length = (bytesE (l.take (k + 1))).length + (bytesE (l.drop (k + 1))).length := by
    conv => lhs; rw [← List.take_append_drop (k + 1) l]
    rw [bytesE_eq, List.flatMap_append, List.length_append]; rfl
  have h3 := congrArg List.length h
  rw [List.length_append] at h3
  omega
theorem ent_le (x : En) : ([x.n, kind x, x.g].flatMap Pk.text).length ≤ (entB x).length := text_len _
theorem bytes_count : ∀ l : List En, l.length ≤ (bytesE l).length
  | [] => by simp
  | x :: l => by
    have ih := bytes_count l
    have : 0 < (entB x).length := by unfold entB Pk.list; rw [Pk.text]; simp; omega
    rw [bytesE_eq, List.flatMap_cons, List.length_append, List.length_cons]
    rw [bytesE_eq] at ih; omega
set_option maxHeartbeats 2000000 in
theorem pbytes_any (A : Option Addr) (l : List En) (c : Nat) (w : World) (ht : Tab w) (hr : Ens w A l) (hl : (bytesE l).length ≤ 100000000) :
    Calls Tryz.prog 75 #[.slice A l.length c] w fun e w' => e = .returned (.string (bs (bytesE l))) ∧ Below w.heap.size w w' := by
  have hn := bytes_count l
  have RD : Hid (∀ W, Below w.heap.size w W → Reads W w.heap.size 3 A l.length (ec l)) := Lib.hid fun W hW => hr.below hW
  have HT := Lib.hid ht
  clear hr ht
  go_enter Tryz.func75, Tryz.ntmps75
  go_wp2_with (fail)
  go_loopw [9] (fun i wx => ∃ k : Nat, i = .int .i64 k ∧ k ≤ l.length ∧ SbAt w.heap.size w.heap.size (bytesE (l.take k)) wx ∧ Below w.heap.size w wx) (fun i _ => l.length - (intOf i).toNat)
  case atStart => exact ⟨0, rfl, by omega, Lib.fresh_isBuilder _ _ w, (Below.refl _ _).alloc (Nat.le_refl _) _⟩
  case round =>
    obtain ⟨k, rfl, hk, hsb, hbx⟩ := hrel
    rename World => wx
    by_cases hlt : k < l.length
    · obtain ⟨ad, rfl, had, c0, c1, c2⟩ := Ens.at_ (RD.out _ hbx) hlt
      have hkI : (k : Int) < (l.length : Int) := by omega
      have FT := Lib.hid (bytes_next hlt)
      have FL := bytes_le hlt
      have EL := ent_le l[k]
      have hz : (bs (entB l[k])).size = (entB l[k]).length := bs_size _
      have PL : Hid (∀ W q, Below w.heap.size w W → W.heap[q]? = some (.cells #[.string (bs l[k].n), .string (bs (kind l[k])), .string (bs l[k].g)] 9 (0, 0)) →
          Calls Tryz.prog 36 #[.slice (some ⟨q, 0, none⟩) 3 3] W fun e w' => e = .returned (.string (bs (entB l[k]))) ∧ Below W.heap.size W w') :=
        Lib.hid fun W q hW hq => plist_any (some ⟨q, 0, none⟩) [bs l[k].n, bs (kind l[k]), bs l[k].g] 3 W (HT.out.on hW) (strs3 hq) (by
          show ([l[k].n, kind l[k], l[k].g].flatMap Pk.text).length ≤ _
          omega)
      generalize bytesE (l.take k) = acc at *
      generalize entB l[k] = t at *
      have hbl : acc.length + (bs t).size ≤ 140737488355328 := by omega
      clear hz EL
      have kd : (l[k].dir = true → bs (kind l[k]) = ⟨#[100]⟩) ∧ (l[k].dir = false → bs (kind l[k]) = ⟨#[102]⟩) := ⟨fun h => by unfold kind; rw [if_pos h]; rfl, fun h => by unfold kind; rw [if_neg (by simp [h])]; rfl⟩
      generalize bs (kind l[k]) = kt at *
      generalize bs l[k].n = nt at *
      generalize bs l[k].g = gt at *
      generalize l[k].dir = d at *
      have hs1 := hbx.size
      have q2 := heap_alloc2_new wx (.cells #[.string nt, .bool d, .string gt] 86) (.cells #[.string nt, .string kt, .string gt] 9)
      have b2 : Below w.heap.size w ((wx.alloc (.cells #[.string nt, .bool d, .string gt] 86)).alloc (.cells #[.string nt, .string kt, .string gt] 9)) := (hbx.alloc hbx.size _).alloc (by simp; omega) _
      have P2 := Lib.hid (PL.out _ _ b2 q2)
      have SB2 : Hid (SbAt w.heap.size w.heap.size acc ((wx.alloc (.cells #[.string nt, .bool d, .string gt] 86)).alloc (.cells #[.string nt, .string kt, .string gt] 9))) := Lib.hid (hsb.later (((Below.refl _ _).alloc (Nat.le_refl _) _).alloc (by simp) _))
      have B2 := Lib.hid b2
      clear hsb q2 b2 PL
      cases d
      all_goals
        (first | obtain rfl := kd.1 rfl | obtain rfl := kd.2 rfl)
        clear kd
        go_wp2_with (first
          | (go_at_call 36; (with_reducible refine (P2.out).mono ?_); rintro e w1 ⟨rfl, hb1⟩; have SB1 := Lib.hid (SB2.out.later hb1); have hbx1 := B2.out.trans (hb1.mono B2.out.size))
          | (go_at_call 76; ((with_reducible refine (WriteString_any w.heap.size w.heap.size acc _ _ SB1.out hbl hbx1.size).mono ?_); rintro e w2 ⟨rfl, hsb2, hb2⟩; have HS2 := Lib.hid hsb2)))
        go_roundw
        case rel => exact ⟨k + 1, by go_num, by omega, by rw [FT.out]; exact HS2.out, hbx1.trans hb2⟩
        case measure => simp [intOf]; omega
    · obtain rfl : k = l.length := by omega
      rw [List.take_length] at hsb
      have hB := hbx.size
      go_wp2_with (go_at_call 77; ((with_reducible refine (bstring_any w.heap.size w.heap.size (bytesE l) _ hsb hB).mono ?_); rintro e w1 ⟨rfl, hb1⟩))
      go_ret
      exact ⟨rfl, hbx.trans hb1⟩
end Go.Proofs.YtcpkhaebcmgehaaGreatDoor.Fs
/- The contract of the reference's bytes. -/
namespace Go.Proofs.YtcpkhaebcmgehaaGreatDoor.Fs
open Go.RowKit
set_option linter.unusedVariables false
set_option maxRecDepth 100000
set_option maxHeartbeats 2000000 in
theorem rbytes_any (A : Option Addr) (l : List En) (c : Nat) (w : World) (hr : Ens w A l) (hl : (bytesE l).length ≤ 100000000) :
    Calls Tryz.prog 129 #[.slice A l.length c] w fun e w' => e = .returned (.string (bs (bytesE l))) ∧ Below w.heap.size w w' := by
  have hn := bytes_count l
  have RD : Hid (∀ W, Below w.heap.size w W → Reads W w.heap.size 3 A l.length (ec l)) := Lib.hid fun W hW => hr.below hW
  clear hr
  go_enter Tryz.func129, Tryz.ntmps129
  go_wp2_with (fail)
  go_loopw [3, 4] (fun v i wx => ∃ k : Nat, i = .int .i64 k ∧ k ≤ l.length ∧ wx.ownsRow w.heap.size 5 1 v (bytesE (l.take k)).length (Lib.byteCells (bytesE (l.take k))) ∧ Below w.heap.size w wx) (fun _ i _ => l.length - (intOf i).toNat)
  case atStart => exact ⟨0, rfl, by omega, World.ownsRow_nil _ _ _ _, Below.refl _ _⟩
  case round =>
    obtain ⟨k, rfl, hk, hown, hbx⟩ := hrel
    rename World => wx
    have HO := Lib.hid hown
    clear hown
    by_cases hlt : k < l.length
    · obtain ⟨ad, rfl, had, c0, c1, c2⟩ := Ens.at_ (RD.out _ hbx) hlt
      have hkI : (k : Int) < (l.length : Int) := by omega
      have FT := Lib.hid (bytes_next hlt)
      have FL := bytes_le hlt
      have EL := ent_le l[k]
      have hz : (bs (entB l[k])).size = (entB l[k]).length := bs_size _
      have PL : Hid (∀ W q, W.heap[q]? = some (.cells #[.string (bs l[k].n), .string (bs (kind l[k])), .string (bs l[k].g)] 9 (0, 0)) →
          Calls Tryz.prog 41 #[.slice (some ⟨q, 0, none⟩) 3 3] W fun e w' => e = .returned (.string (bs (entB l[k]))) ∧ Below W.heap.size W w') :=
        Lib.hid fun W q hq => reflist_any (some ⟨q, 0, none⟩) [bs l[k].n, bs (kind l[k]), bs l[k].g] 3 W (strs3 hq) (by
          show ([l[k].n, kind l[k], l[k].g].flatMap Pk.text).length ≤ _
          omega)
      generalize bytesE (l.take k) = acc at *
      have TS : Hid (tl (bs (entB l[k])) = entB l[k]) := Lib.hid rfl
      generalize entB l[k] = t at *
      have hbl : acc.length + (bs t).size ≤ 140737488355328 := by omega
      have HZ := Lib.hid hz
      clear hz EL
      have kd : (l[k].dir = true → bs (kind l[k]) = ⟨#[100]⟩) ∧ (l[k].dir = false → bs (kind l[k]) = ⟨#[102]⟩) := ⟨fun h => by unfold kind; rw [if_pos h]; rfl, fun h => by unfold kind; rw [if_neg (by simp [h])]; rfl⟩
      generalize bs (kind l[k]) = kt at *
      generalize bs l[k].n = nt at *
      generalize bs l[k].g = gt at *
      generalize l[k].dir = d at *
      have hs1 := hbx.size
      cases d
      all_goals
        (first | obtain rfl := kd.1 rfl | obtain rfl := kd.2 rfl)
        clear kd
        go_wp2_with (fail)
        refine wp_region_mix (C := fun w' => ∃ n, w' = wx.drewN n) 12 (by kernel_rfl) (by kernel_rfl) (fun _ _ d _ _ h => by cases d <;> exact h) ⟨1, rfl⟩ ?_
        simp only [List.take_succ_cons, List.take_zero, List.drop_succ_cons, List.drop_zero]
        repeat (quiet_step (first | (intro _; rfl) | (rintro ⟨n, rfl⟩; first | (rw [show ∀ a, (wx.drewN n).cell? a = wx.cell? a from fun _ => rfl, c0]; exact ⟨rfl, rfl⟩) | (rw [show ∀ a, (wx.drewN n).cell? a = wx.cell? a from fun _ => rfl, c2]; exact ⟨rfl, rfl⟩))))
        refine wpQuiet_nil ?_
        rintro _ ⟨n0, rfl⟩
        have b1 : ∀ o, Below wx.heap.size wx ((wx.drewN n0).alloc o) := fun o => (belowDN (Below.refl _ _) n0).alloc (Nat.le_refl _) o
        have q1 : ∀ a b c : Value, ((wx.drewN n0).alloc (.cells #[a, b, c] 9)).heap[wx.heap.size]? = some (.cells #[a, b, c] 9 (0, 0)) := fun a b c => heap_alloc_new (wx.drewN n0) _
        have P1 := Lib.hid (PL.out _ _ (q1 _ _ _))
        have B1 := Lib.hid b1
        clear b1 q1 PL
        go_wp2_with (first
          | (go_at_call 41; (with_reducible refine (P1.out).mono ?_); rintro e w1 ⟨rfl, hb1⟩; have hx1 := (B1.out _).trans (hb1.mono (B1.out _).size); have hown1 := own_later HO.out hx1; have hbx1 := hbx.trans (hx1.mono hbx.size); have hB := hbx1.size)
          | (at_builtin; refine append_text rfl (.tmp 17) (.tmp 30) 80 9 rfl w.heap.size 5 Tryz.underlying80 Tryz.underlying9 (by kernel_rfl) _ acc.length acc rfl hown1 (bs t) rfl hbl hB hbx1 ?_; intro v' w2 hown2 hb2 _))
        go_roundw
        case rel =>
          refine ⟨k + 1, by go_num, by omega, ?_, hb2⟩
          rw [FT.out, List.length_append, ← HZ.out]
          rw [show (bs t).data.toList = t from rfl] at hown2
          exact hown2
        case measure => simp [intOf]; omega
    · obtain rfl : k = l.length := by omega
      rw [List.take_length] at HO
      have hcv : (convert 80 9 _).run Tryz.prog _ = .ok (.string (bs (bytesE l))) _ := conv_own (P := Tryz.prog) Tryz.underlying80 Tryz.underlying5 Tryz.underlying9 HO.out
      go_wp2_with (fail)
      go_ret
      exact ⟨rfl, hbx⟩
end Go.Proofs.YtcpkhaebcmgehaaGreatDoor.Fs
/- The contracts of slices.Sort and slices.Compact on texts of the call's own. -/
namespace Go.Proofs.YtcpkhaebcmgehaaGreatDoor.Fs
open Go.RowKit Go.Sort
set_option linter.unusedVariables false
set_option maxRecDepth 100000
def tv (b : B) : Value := .string (bs b)
theorem sort_any (v : Value) (n B0 : Nat) (l : List B) (w : World) (hown : w.ownsRow B0 9 1 v n (l.map tv)) (hn : l.length = n) (hl : l.length ≤ 1000000) :
    Calls Tryz.prog 100 #[v] w fun e w' => e = .returned (.tuple #[]) ∧ w'.ownsRow B0 9 1 v n ((l.mergeSort fun x y => decide (x ≤ y)).map tv) ∧ w.grownBy w' v.ownBlock := by
  subst hn
  rcases hown.2 with ⟨rfl, h0⟩ | ⟨g, cap, cur, rfl, hB, hg, h1, h2, h3, h4⟩
  · have : l = [] := List.eq_nil_of_length_eq_zero h0
    subst this
    refine (Any.slices_Sort_string_none Tryz.l100 none 0 w).mono ?_
    rintro e w' ⟨h5, rfl⟩
    exact ⟨h5, by simpa using World.ownsRow_nil _ _ _ _, World.grownBy.refl _ _⟩
  · have hH := holds_gen (enc := encStr) (is := l) hg (by rw [Nat.mul_one] at h4; exact h4)
    have hlt : g < w.heap.size := (Array.getElem?_eq_some_iff.1 hg).1
    refine (Any.slices_Sort_string Tryz.l100 g 0 cap l w hH hlt (by omega)).mono ?_
    rintro e w' ⟨h5, m, os, rfl⟩
    have hp : (l.mergeSort fun x y => decide (x ≤ y)).length = l.length := (List.mergeSort_perm l _).length_eq
    refine ⟨h5, ?_, grown_gen encStr _⟩
    have := owns_gen (n := m) (os := os) encStr (ts := l.mergeSort fun x y => decide (x ≤ y)) hB hg (by rw [hp]; exact h1) h2 h3
    rw [hp] at this
    exact this
/-- texts that a Compact leaves -/
def CompactSays (v : Value) (m : List B) (w : World) (e : Ending) (w' : World) : Prop := ∃ A c, e = .returned (.slice A m.length c) ∧ Reads w' w'.heap.size 1 A m.length (m.map tv) ∧ w.grownBy w' v.ownBlock
theorem compact_any (v : Value) (n B0 : Nat) (l : List B) (w : World) (hown : w.ownsRow B0 9 1 v n (l.map tv)) (hn : l.length = n) (hl : l.length ≤ 1000000) :
    Calls Tryz.prog 101 #[v] w (CompactSays v (Lib.compact l) w) := by
  subst hn
  rcases hown.2 with ⟨rfl, h0⟩ | ⟨g, cap, cur, rfl, hB, hg, h1, h2, h3, h4⟩
  · have : l = [] := List.eq_nil_of_length_eq_zero h0
    subst this
    refine (Tryz.slices_Compact_string_empty none 0 w).mono ?_
    rintro e w' ⟨h5, rfl⟩
    exact ⟨none, 0, h5, Reads.none_, World.grownBy.refl _ _⟩
  · have hH := holds_gen (enc := encStr) (is := l) hg (by rw [Nat.mul_one] at h4; exact h4)
    refine (Tryz.slices_Compact_string g 0 cap l w hH (by omega) h1).mono ?_
    rintro e w' ⟨h5, q, rfl⟩
    have hle := Lib.compact_length_le l
    have hlen : (Lib.compact l ++ List.replicate (l.length - (Lib.compact l).length) ([] : B)).length = l.length := by simp; omega
    have eg : ∀ W : World, grow W #[] = W := fun W => by simp [grow]
    have ow := owns_gen (n := q) (os := #[]) encStr (ts := Lib.compact l ++ List.replicate (l.length - (Lib.compact l).length) ([] : B)) hB hg (by rw [hlen]; exact h1) h2 h3
    have gr := grown_gen (w := w) (g := g) (n := q) (os := #[]) encStr (Lib.compact l ++ List.replicate (l.length - (Lib.compact l).length) ([] : B)).toArray
    rw [eg] at ow gr
    refine ⟨_, _, h5, ?_, gr⟩
    have rd := Reads.of_own ow
    refine ⟨by simp, fun hn => ?_⟩
    obtain ⟨ad, e1, h6, h7⟩ := rd.2 (by rw [hlen]; omega)
    refine ⟨ad, e1, h6, fun j u hu => h7 j u ?_⟩
    rw [List.map_append, List.getElem?_append_left (by have := (List.getElem?_eq_some_iff.1 hu).1; simpa using this)]
    exact hu
end Go.Proofs.YtcpkhaebcmgehaaGreatDoor.Fs
