/- Joined by mkmerged.py: FsPaths, FsBytes, FsDir, FsRefG, FsRefU. -/
import Derived.Test.YtifiipmmgnmciaaGreatDoorMi21
import Derived.Test.YtifiipmmgnmciaaGreatDoorMi17
import Derived.Test.YtifiipmmgnmciaaGreatDoorMiKm
import Derived.Test.YtifiipmmgnmciaaGreatDoorMi16
import Derived.Test.YtifiipmmgnmciaaGreatDoorMi01
import Derived.Test.YtifiipmmgnmciaaGreatDoorMi14
import Derived.Deep.Cut
import Derived.IntWalk
/- FsPaths, what a claim needs of it (prune.py). -/
namespace Go.Proofs.YtifiipmmgnmciaaGreatDoor.Fs
open Go.RowKit
set_option linter.unusedVariables false
set_option maxRecDepth 100000
set_option maxHeartbeats 1000000 in
theorem under_own (A : Option Addr) (l : List Fl) (c : Nat) (p : ByteArray) (hp : p.size ≤ 1000000000) (w : World) (hr : Fls w A l) (hs : Small l) :
    Calls Tryz.prog 92 #[.slice A l.length c, .string p] w (FilesOwn (under l (tl p)) w) := by
  obtain ⟨z, hzi, hzs⟩ := infoF
  obtain ⟨i0, hi, hz0, hz1, hz2⟩ := Lg.info_parts hzi
  have RD : Hid (∀ W, Below w.heap.size w W → Reads W w.heap.size 2 A l.length (fc l)) := Lib.hid fun W hW => hr.below hW
  have hl := hs.len
  have HP := Lib.hid hp
  have EN : Hid (∀ W v, W.ownsRow w.heap.size 203 2 v (upto l (tl p) l.length).length (fc (upto l (tl p) l.length)) → Below w.heap.size w W → FilesOwn (under l (tl p)) w (.returned v) W) := Lib.hid fun W v h hb => by
    rw [← upto_all]
    exact ⟨_, rfl, h, hb⟩
  clear hr hs hzi hp
  generalize FilesOwn (under l (tl p)) w = Q at *
  go_enter Tryz.func92, Tryz.ntmps92
  go_wp2_with (fail)
  go_loopw [5, 12] (fun v i W => ∃ k : Nat, i = .int .i64 k ∧ k ≤ l.length ∧ W.ownsRow w.heap.size 203 2 v (upto l (tl p) k).length (fc (upto l (tl p) k)) ∧ Below w.heap.size w W) (fun _ i _ => l.length - (intOf i).toNat)
  case atStart => exact ⟨0, rfl, by omega, World.ownsRow_nil _ _ _ _, Below.refl _ _⟩
  case round =>
    obtain ⟨k, rfl, hk, hown, hb⟩ := hrel
    have HO := Lib.hid hown
    clear hown
    by_cases hlt : k < l.length
    · have hkI : (k : Int) < (l.length : Int) := by omega
      obtain ⟨ad, rfl, had, c0, c1⟩ := Fls.at_ (RD.out _ hb) hlt
      have hul := upto_len l (tl p) k
      have HIT := Lib.hid (fun r => upto_hit (p := tl p) (r := r) hlt)
      have MISS := Lib.hid (upto_miss (p := tl p) hlt)
      generalize upto l (tl p) k = u at *
      generalize l[k] = f at *
      have BL : Hid (∀ W, Calls Tryz.prog 172 #[.string f.p, .string p] W fun e w' => e = .returned (.tuple #[.string (bs (rest (tl f.p) (tl p))), .bool (belowB (tl f.p) (tl p)).isSome]) ∧ W = w') := Lib.hid fun W => below_any f.p p HP.out W
      have hbc := below_cases (tl f.p) (tl p)
      have q0 := heap_alloc_new wr (.cells #[.string f.p, .string f.d] 203)
      rcases (show (belowB (tl f.p) (tl p) = none) ∨ belowB (tl f.p) (tl p) = some (rest (tl f.p) (tl p)) by rcases hbc with ⟨_, h⟩ | ⟨_, _, h⟩ | ⟨_, _, h⟩ <;> simp [h]) with h | h
      · rw [h, Option.isSome_none] at BL
        have F := Lib.hid (MISS.out h)
        clear hbc h HIT MISS
        go_wp2_with (go_at_call 172; ((with_reducible refine (BL.out _).mono ?_); rintro e w1 ⟨rfl, rfl⟩))
        go_roundw
        case rel => exact ⟨k + 1, by go_num, by omega, by rw [F.out]; exact HO.out.alloc _, hb.alloc hb.size _⟩
        case measure => simp [intOf]; omega
      · rw [h, Option.isSome_some] at BL
        have F := Lib.hid (HIT.out _ h)
        clear hbc h HIT MISS
        generalize rest (tl f.p) (tl p) = r at *
        go_wp2_with (first
          | (go_at_call 172; ((with_reducible refine (BL.out _).mono ?_); rintro e w1 ⟨rfl, rfl⟩))
          | (at_builtin; refine wpList_append_any _ rfl (.tmp 24) (.tmp 29) _ rfl w.heap.size 203 i0 _ 2 32 Tryz.underlying24 hi hz0 hz1 hz2 hzs (by omega) _ u.length _ rfl ((HO.out.alloc _).alloc _) _ (some ⟨wr.heap.size + 1, 0, none⟩) 1 1 [.string (bs r), .string f.d] rfl (by first | exact reads2_new _ _ _ _ _ | skip) (fc_cell [⟨bs r, f.d⟩]) (by simp only [maxLen]; omega) (by omega) ((hb.alloc hb.size _).alloc (by simp; have := hb.size; omega) _).size ?_; intro v' w2 hown2 hg2 hat2))
        go_roundw
        case rel =>
          refine ⟨k + 1, by go_num, by omega, ?_, ((hb.alloc hb.size _).alloc (by simp; have := hb.size; omega) _).grown hg2 ?_ ?_⟩
          · rw [F.out, fc_append, List.length_append]; exact hown2
          · simp; have := hb.size; omega
          · intro g hg
            have := hb.size
            exact (HO.out.lt g hg).1
        case measure => simp [intOf]; omega
    · obtain rfl : k = l.length := by omega
      go_wp2_with (fail)
      exact EN.out _ _ HO.out hb
theorem under_any (A : Option Addr) (l : List Fl) (c : Nat) (p : ByteArray) (hp : p.size ≤ 1000000000) (w : World) (hr : Fls w A l) (hs : Small l) :
    Calls Tryz.prog 92 #[.slice A l.length c, .string p] w (FilesSay (under l (tl p)) w) := by
  refine (under_own A l c p hp w hr hs).mono ?_
  rintro e w' ⟨v, rfl, ho, hb⟩
  exact own_fls ho rfl hb
theorem find1_any (a b s : ByteArray) (B : Nat) (W : World) (hB : B < W.heap.size) (hc : W.cell? ⟨B, 0, none⟩ = some (.string s)) :
    Calls Tryz.prog 294 #[.agg #[.string a, .string b], .pointer (some ⟨B, 0, none⟩)] W fun e w' => e = .returned (.bool (decide (tl a = tl s))) ∧ Below W.heap.size W w' := by
  have hne : B ≠ W.heap.size := by omega
  by_cases h : a = s
  · have F : Hid (decide (tl a = tl s) = true) := Lib.hid (decide_eq_true (by rw [h]))
    subst h
    go_enter Tryz.func294, Tryz.ntmps294
    go_wp2_with (fail)
    go_ret
    exact ⟨Lg.ret_bool F.out, (Below.refl _ _).alloc (Nat.le_refl _) _⟩
  · have F : Hid (decide (tl a = tl s) = false) := Lib.hid (decide_eq_false fun e => h (Lg.tl_inj e))
    have g := Lg.s_ne h
    clear h
    go_enter Tryz.func294, Tryz.ntmps294
    go_wp2_with (fail)
    go_ret
    exact ⟨Lg.ret_bool F.out, (Below.refl _ _).alloc (Nat.le_refl _) _⟩
theorem find_any (A : Option Addr) (l : List Fl) (c : Nat) (s : ByteArray) (w : World) (hr : Fls w A l) (hl : l.length ≤ 1000000000) :
    Calls Tryz.prog 247 #[.slice A l.length c, .string s] w fun e w' => e = .returned (.int .i64 (idx (fun f : Fl => decide (tl f.p = tl s)) l)) ∧ Below w.heap.size w w' := by
  obtain ⟨W2, eW⟩ : ∃ W2, W2 = w.alloc (.cells #[.string s] 9) := ⟨_, rfl⟩
  have hb2 : Below w.heap.size w W2 := by rw [eW]; exact (Below.refl _ _).alloc (Nat.le_refl _) _
  have hsz : W2.heap.size = w.heap.size + 1 := by rw [eW]; simp
  have k0 : W2.heap[w.heap.size]? = some (.cells #[.string s] 9 (0, 0)) := by rw [eW]; exact heap_alloc_new w _
  have IX := Lib.hid (indexF_any 294 #[.pointer (some ⟨w.heap.size, 0, none⟩)] (enters_of Tryz.func294 (by kernel_rfl) rfl) (fun f => decide (tl f.p = tl s)) A l c W2 ((hr.below hb2).more hb2.size) hl
    (fun f hf V hV => find1_any _ _ _ _ V (by have := hV.size; omega) ((hV.cell (p := ⟨w.heap.size, 0, none⟩) (by show w.heap.size < _; omega)).trans (Lg.cell_at k0 0))))
  clear k0 hsz hr
  generalize idx (fun f : Fl => decide (tl f.p = tl s)) l = r at *
  go_enter Tryz.func247, Tryz.ntmps247
  go_wp2_with (go_at_call 196; rw [← eW]; (with_reducible refine (IX.out).mono ?_); rintro e w1 ⟨rfl, hb⟩)
  go_ret
  exact ⟨rfl, hb2.trans (hb.mono hb2.size)⟩
def GetSays (l : List Fl) (n : B) (w : World) (e : Ending) (w' : World) : Prop := e = .returned (.tuple #[.string ((get l n).getD ⟨#[]⟩), .bool (get l n).isSome]) ∧ Below w.heap.size w w'
theorem get_any (A : Option Addr) (l : List Fl) (c : Nat) (s : ByteArray) (w : World) (hr : Fls w A l) (hl : l.length ≤ 1000000000) :
    Calls Tryz.prog 197 #[.slice A l.length c, .string s] w (GetSays l (tl s) w) := by
  have FA := Lib.hid (find_any A l c s w hr hl)
  rcases idx_cases (fun f : Fl => decide (tl f.p = tl s)) l with ⟨e1, e2⟩ | ⟨k, hk, e1, e2⟩
  · rw [e1] at FA
    have G : Hid (get l (tl s) = none) := Lib.hid (by unfold get; rw [e2]; rfl)
    clear e1 e2 hr
    go_enter Tryz.func197, Tryz.ntmps197
    go_wp2_with (go_at_call 247; (with_reducible refine (FA.out).mono ?_); rintro e w1 ⟨rfl, hb⟩)
    go_ret2
    unfold GetSays
    rw [G.out]
    exact ⟨rfl, hb⟩
  · rw [e1] at FA
    have G : Hid (get l (tl s) = some l[k].d) := Lib.hid (by unfold get; rw [e2]; rfl)
    have hkI : (k : Int) < (l.length : Int) := by omega
    obtain ⟨ad, rfl, had, c0, c1⟩ := Fls.at_ hr hk
    have CL : Hid (∀ W, Below w.heap.size w W → W.cell? ⟨(ad.add (k * 2)).block, (ad.add (k * 2)).off + 1, none⟩ = some (.string l[k].d)) := Lib.hid fun W hW => (hW.cell (by show (ad.add (k * 2)).block < _; rw [block_of_add]; exact had)).trans c1
    clear e1 e2 hr c0 c1
    generalize l[k] = f at *
    go_enter Tryz.func197, Tryz.ntmps197
    go_wp2_with (go_at_call 247; (with_reducible refine (FA.out).mono ?_); rintro e w1 ⟨rfl, hb⟩; have c1 := CL.out _ hb)
    go_ret2
    unfold GetSays
    rw [G.out]
    exact ⟨rfl, hb⟩
end Go.Proofs.YtifiipmmgnmciaaGreatDoor.Fs
/- FsBytes, what a claim needs of it (prune.py). -/
namespace Go.Proofs.YtifiipmmgnmciaaGreatDoor.Fs
open Go.RowKit
set_option linter.unusedVariables false
set_option maxRecDepth 100000
theorem strs3 {w : World} {g : Nat} {T : TypeId} {a b c : ByteArray} (h : w.heap[g]? = some (.cells #[.string a, .string b, .string c] T (0, 0))) : Strs w w.heap.size (some ⟨g, 0, none⟩) [a, b, c] :=
  ⟨rfl, fun _ => ⟨_, rfl, Lg.lt_heap h, fun j u hu => by
    rw [Lg.add_eq, Lg.cell_at h]
    simpa using hu⟩⟩
def entB (x : En) : B := Pk.list [x.n, kind x, x.g]
theorem bytesE_eq (l : List En) : bytesE l = l.flatMap entB := rfl
theorem bytes_next {l : List En} {k : Nat} (hk : k < l.length) : bytesE (l.take (k + 1)) = bytesE (l.take k) ++ entB l[k] := by
  rw [bytesE_eq, List.take_succ_eq_append_getElem hk, List.flatMap_append, bytesE_eq]; simp
theorem bytes_le {l : List En} {k : Nat} (hk : k < l.length) : (bytesE (l.take k)).length + (entB l[k]).length ≤ (bytesE l).length := by
  have h := bytes_next hk
  have h2 : (bytesE l).length = (bytesE (l.take (k + 1))).length + (bytesE (l.drop (k + 1))).length := by
    conv => lhs; rw [← List.take_append_drop (k + 1) l]
    rw [bytesE_eq, List.flatMap_append, List.length_append]; rfl
  have h3 := congrArg List.length h
  rw [List.length_append] at h3
  omega
theorem ent_le (x : En) : ([x.n, kind x, x.g].flatMap Pk.text).length ≤ (entB x).length := text_len _
theorem bytes_count : ∀ l : List En, l.length ≤ (bytesE l).length
  | [] => by simp
  | x :: l => by
    have ih := bytes_count l
    have : 0 < (entB x).length := by unfold entB Pk.list; rw [Pk.text]; simp; omega
    rw [bytesE_eq, List.flatMap_cons, List.length_append, List.length_cons]
    rw [bytesE_eq] at ih; omega
set_option maxHeartbeats 2000000 in
theorem pbytes_any (A : Option Addr) (l : List En) (c : Nat) (w : World) (ht : Tab w) (hr : Ens w A l) (hl : (bytesE l).length ≤ 100000000) :
    Calls Tryz.prog 344 #[.slice A l.length c] w fun e w' => e = .returned (.string (bs (bytesE l))) ∧ Below w.heap.size w w' := by
  have hn := bytes_count l
  have RD : Hid (∀ W, Below w.heap.size w W → Reads W w.heap.size 3 A l.length (ec l)) := Lib.hid fun W hW => hr.below hW
  have HT := Lib.hid ht
  clear hr ht
  go_enter Tryz.func344, Tryz.ntmps344
  go_wp2_with (fail)
  go_loopw [9] (fun i wx => ∃ k : Nat, i = .int .i64 k ∧ k ≤ l.length ∧ SbAt w.heap.size w.heap.size (bytesE (l.take k)) wx ∧ Below w.heap.size w wx) (fun i _ => l.length - (intOf i).toNat)
  case atStart => exact ⟨0, rfl, by omega, Lib.fresh_isBuilder _ _ w, (Below.refl _ _).alloc (Nat.le_refl _) _⟩
  case round =>
    obtain ⟨k, rfl, hk, hsb, hbx⟩ := hrel
    rename World => wx
    by_cases hlt : k < l.length
    · obtain ⟨ad, rfl, had, c0, c1, c2⟩ := Ens.at_ (RD.out _ hbx) hlt
      have hkI : (k : Int) < (l.length : Int) := by omega
      have FT := Lib.hid (bytes_next hlt)
      have FL := bytes_le hlt
      have EL := ent_le l[k]
      have hz : (bs (entB l[k])).size = (entB l[k]).length := bs_size _
      have PL : Hid (∀ W q, Below w.heap.size w W → W.heap[q]? = some (.cells #[.string (bs l[k].n), .string (bs (kind l[k])), .string (bs l[k].g)] 9 (0, 0)) →
          Calls Tryz.prog 117 #[.slice (some ⟨q, 0, none⟩) 3 3] W fun e w' => e = .returned (.string (bs (entB l[k]))) ∧ Below W.heap.size W w') :=
        Lib.hid fun W q hW hq => plist_any (some ⟨q, 0, none⟩) [bs l[k].n, bs (kind l[k]), bs l[k].g] 3 W (HT.out.on hW) (strs3 hq) (by
          show ([l[k].n, kind l[k], l[k].g].flatMap Pk.text).length ≤ _
          omega)
      generalize bytesE (l.take k) = acc at *
      generalize entB l[k] = t at *
      have hbl : acc.length + (bs t).size ≤ 140737488355328 := by omega
      clear hz EL
      have kd : (l[k].dir = true → bs (kind l[k]) = ⟨#[100]⟩) ∧ (l[k].dir = false → bs (kind l[k]) = ⟨#[102]⟩) := ⟨fun h => by unfold kind; rw [if_pos h]; rfl, fun h => by unfold kind; rw [if_neg (by simp [h])]; rfl⟩
      generalize bs (kind l[k]) = kt at *
      generalize bs l[k].n = nt at *
      generalize bs l[k].g = gt at *
      generalize l[k].dir = d at *
      have hs1 := hbx.size
      have q2 := heap_alloc2_new wx (.cells #[.string nt, .bool d, .string gt] 468) (.cells #[.string nt, .string kt, .string gt] 9)
      have b2 : Below w.heap.size w ((wx.alloc (.cells #[.string nt, .bool d, .string gt] 468)).alloc (.cells #[.string nt, .string kt, .string gt] 9)) := (hbx.alloc hbx.size _).alloc (by simp; omega) _
      have P2 := Lib.hid (PL.out _ _ b2 q2)
      have SB2 : Hid (SbAt w.heap.size w.heap.size acc ((wx.alloc (.cells #[.string nt, .bool d, .string gt] 468)).alloc (.cells #[.string nt, .string kt, .string gt] 9))) := Lib.hid (hsb.later (((Below.refl _ _).alloc (Nat.le_refl _) _).alloc (by simp) _))
      have B2 := Lib.hid b2
      clear hsb q2 b2 PL
      cases d
      all_goals
        (first | obtain rfl := kd.1 rfl | obtain rfl := kd.2 rfl)
        clear kd
        go_wp2_with (first
          | (go_at_call 117; (with_reducible refine (P2.out).mono ?_); rintro e w1 ⟨rfl, hb1⟩; have SB1 := Lib.hid (SB2.out.later hb1); have hbx1 := B2.out.trans (hb1.mono B2.out.size))
          | (go_at_call 120; ((with_reducible refine (WriteString_any w.heap.size w.heap.size acc _ _ SB1.out hbl hbx1.size).mono ?_); rintro e w2 ⟨rfl, hsb2, hb2⟩; have HS2 := Lib.hid hsb2)))
        go_roundw
        case rel => exact ⟨k + 1, by go_num, by omega, by rw [FT.out]; exact HS2.out, hbx1.trans hb2⟩
        case measure => simp [intOf]; omega
    · obtain rfl : k = l.length := by omega
      rw [List.take_length] at hsb
      have hB := hbx.size
      go_wp2_with (go_at_call 116; ((with_reducible refine (bstring_any w.heap.size w.heap.size (bytesE l) _ hsb hB).mono ?_); rintro e w1 ⟨rfl, hb1⟩))
      go_ret
      exact ⟨rfl, hbx.trans hb1⟩
end Go.Proofs.YtifiipmmgnmciaaGreatDoor.Fs
namespace Go.Proofs.YtifiipmmgnmciaaGreatDoor.Fs
open Go.RowKit
set_option linter.unusedVariables false
set_option maxRecDepth 100000
end Go.Proofs.YtifiipmmgnmciaaGreatDoor.Fs
namespace Go.Proofs.YtifiipmmgnmciaaGreatDoor.Fs
open Go.RowKit Go.Sort
set_option linter.unusedVariables false
set_option maxRecDepth 100000
def tv (b : B) : Value := .string (bs b)
theorem sort_any (v : Value) (n B0 : Nat) (l : List B) (w : World) (hown : w.ownsRow B0 9 1 v n (l.map tv)) (hn : l.length = n) (hl : l.length ≤ 1000000) :
    Calls Tryz.prog 245 #[v] w fun e w' => e = .returned (.tuple #[]) ∧ w'.ownsRow B0 9 1 v n ((l.mergeSort fun x y => decide (x ≤ y)).map tv) ∧ w.grownBy w' v.ownBlock := by
  subst hn
  rcases hown.2 with ⟨rfl, h0⟩ | ⟨g, cap, cur, rfl, hB, hg, h1, h2, h3, h4⟩
  · have : l = [] := List.eq_nil_of_length_eq_zero h0
    subst this
    refine (Any.slices_Sort_string_none Tryz.l245 none 0 w).mono ?_
    rintro e w' ⟨h5, rfl⟩
    exact ⟨h5, by simpa using World.ownsRow_nil _ _ _ _, World.grownBy.refl _ _⟩
  · have hH := holds_gen (enc := encStr) (is := l) hg (by rw [Nat.mul_one] at h4; exact h4)
    have hlt : g < w.heap.size := (Array.getElem?_eq_some_iff.1 hg).1
    refine (Any.slices_Sort_string Tryz.l245 g 0 cap l w hH hlt (by omega)).mono ?_
    rintro e w' ⟨h5, m, os, rfl⟩
    have hp : (l.mergeSort fun x y => decide (x ≤ y)).length = l.length := (List.mergeSort_perm l _).length_eq
    refine ⟨h5, ?_, grown_gen encStr _⟩
    have := owns_gen (n := m) (os := os) encStr (ts := l.mergeSort fun x y => decide (x ≤ y)) hB hg (by rw [hp]; exact h1) h2 h3
    rw [hp] at this
    exact this
def CompactSays (v : Value) (m : List B) (w : World) (e : Ending) (w' : World) : Prop := ∃ A c, e = .returned (.slice A m.length c) ∧ Reads w' w'.heap.size 1 A m.length (m.map tv) ∧ w.grownBy w' v.ownBlock
theorem compact_any (v : Value) (n B0 : Nat) (l : List B) (w : World) (hown : w.ownsRow B0 9 1 v n (l.map tv)) (hn : l.length = n) (hl : l.length ≤ 1000000) :
    Calls Tryz.prog 366 #[v] w (CompactSays v (Lib.compact l) w) := by
  subst hn
  rcases hown.2 with ⟨rfl, h0⟩ | ⟨g, cap, cur, rfl, hB, hg, h1, h2, h3, h4⟩
  · have : l = [] := List.eq_nil_of_length_eq_zero h0
    subst this
    refine (Tryz.slices_Compact_string_empty none 0 w).mono ?_
    rintro e w' ⟨h5, rfl⟩
    exact ⟨none, 0, h5, Reads.none_, World.grownBy.refl _ _⟩
  · have hH := holds_gen (enc := encStr) (is := l) hg (by rw [Nat.mul_one] at h4; exact h4)
    refine (Tryz.slices_Compact_string g 0 cap l w hH (by omega) h1).mono ?_
    rintro e w' ⟨h5, q, rfl⟩
    have hle := Lib.compact_length_le l
    have hlen : (Lib.compact l ++ List.replicate (l.length - (Lib.compact l).length) ([] : B)).length = l.length := by simp; omega
    have eg : ∀ W : World, grow W #[] = W := fun W => by simp [grow]
    have ow := owns_gen (n := q) (os := #[]) encStr (ts := Lib.compact l ++ List.replicate (l.length - (Lib.compact l).length) ([] : B)) hB hg (by rw [hlen]; exact h1) h2 h3
    have gr := grown_gen (w := w) (g := g) (n := q) (os := #[]) encStr (Lib.compact l ++ List.replicate (l.length - (Lib.compact l).length) ([] : B)).toArray
    rw [eg] at ow gr
    refine ⟨_, _, h5, ?_, gr⟩
    have rd := Reads.of_own ow
    refine ⟨by simp, fun hn => ?_⟩
    obtain ⟨ad, e1, h6, h7⟩ := rd.2 (by rw [hlen]; omega)
    refine ⟨ad, e1, h6, fun j u hu => h7 j u ?_⟩
    rw [List.map_append, List.getElem?_append_left (by have := (List.getElem?_eq_some_iff.1 hu).1; simpa using this)]
    exact hu
end Go.Proofs.YtifiipmmgnmciaaGreatDoor.Fs
/- FsDir, what a claim needs of it (prune.py). -/
namespace Go.Proofs.YtifiipmmgnmciaaGreatDoor.Fs
open Go.RowKit
set_option linter.unusedVariables false
set_option maxRecDepth 100000
theorem cuts_any (s : ByteArray) (hs : s.size ≤ 1000000) (w : World) (hE : Env w) :
    Calls Tryz.prog 365 #[.string s, .string ⟨#[47]⟩] w fun e w' => (∃ x y, e = .returned (.tuple #[.string (bs (head (tl s))), x, y])) ∧ Below w.heap.size w w' := by
  obtain ⟨⟨m, hm⟩, _⟩ := hE
  refine (Tryz.strings_Cut s ⟨#[47]⟩ m w (by omega) hm).mono ?_
  rintro e w' ⟨h1, n, rfl⟩
  refine ⟨⟨.string ⟨(Lib.cut (tl s) [47]).2.1.toArray⟩, .bool (Lib.cut (tl s) [47]).2.2, ?_⟩, belowDN (Below.refl _ _) n⟩
  rw [h1, ← cut_head]; rfl
def EntsSay (m : List En) (w : World) (e : Ending) (w' : World) : Prop := (∃ A c, e = .returned (.slice A m.length c) ∧ Ens w' A m) ∧ Below w.heap.size w w'
theorem own_ens {w w0 : World} {v : Value} {m : List En} {n B : Nat} (h : w.ownsRow B 468 3 v n (ec m)) (hn : m.length = n) (hb : Below w0.heap.size w0 w) : EntsSay m w0 (.returned v) w := by
  subst hn
  have hv : ∃ A c, v = .slice A m.length c := by
    rcases h.2 with ⟨rfl, h0⟩ | ⟨g, cap, cur, rfl, hB, hg, h1, _⟩
    · exact ⟨none, 0, by rw [h0]⟩
    · exact ⟨_, _, rfl⟩
  obtain ⟨A, c, rfl⟩ := hv
  exact ⟨⟨A, c, rfl, Reads.of_own h⟩, hb⟩
def EntsOwn (m : List En) (w : World) (e : Ending) (w' : World) : Prop := ∃ v B0, e = .returned v ∧ w.heap.size ≤ B0 ∧ w'.ownsRow B0 468 3 v m.length (ec m) ∧ Below w.heap.size w w'
theorem EntsOwn.say {m : List En} {w w' : World} {e : Ending} (h : EntsOwn m w e w') : EntsSay m w e w' := by
  obtain ⟨v, B0, rfl, _, ho, hb⟩ := h
  exact own_ens ho rfl hb
def DigSays (l : List Fl) (w : World) (e : Ending) (w' : World) : Prop := e = .returned (.string (bs (digest l))) ∧ Below w.heap.size w w'
def heads (l : List Fl) (k : Nat) : List B := (l.take k).map fun f => head (tl f.p)
theorem heads_next {l : List Fl} {k : Nat} (hk : k < l.length) : heads l (k + 1) = heads l k ++ [head (tl l[k].p)] := by
  rw [heads, List.take_succ_eq_append_getElem hk, List.map_append]; rfl
theorem heads_len {l : List Fl} {k : Nat} (hk : k ≤ l.length) : (heads l k).length = k := by simp [heads]; omega
theorem names_heads (l : List Fl) : names l = Lib.compact ((heads l l.length).mergeSort fun x y => decide (x ≤ y)) := by rw [heads, List.take_length]; rfl
theorem reads3_new (w : World) (T : TypeId) (a b c : Value) (g : Nat) (hg : w.heap.size = g) : Reads (w.alloc (.cells #[a, b, c] T)) (w.alloc (.cells #[a, b, c] T)).heap.size 3 (some ⟨g, 0, none⟩) 1 [a, b, c] := by
  subst hg
  exact ⟨rfl, fun _ => ⟨_, rfl, by simp, fun j u hu => by
    rw [Lg.add_eq, Lg.cell_at (heap_alloc_new w _)]
    simpa using hu⟩⟩
theorem three {w : World} {g : Nat} {a b c : Value} {T : TypeId} (h : w.heap[g]? = some (.cells #[a, b, c] T (0, 0))) :
    w.cell? ⟨g, 0, none⟩ = some a ∧ w.cell? ⟨g, 1, none⟩ = some b ∧ w.cell? ⟨g, 2, none⟩ = some c ∧ w.frozen? ⟨g, 0, none⟩ = false ∧ w.frozen? ⟨g, 1, none⟩ = false ∧ w.frozen? ⟨g, 2, none⟩ = false :=
  ⟨cell_of_row w g 0 _ _ _ h, cell_of_row w g 1 _ _ _ h, cell_of_row w g 2 _ _ _ h, frozen_of_row w _ 0 _ _ h, frozen_of_row w _ 1 _ _ h, frozen_of_row w _ 2 _ _ h⟩
set_option maxHeartbeats 4000000 in
theorem pdir_step (A : Option Addr) (l : List Fl) (c : Nat) (p : B) (hp : p.length ≤ 1000000) (w : World) (hE : Env w) (hr : Fls w A l) (hs : Small l)
    (IH : ∀ l', bulk l' < bulk l → Small l' → ∀ A c W, Env W → Fls W A l' → Calls Tryz.prog 297 #[.slice A l'.length c] W (DigSays l' W)) :
    Calls Tryz.prog 345 #[.slice A l.length c, .string (bs p)] w (EntsOwn (dir (at_ l p)) w) := by
  have EV := Lib.hid (fun W (h : Below w.heap.size w W) => hE.below h)
  have UN : Hid (p ≠ [] → Calls Tryz.prog 92 #[.slice A l.length c, .string (bs p)] w (FilesSay (at_ l p) w)) := Lib.hid fun h => by
    have := under_any A l c (bs p) (by rw [bs_len]; omega) w hr hs
    rw [at_ne h]
    exact this
  have LN : Hid (p = [] → at_ l p = l) := Lib.hid fun h => by subst h; exact at_nil l
  have SM := Lib.hid (hs.at_ p)
  have IX : Hid (∀ n, n ∈ names (at_ l p) → ∀ A c W, Env W → Fls W A (under (at_ l p) n) → Calls Tryz.prog 297 #[.slice A (under (at_ l p) n).length c] W (DigSays (under (at_ l p) n) W)) := Lib.hid fun n hn => by
    have h1 := bulk_under_lt n (name_ne hn)
    have h2 := bulk_at l p
    exact IH _ (by omega) ((hs.at_ p).under n)
  have HR := Lib.hid hr
  have EN : Hid (∀ W v B, w.heap.size ≤ B → W.ownsRow B 468 3 v (names (at_ l p)).length (ec (ents (at_ l p) (names (at_ l p)).length)) → Below w.heap.size w W → EntsOwn (dir (at_ l p)) w (.returned v) W) := Lib.hid fun W v B hB h hb => by
    rw [ents_all, ← dir_len] at h
    exact ⟨_, _, rfl, hB, h, hb⟩
  obtain ⟨zs, hi, hz0, hz1, hz2⟩ := Lg.info_parts (@Lg.infoS)
  obtain ⟨ze, hei, hes⟩ := infoE
  obtain ⟨i1, ei, ez0, ez1, ez2⟩ := Lg.info_parts hei
  clear hr hE hs IH hei
  generalize EntsOwn (dir (at_ l p)) w = Q at *
  go_enter Tryz.func345, Tryz.ntmps345
  obtain ⟨b, hb⟩ : ∃ b, (bs p).toList.isEmpty = b := ⟨_, rfl⟩
  go_upto_if 20 with (fail)
  go_cut [5] from 18 to 25 (fun v wx => (∃ A c, v = .slice A (at_ l p).length c ∧ Fls wx A (at_ l p)) ∧ Below w.heap.size w wx)
  case first =>
    cases b
    · have U := Lib.hid (UN.out (fun e => by
        subst e
        have : (bs ([] : B)).toList.isEmpty = true := by rw [Lib.toList_data]; rfl
        rw [this] at hb; cases hb))
      go_wp2_with (go_at_call 92; (with_reducible refine (U.out).mono ?_); rintro e w1 ⟨⟨A1, c1, rfl, hr1, _⟩, hb1⟩; have H1 := Lib.hid hr1; clear hr1)
      go_meet
      exact ⟨⟨A1, c1, rfl, H1.out⟩, hb1⟩
    · have e0 : p = [] := by
        rcases Classical.em (p = []) with h | h
        · exact h
        · rw [bs_ne h] at hb; cases hb
      have L := Lib.hid (LN.out e0)
      go_wp2_with (fail)
      go_meet
      exact ⟨⟨A, c, by rw [L.out], by rw [L.out]; exact HR.out⟩, Below.refl _ _⟩
  case rest =>
    clear UN LN HR hb
    obtain ⟨⟨A1, c1, rfl, hr1⟩, hb1⟩ := hcut
    have hl := SM.out.len
    generalize at_ l p = m at *
    have RD : Hid (∀ W, Below wc.heap.size wc W → Reads W wc.heap.size 2 A1 m.length (fc m)) := Lib.hid fun W hW => hr1.below hW
    have EW : Hid (∀ W, Below wc.heap.size wc W → Env W) := Lib.hid fun W hW => EV.out _ (hb1.trans (hW.mono hb1.size))
    have BW : Hid (∀ W, Below wc.heap.size wc W → Below w.heap.size w W) := Lib.hid fun W hW => hb1.trans (hW.mono hb1.size)
    clear hr1 EV
    go_wp2_with (fail)
    go_loopw [6, 26] (fun v i W => ∃ k : Nat, i = .int .i64 k ∧ k ≤ m.length ∧ W.ownsRow wc.heap.size 9 1 v k ((heads m k).map tv) ∧ Below wc.heap.size wc W) (fun _ i _ => m.length - (intOf i).toNat)
    case atStart => exact ⟨0, rfl, by omega, World.ownsRow_nil _ _ _ _, Below.refl _ _⟩
    case round =>
      obtain ⟨k, rfl, hk, hown, hb⟩ := hrel
      have HO := Lib.hid hown
      clear hown
      by_cases hlt : k < m.length
      · have hkI : (k : Int) < (m.length : Int) := by omega
        obtain ⟨ad, rfl, had, c0, c1⟩ := Fls.at_ (RD.out _ hb) hlt
        have FN := Lib.hid (heads_next hlt)
        have FP := (SM.out.each m[k] (List.getElem_mem hlt)).1
        have hs1 := hb.size
        have q0 := heap_alloc_new wr (.cells #[.string m[k].p, .string m[k].d] 203)
        have b1 : Below wc.heap.size wc (wr.alloc (.cells #[.string m[k].p, .string m[k].d] 203)) := hb.alloc hb.size _
        have CU := Lib.hid (cuts_any m[k].p (by omega) _ (EW.out _ b1))
        have HO1 := Lib.hid (HO.out.alloc (.cells #[.string m[k].p, .string m[k].d] 203))
        have B1 := Lib.hid b1
        clear FP b1 HO
        generalize heads m k = hs at *
        generalize head (tl m[k].p) = h at *
        generalize m[k] = f at *
        go_wp2_with (first
          | (go_at_call 365; ((with_reducible refine (CU.out).mono ?_); rintro e w1 ⟨⟨x, y, rfl⟩, hb2⟩; have HO2 := Lib.hid (own_later HO1.out hb2); have b2 := B1.out.trans (hb2.mono B1.out.size); have hs2 := b2.size))
          | (at_builtin; refine wpList_append_any _ rfl (.tmp 37) (.tmp 39) _ rfl wc.heap.size 9 zs _ 1 16 Tryz.underlying32 hi hz0 hz1 hz2 rfl (by omega) _ k _ rfl (HO2.out.alloc _) _ (some ⟨w1.heap.size, 0, none⟩) 1 1 [.string (bs h)] rfl (Lg.reads_one (Lg.heap_new w1 _)) (Lg.mem1 rfl) (by simp only [maxLen]; omega) (by omega) (b2.alloc hs2 _).size ?_; intro v' w2 hown2 hg2 hat2))
        go_roundw
        case rel =>
          refine ⟨k + 1, by go_num, by omega, ?_, (b2.alloc hs2 _).grown hg2 (b2.alloc hs2 _).size ?_⟩
          · rw [FN.out, List.map_append]; exact hown2
          · intro g hg
            exact (HO2.out.lt g hg).1
        case measure => simp [intOf]; omega
      · obtain rfl : k = m.length := by omega
        have NH := Lib.hid (names_heads m)
        have HL := Lib.hid (heads_len (l := m) (Nat.le_refl _))
        generalize heads m m.length = hs at *
        have ST := Lib.hid (sort_any _ _ _ hs _ HO.out HL.out (by have := HL.out; omega))
        go_wp2_with (first
          | (go_at_call 245; (with_reducible refine (ST.out).mono ?_); rintro e w2 ⟨rfl, hown2, hg2⟩; have CO : Hid (Calls Tryz.prog 366 #[u6] w2 (CompactSays u6 (names m) w2)) := Lib.hid (by rw [NH.out]; exact compact_any _ _ _ _ _ hown2 (by rw [(List.mergeSort_perm _ _).length_eq]; exact HL.out) (by rw [(List.mergeSort_perm _ _).length_eq]; have := HL.out; omega)))
          | (go_at_call 366; (with_reducible refine (CO.out).mono ?_); rintro e w3 ⟨A3, c3, rfl, hr3, hg3⟩))
        have hs1 := hb.size
        have b2 : Below wc.heap.size wc w2 := hb.grown hg2 hs1 (fun g hg => (HO.out.lt g hg).1)
        have b3 : Below wc.heap.size wc w3 := b2.grown hg3 b2.size (fun g hg => (HO.out.lt g hg).1)
        have hs3 := b3.size
        have B3 := Lib.hid b3
        have RN : Hid (∀ W, Below w3.heap.size w3 W → Reads W w3.heap.size 1 A3 (names m).length ((names m).map tv)) := Lib.hid fun W hW => hr3.below hW
        have RF : Hid (∀ W, Below w3.heap.size w3 W → Fls W A1 m) := Lib.hid fun W hW => (RD.out _ (b3.trans (hW.mono hs3))).more (by have := hW.size; omega)
        have EX : Hid (∀ W, Below w3.heap.size w3 W → Env W) := Lib.hid fun W hW => EW.out _ (b3.trans (hW.mono hs3))
        have BX : Hid (∀ W, Below w3.heap.size w3 W → Below w.heap.size w W) := Lib.hid fun W hW => BW.out _ (b3.trans (hW.mono hs3))
        have NL := names_len m
        clear hown2 hg2 hr3 hg3 b2 b3 ST CO HO NH HL hb RD EW BW hlt hk
        clear hs
        go_loopw [12, 47] (fun v i W => ∃ k : Nat, i = .int .i64 k ∧ k ≤ (names m).length ∧ W.ownsRow w3.heap.size 468 3 v k (ec (ents m k)) ∧ Below w3.heap.size w3 W) (fun _ i _ => (names m).length - (intOf i).toNat)
        case atStart => exact ⟨0, rfl, by omega, World.ownsRow_nil _ _ _ _, Below.refl _ _⟩
        case round =>
          obtain ⟨k, rfl, hk, hown, hb⟩ := hrel
          have HO := Lib.hid hown
          clear hown
          by_cases hlt : k < (names m).length
          · have hkI : (k : Int) < ((names m).length : Int) := by omega
            obtain ⟨ad, u, rfl, had, hu, c0⟩ := Reads.at_ (RN.out _ hb) hlt
            obtain rfl : u = .string (bs (names m)[k]) := by
              rw [List.getElem?_map, List.getElem?_eq_getElem hlt] at hu
              exact (Option.some.inj hu).symm
            have FN := Lib.hid (ents_next hlt)
            have hmem := List.getElem_mem hlt
            have hnl := name_len SM.out hmem
            have IN := Lib.hid (IX.out _ hmem)
            clear hu hmem
            generalize ents m k = es at *
            generalize (names m)[k] = n at *
            have hs4 := hb.size
            obtain ⟨W0, eW⟩ : ∃ W0, W0 = wr.alloc (.cells #[.string (bs n), .bool false, .string ⟨#[]⟩] 468) := ⟨_, rfl⟩
            have hr0 : Below wr.heap.size wr W0 := by rw [eW]; exact (Below.refl _ _).alloc (Nat.le_refl _) _
            have q0 : W0.heap[wr.heap.size]? = some (.cells #[.string (bs n), .bool false, .string ⟨#[]⟩] 468 (0, 0)) := by rw [eW]; exact heap_alloc_new wr _
            have hz0 : W0.heap.size = wr.heap.size + 1 := by rw [eW]; simp
            have b0 : Below w3.heap.size w3 W0 := hb.trans (hr0.mono hs4)
            have R0 := Lib.hid hr0
            have Q0 : Hid (∀ W, Below W0.heap.size W0 W → W.heap[wr.heap.size]? = some (.cells #[.string (bs n), .bool false, .string ⟨#[]⟩] 468 (0, 0))) := Lib.hid fun W hW => (hW.block _ (by omega)).trans q0
            have GT := Lib.hid (get_any A1 m c1 (bs n) W0 (RF.out _ b0) (by omega))
            have B0 := Lib.hid b0
            have HB := Lib.hid hb
            clear q0 b0 hr0 hb
            cases hg : get m n with
            | some d =>
              have G1 : GetSays m (tl (bs n)) W0 = fun e w' => e = .returned (.tuple #[.string d, .bool true]) ∧ Below W0.heap.size W0 w' := by
                unfold GetSays
                rw [show tl (bs n) = n from rfl, hg]; rfl
              rw [G1] at GT
              obtain ⟨f, hf, rfl⟩ := get_mem hg
              have hd := (SM.out.each f hf).2
              have F := Lib.hid (entry_file hg)
              have SU : Hid (∀ W, Calls Tryz.prog 240 #[.string f.d] W fun e w' => e = .returned (.string (bs (Blk.sum (tl f.d)))) ∧ Below W.heap.size W w') := Lib.hid fun W => sum_any f.d hd W
              clear G1 hg hf hd IN
              generalize Blk.sum (tl f.d) = g at *
              go_wp2_with (first
                | (go_at_call 197; rw [← eW]; (with_reducible refine (GT.out).mono ?_); rintro e w4 ⟨rfl, hb4⟩; clear eW)
                | (go_at_call 240; (with_reducible refine (SU.out _).mono ?_); rintro e w5 ⟨rfl, hb5⟩; have h05 := hb4.trans (hb5.mono hb4.size); have hs5 := h05.size; obtain ⟨d0, d1, d2, f0, f1, f2⟩ := three (Q0.out _ h05); have hr5 := R0.out.trans (h05.mono R0.out.size))
                | (at_builtin; refine wpList_append_any _ rfl (.tmp 69) (.tmp 71) _ rfl w3.heap.size 468 i1 _ 3 40 Tryz.underlying439 ei ez0 ez1 ez2 hes (by omega) _ k _ rfl (own_later HO.out ((hr5.setCell (Nat.le_refl _) _).alloc (by simp; omega) _)) _ (some ⟨w5.heap.size, 0, none⟩) 1 1 [.string (bs n), .bool false, .string (bs g)] rfl (reads3_new _ _ _ _ _ _ (by simp)) (ec_cell [⟨n, false, g⟩]) (by simp only [maxLen]; omega) (by omega) (by simp; omega) ?_; intro v' w6 hown6 hg6 hat6))
              go_roundw
              case rel =>
                refine ⟨k + 1, by go_num, by omega, ?_, Below.grown (HB.out.trans (((hr5.setCell (Nat.le_refl _) _).alloc (by simp; omega) _).mono hs4)) hg6 (by simp; omega) (fun g hg => (HO.out.lt g hg).1)⟩
                rw [FN.out, ec_append, F.out]; exact hown6
              case measure => simp [intOf]; omega
            | none =>
              have G1 : GetSays m (tl (bs n)) W0 = fun e w' => e = .returned (.tuple #[.string ⟨#[]⟩, .bool false]) ∧ Below W0.heap.size W0 w' := by
                unfold GetSays
                rw [show tl (bs n) = n from rfl, hg]; rfl
              rw [G1] at GT
              have F := Lib.hid (entry_dir hg)
              have UD : Hid (∀ W, Below w3.heap.size w3 W → Calls Tryz.prog 92 #[.slice A1 m.length c1, .string (bs n)] W (FilesSay (under m n) W)) := Lib.hid fun W hW => under_any A1 m c1 (bs n) (by rw [bs_len]; omega) W (RF.out _ hW) SM.out
              clear G1 hg
              unfold DigSays at IN
              generalize under m n = un at *
              generalize digest un = g at *
              go_wp2_with (first
                | (go_at_call 197; rw [← eW]; (with_reducible refine (GT.out).mono ?_); rintro e w4 ⟨rfl, hb4⟩; clear eW; have U4 := Lib.hid (UD.out _ (B0.out.trans (hb4.mono B0.out.size))))
                | (go_at_call 92; (with_reducible refine (U4.out).mono ?_); rintro e w7 ⟨⟨A7, c7, rfl, hr7, _⟩, hb7⟩; have D7 := Lib.hid (IN.out A7 c7 w7 (EX.out _ ((B0.out.trans (hb4.mono B0.out.size)).trans (hb7.mono (B0.out.trans (hb4.mono B0.out.size)).size))) hr7); clear hr7)
                | (go_at_call 297; (with_reducible refine (D7.out).mono ?_); rintro e w5 ⟨rfl, hb5⟩; have h05 := (hb4.trans (hb7.mono hb4.size)).trans (hb5.mono (hb4.trans (hb7.mono hb4.size)).size); have hs5 := h05.size; obtain ⟨d0, d1, d2, f0, f1, f2⟩ := three (Q0.out _ h05); have hr5 := R0.out.trans (h05.mono R0.out.size))
                | (at_builtin; refine wpList_append_any _ rfl (.tmp 69) (.tmp 71) _ rfl w3.heap.size 468 i1 _ 3 40 Tryz.underlying439 ei ez0 ez1 ez2 hes (by omega) _ k _ rfl (own_later HO.out (((hr5.setCell (Nat.le_refl _) _).setCell (Nat.le_refl _) _).alloc (by simp; omega) _)) _ (some ⟨w5.heap.size, 0, none⟩) 1 1 [.string (bs n), .bool true, .string (bs g)] rfl (reads3_new _ _ _ _ _ _ (by simp)) (ec_cell [⟨n, true, g⟩]) (by simp only [maxLen]; omega) (by omega) (by simp; omega) ?_; intro v' w6 hown6 hg6 hat6))
              go_roundw
              case rel =>
                refine ⟨k + 1, by go_num, by omega, ?_, Below.grown (HB.out.trans ((((hr5.setCell (Nat.le_refl _) _).setCell (Nat.le_refl _) _).alloc (by simp; omega) _).mono hs4)) hg6 (by simp; omega) (fun g hg => (HO.out.lt g hg).1)⟩
                rw [FN.out, ec_append, F.out]; exact hown6
              case measure => simp [intOf]; omega
          · obtain rfl : k = (names m).length := by omega
            go_wp2_with (fail)
            exact EN.out _ _ _ (BX.out _ (Below.refl _ _)).size HO.out (BX.out _ hb)
theorem text_le (s : B) (h : s.length ≤ 1000000000) : (Pk.text s).length ≤ s.length + 21 := textlen_le (bs s) (by rw [bs_len]; exact h)
theorem entB_le {x : En} (h1 : x.n.length ≤ 1000) (h2 : x.g.length ≤ 1000) : (entB x).length ≤ 2200 := by
  unfold entB
  have t1 := text_le x.n (by omega)
  have t2 := text_le (kind x) (by unfold kind; split <;> simp)
  have t3 := text_le x.g (by omega)
  have hk : (kind x).length = 1 := by unfold kind; split <;> rfl
  have e : ([x.n, kind x, x.g].flatMap Pk.text).length = (Pk.text x.n).length + (Pk.text (kind x)).length + (Pk.text x.g).length := by simp; omega
  have t4 := text_le ([x.n, kind x, x.g].flatMap Pk.text) (by omega)
  unfold Pk.list
  omega
theorem bytesE_le : ∀ {l : List En}, (∀ x ∈ l, x.n.length ≤ 1000 ∧ x.g.length ≤ 1000) → (bytesE l).length ≤ l.length * 2200
  | [], _ => by simp [bytesE]
  | x :: l, h => by
    have ih := bytesE_le (l := l) fun y hy => h y (List.mem_cons_of_mem _ hy)
    have h0 := h x (by simp)
    have h1 := entB_le h0.1 h0.2
    rw [bytesE_eq, List.flatMap_cons, List.length_append, List.length_cons]
    rw [bytesE_eq] at ih
    omega
theorem entry_g (l : List Fl) (n : B) : (entry l n).g.length ≤ 1000 := by
  cases h : get l n with
  | some d => rw [entry_file h]; exact Nat.le_trans (Nat.le_of_eq (Blk.sum_len _)) (by omega)
  | none => rw [entry_dir h]; exact Nat.le_trans (Nat.le_of_eq (Blk.sum_len _)) (by omega)
theorem dir_bytes {l : List Fl} (h : Small l) : (bytesE (dir l)).length ≤ 440000 := by
  have h1 := bytesE_le (l := dir l) fun x hx => by
    rw [dir_map] at hx
    obtain ⟨n, hn, rfl⟩ := List.mem_map.1 hx
    exact ⟨by rw [entry_n]; exact name_len h hn, entry_g l n⟩
  have h2 := dir_len l
  have h3 := names_len l
  have h4 := h.len
  omega
theorem pdig_of {A : Option Addr} {l : List Fl} {c : Nat} {w : World} (hE : Env w) (hs : Small l) (h : Calls Tryz.prog 345 #[.slice A l.length c, .string (bs [])] w (EntsSay (dir (at_ l [])) w)) :
    Calls Tryz.prog 297 #[.slice A l.length c] w (DigSays l w) := by
  have D : Hid (Calls Tryz.prog 345 #[.slice A l.length c, .string ⟨#[]⟩] w (EntsSay (dir l) w)) := Lib.hid (by rw [at_nil] at h; exact h)
  have EV := Lib.hid (fun W (h : Below w.heap.size w W) => hE.below h)
  have hl := dir_bytes hs
  have DG : Hid (Blk.sum (bytesE (dir l)) = digest l) := Lib.hid rfl
  have SU : Hid (∀ W, Calls Tryz.prog 240 #[.string (bs (bytesE (dir l)))] W fun e w' => e = .returned (.string (bs (Blk.sum (bytesE (dir l))))) ∧ Below W.heap.size W w') := Lib.hid fun W => sum_any _ (by rw [bs_len]; omega) W
  have EN : Hid (∀ W, Below w.heap.size w W → DigSays l w (.returned (.string (bs (Blk.sum (bytesE (dir l)))))) W) := Lib.hid fun W hW => ⟨by rw [DG.out], hW⟩
  have BY : Hid (∀ A c W, Below w.heap.size w W → Ens W A (dir l) → Calls Tryz.prog 344 #[.slice A (dir l).length c] W fun e w' => e = .returned (.string (bs (bytesE (dir l)))) ∧ Below W.heap.size W w') := Lib.hid fun A c W hW hr => pbytes_any A (dir l) c W (EV.out _ hW).2 hr (by omega)
  clear h hE DG
  generalize DigSays l w = Q at *
  generalize Blk.sum (bytesE (dir l)) = g at *
  generalize bytesE (dir l) = t at *
  generalize dir l = m at *
  go_enter Tryz.func297, Tryz.ntmps297
  go_wp2_with (first
    | (go_at_call 345; (with_reducible refine (D.out).mono ?_); rintro e w1 ⟨⟨A1, c1, rfl, hr1⟩, hb1⟩; have B1 := Lib.hid (BY.out A1 c1 w1 hb1 hr1); clear hr1)
    | (go_at_call 344; (with_reducible refine (B1.out).mono ?_); rintro e w2 ⟨rfl, hb2⟩)
    | (go_at_call 240; (with_reducible refine (SU.out _).mono ?_); rintro e w3 ⟨rfl, hb3⟩))
  have hb02 := hb1.trans (hb2.mono hb1.size)
  exact EN.out _ (hb02.trans (hb3.mono hb02.size))
theorem pdigest_all : ∀ (n : Nat) (l : List Fl), bulk l < n → Small l → ∀ (A : Option Addr) (c : Nat) (w : World), Env w → Fls w A l → Calls Tryz.prog 297 #[.slice A l.length c] w (DigSays l w)
  | 0, _, h, _, _, _, _, _, _ => absurd h (by omega)
  | n + 1, l, h, hs, A, c, w, hE, hr => pdig_of hE hs ((pdir_step A l c [] (by simp) w hE hr hs fun l' h' => pdigest_all n l' (by omega)).mono fun _ _ h => h.say)
theorem pdigest_any (A : Option Addr) (l : List Fl) (c : Nat) (w : World) (hE : Env w) (hr : Fls w A l) (hs : Small l) :
    Calls Tryz.prog 297 #[.slice A l.length c] w (DigSays l w) := pdigest_all (bulk l + 1) l (by omega) hs A c w hE hr
end Go.Proofs.YtifiipmmgnmciaaGreatDoor.Fs
/- FsRefG, what a claim needs of it (prune.py). -/
namespace Go.Proofs.YtifiipmmgnmciaaGreatDoor.Fs
open Go.RowKit
set_option linter.unusedVariables false
set_option maxRecDepth 100000
end Go.Proofs.YtifiipmmgnmciaaGreatDoor.Fs
/- FsRefU, what a claim needs of it (prune.py). -/
namespace Go.Proofs.YtifiipmmgnmciaaGreatDoor.Fs
open Go.RowKit
set_option linter.unusedVariables false
end Go.Proofs.YtifiipmmgnmciaaGreatDoor.Fs
